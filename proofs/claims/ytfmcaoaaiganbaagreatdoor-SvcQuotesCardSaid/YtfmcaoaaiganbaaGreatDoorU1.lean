/- SvcQuotes returns true for every input; each argument reads behind the call as it read before. -/
import Derived.KernelRfl
import Derived.Great.BuildSlice
import Derived.WalkKit
import Derived.OrdersHeld
import Derived.Deep.Draws
import Derived.Scope
import Derived.RangeFuncSeq
import Derived.Laws.StructEq
import Derived.ChangeKeysEq
import Derived.DeepKeys
import Derived.RangeFuncLeaves
import Derived.RangeFuncRecord
import Derived.TacticsIn
import Derived.Laws.IdiomCopy
import Derived.Laws.MakeOwn
import Derived.Laws.OwnMore
import Derived.Lib.SliceRun
import Derived.Maps.AppendAt
import Derived.Deep.Upon
import Derived.ArgAppend
import Derived.MapKept
import Derived.Maps.Own
set_option linter.unusedVariables false
set_option linter.unusedSimpArgs false
namespace Go.Proofs.YtfmcaoaaiganbaaGreatDoor.V
open Go Go.RowKit
open Go.IntKind (i64 u32 u64)
section
structure Kept(B:Nat→Prop)(w w':World):Prop where
 os:w'.os=w.os
 tape:w'.tape=w.tape
 output:w'.output=w.output
 size:w.heap.size≤w'.heap.size
 block:∀k,B k→w'.heap[k]? =w.heap[k]?
theorem Kept.refl(B:Nat→Prop)(w:World):Kept B w w:=⟨rfl,rfl,rfl,Nat.le_refl _,fun _ _=>rfl⟩
theorem Kept.trans {B:Nat→Prop} {a b c:World}(h:Kept B a b)(k:Kept B b c):Kept B a c:=
 ⟨k.os.trans h.os,k.tape.trans h.tape,k.output.trans h.output,Nat.le_trans h.size k.size,fun i hi=>(k.block i hi).trans (h.block i hi)⟩
theorem Kept.mono {B B':Nat→Prop} {w w':World}(h:Kept B w w')(hb:∀k,B' k→B k):Kept B' w w':=
 ⟨h.os,h.tape,h.output,h.size,fun k hk=>h.block k (hb k hk)⟩
theorem Kept.cell {B:Nat→Prop} {w w':World} {p:Addr}(h:Kept B w w')(hp:B p.block):w'.cell? p=w.cell? p:=by
 unfold World.cell?
 rw [h.block _ hp]
theorem Kept.below {n:Nat} {w w':World}(h:Kept (· <n) w w'):Below n w w':=⟨h.os,h.tape,h.output,h.size,h.block⟩
theorem Kept.Ft {n:Nat} {w w':World}(h:Below n w w'):Kept (· <n) w w':=⟨h.os,h.tape,h.output,h.size,h.block⟩
def held(B:Option (Nat→Prop))(w:World):Nat→Prop:=
 match B with
 | none=>fun k=>k<w.heap.size
 | some b=>b
inductive Sh where
 | int (k:IntKind) | bool | str | ptr | slice | map | val
def Sh.ex:Sh→(Value→Prop)→Prop
 | .int k,F=>∃x:Int,F (.int k x)
 | .bool,F=>∃b:Bool,F (.bool b)
 | .str,F=>∃s:ByteArray,F (.string s)
 | .ptr,F=>∃a:Option Addr,F (.pointer a)
 | .slice,F=>∃(a:Option Addr)(n c:Nat),F (.slice a n c)
 | .map,F=>∃r:Option Nat,F (.map r)
 | .val,F=>∃v:Value,F v
theorem Sh.jG {s:Sh} {F:Value→Prop}(h:s.ex F):∃v,F v:=by
 cases s<;>simp only [Sh.ex]at h
 case int=>obtain⟨x,h⟩:=h;exact⟨_,h⟩
 case bool=>obtain⟨x,h⟩:=h;exact⟨_,h⟩
 case str=>obtain⟨x,h⟩:=h;exact⟨_,h⟩
 case ptr=>obtain⟨x,h⟩:=h;exact⟨_,h⟩
 case slice=>obtain⟨x,y,z,h⟩:=h;exact⟨_,h⟩
 case map=>obtain⟨x,h⟩:=h;exact⟨_,h⟩
 case val=>exact h
def exs:List Sh→(List Value→Prop)→Prop
 | [],F=>F []
 | s::r,F=>s.ex fun v=>exs r fun vs=>F (v::vs)
theorem BQ:∀ {l:List Sh} {F:List Value→Prop},exs l F→∃vs,F vs
 | [],_,h=>⟨[],h⟩
 | _::_,_,h=>by
  obtain⟨v,h⟩:=Sh.jG h
  obtain⟨vs,h⟩:=BQ h
  exact⟨_,h⟩
inductive Sh2 where
 | one (s:Sh) | agg (l:List Sh) | row (n:Nat)
def Sh2.ex:Sh2→(Value→Prop)→Prop
 | .one s,F=>s.ex F
 | .agg l,F=>exs l fun vs=>F (.agg ⟨vs⟩)
 | .row _,F=>∃cs:Array Value,F (.agg cs)
theorem Sh2.jG {s:Sh2} {F:Value→Prop}(h:s.ex F):∃v,F v:=by
 cases s with
 | one s=>exact Sh.jG h
 | agg l=>obtain⟨vs,h⟩:=BQ h;exact⟨_,h⟩
 | row n=>obtain⟨cs,h⟩:=h;exact⟨_,h⟩
def xk:List Sh2→(List Value→Prop)→Prop
 | [],F=>F []
 | s::r,F=>s.ex fun v=>xk r fun vs=>F (v::vs)
theorem xg:∀ {l:List Sh2} {F:List Value→Prop},xk l F→∃vs,F vs
 | [],_,h=>⟨[],h⟩
 | _::_,_,h=>by
  obtain⟨v,h⟩:=Sh2.jG h
  obtain⟨vs,h⟩:=xg h
  exact⟨_,h⟩
def Lv:Value→Sh
 | .int k _=>.int k
 | .bool _=>.bool
 | .string _=>.str
 | .pointer _=>.ptr
 | .slice .. =>.slice
 | .map _=>.map
 | _=>.val
def ER:Value→Sh2
 | .agg cs=>match Nat.ble cs.size 24 with
  | true=>.agg (cs.toList.map Lv)
  | false=>.row cs.size
 | v=>.one (Lv v)
def oH:Nat:=1000000007
def exT(P:Program)(t:TypeId)(F:Value→Prop):Prop:=
 match (P.info? t).bind (·.zero)with
 | some (.tuple vs)=>xk (vs.toList.map ER) fun us=>F (.tuple ⟨us⟩)
 | some z=>(ER z).ex F
 | none=>∃v,F v
theorem pD {P:Program} {t:TypeId} {F:Value→Prop}(h:exT P t F):∃v,F v:=by
 unfold exT at h
 split at h
 ·obtain⟨vs,h⟩:=xg h;exact⟨_,h⟩
 ·exact Sh2.jG h
 ·exact h
structure Fr where
 e:List (Nat×Value)
 g:Nat→Value
 ds:List Deferred
def lk(g:Nat→Value)(i:Nat):List (Nat×Value)→Value
 | []=>g i
 | (d,v)::r=>match Nat.beq i d with
  | true=>v
  | false=>lk g i r
def ev(fr:Fr):Operand→Value
 | .tmp t=>lk fr.g t fr.e
 | .const v=>v
 | .global g=>.pointer (some ⟨g,0,none⟩)
 | .func f=>.func (.func f) #[] #[]
structure Rep(n:Nat)(fr:Fr)(a:Act):Prop where
 size:a.tmps.size=n
 get:∀i,a.tmps.getD i undef=lk fr.g i fr.e
 defers:a.defers=fr.ds
theorem Rep.eval {n:Nat} {fr:Fr} {a:Act}(h:Rep n fr a):a.eval=ev fr:=by
 funext x
 cases x<;>simp [Act.eval,ev,h.get]
def JK(v:Value)(F:Value→Prop):Prop:=
 match v with
 | .int k x=>∀z:Int,z=x→F (.int k z)
 | .bool x=>∀z:Bool,z=x→F (.bool z)
 | v=>F v
theorem CQ {v:Value} {F:Value→Prop}(h:JK v F):F v:=by
 cases v<;>first | exact h | exact h _ rfl
def iF(n:Nat)(N:List Nat)(fr:Fr)(dst:Option Tmp)(v:Value)(F:Fr→Prop):Prop:=
 match dst with
 | none=>F fr
 | some d=>match Nat.blt d n with
  | true=>(match N.elem d with
   | true=>JK v fun v=>F ⟨(d,v)::fr.e,fr.g,fr.ds⟩
   | false=>F ⟨(d,v)::fr.e,fr.g,fr.ds⟩)
  | false=>False
structure Agr(ws:List Nat)(a b:Act):Prop where
 tmps:∀i,i ∉ ws→b.tmps.getD i undef=a.tmps.getD i undef
 defers:oH ∉ ws→b.defers=a.defers
theorem Agr.refl(ws:List Nat)(a:Act):Agr ws a a:=⟨fun _ _=>rfl,fun _=>rfl⟩
theorem Agr.trans {ws:List Nat} {a b c:Act}(h:Agr ws a b)(k:Agr ws b c):Agr ws a c:=⟨fun i hi=>(k.tmps i hi).trans (h.tmps i hi),fun hi=>(k.defers hi).trans (h.defers hi)⟩
theorem Agr.mono {ws ws':List Nat} {a b:Act}(h:Agr ws a b)(hs:∀i,i∈ws→i∈ws'):Agr ws' a b:=⟨fun i hi=>h.tmps i (fun h'=>hi (hs i h')),fun hi=>h.defers (fun h'=>hi (hs _ h'))⟩
theorem oG(a:Act)(d:Nat)(v:Value)(i:Nat)(h:i≠d):(a.put (some d) v).tmps.getD i undef=a.tmps.getD i undef:=by
 simp only [Act.put,Array.getD_eq_getD_getElem?,Array.getElem?_setIfInBounds]
 rw [if_neg (by omega)]
theorem getD_put_eq(a:Act)(d:Nat)(v:Value)(h:d<a.tmps.size):(a.put (some d) v).tmps.getD d undef=v:=by
 simp only [Act.put,Array.getD_eq_getD_getElem?,Array.getElem?_setIfInBounds]
 simp [h]
theorem fE {n:Nat} {N:List Nat} {fr:Fr} {a:Act} {dst:Option Tmp} {v:Value} {F:Fr→Prop}(hr:Rep n fr a)(h:iF n N fr dst v F):
 ∃fr',Rep n fr' (a.put dst v)∧F fr':=by
 unfold iF at h
 cases dst with
 | none=>exact⟨fr,hr,h⟩
 | some d=>
  simp only at h
  split at h
  ·rename_i hb
   have hd:d<n:=by simpa [Nat.blt_eq]using hb
   have h:F ⟨(d,v)::fr.e,fr.g,fr.ds⟩:=by
    split at h
    ·exact CQ h
    ·exact h
   refine⟨_,⟨by simp [Act.put,hr.size],fun i=>?_,by simp [Act.put,hr.defers]⟩,h⟩
   simp only [lk]
   split
   ·rename_i hi
    obtain rfl:i=d:=Nat.eq_of_beq_eq_true hi
    exact getD_put_eq a i v (by rw [hr.size];exact hd)
   ·rename_i hi
    have Pb:i≠d:=by rintro rfl;simp at hi
    rw [oG a d v i Pb,hr.get]
  ·exact h.elim
theorem Agr.put {ws:List Nat}(a:Act)(dst:Option Tmp)(v:Value)(h:∀d,dst=some d→d∈ws):Agr ws a (a.put dst v):=by
 refine⟨fun i hi=>?_,fun _=>by cases dst<;>rfl⟩
 cases dst with
 | none=>rfl
 | some d=>exact oG a d v i (fun e=>hi (e▸h d rfl))
def split(b:Bool)(x y:Prop):Prop:=
 match b with
 | true=>x
 | false=>y
theorem ao {b:Bool} {x y:Prop}(h1:b=true→x)(h0:b=false→y):split b x y:=by
 cases b
 ·exact h0 rfl
 ·exact h1 rfl
theorem fq {b:Bool} {x y:Prop}(h:split b x y):(b=true∧x)∨(b=false∧y):=by
 cases b
 ·exact .inr ⟨rfl,h⟩
 ·exact .inl ⟨rfl,h⟩
def aB {α:Type}(a:Option α)(F:α→Prop):Prop:=
 match a with
 | some p=>F p
 | none=>False
theorem au {α:Type} {a:Option α} {F:α→Prop}(p:α)(h:a=some p)(hp:F p):aB a F:=by
 subst h
 exact hp
theorem cx {α:Type} {a:Option α} {F:α→Prop}(h:aB a F):∃p,a=some p∧F p:=by
 cases a with
 | none=>exact h.elim
 | some p=>exact⟨p,rfl,h⟩
def kEq:IntKind→IntKind→Bool
 | .i8,.i8 | .i16,.i16 | .i32,.i32 | .i64,.i64 | .u8,.u8 | .u16,.u16 | .u32,.u32 | .u64,.u64=>true
 | _,_=>false
theorem mV {a b:IntKind}(h:kEq a b=true):a=b:=by
 cases a<;>cases b<;>simp_all [kEq]
def fU(P:Program)(t:TypeId):Bool:=
 match P.underlying t with
 | some (.struct _)=>true
 | some (.array _ _)=>true
 | _=>false
def jN:Value→Value→Bool
 | .int _ a,.int _ b=>a==b
 | .bool a,.bool b=>a==b
 | .string a,.string b=>a.toList==b.toList
 | _,_=>false
def eqL:List Value→List Value→Bool
 | a::az,b::bs=>jN a b && eqL az bs
 | _,_=>true
def bp(xs ys:Array Value):Bool:=eqL xs.toList ys.toList
def qF(P:Program)(g:TypeId→Option (List Sh)):Nat→List Field→Option (List Sh)
 | _,[]=>some []
 | off,f::r=>match Nat.beq f.offset off,f.name== "_",g f.type,P.info? f.type with
  | true,false,some l,some i=>(match Nat.beq i.size l.length,qF P g (off+l.length) r with
   | true,some l'=>some (l++l')
   | _,_=>none)
  | _,_,_,_=>none
def CC(l:List Sh):Nat→List Sh
 | 0=>[]
 | n+1=>l++CC l n
def gl(P:Program):Nat→TypeId→Option (List Sh)
 | 0,_=>none
 | m+1,t=>match P.underlying t with
  | some (.int k)=>some [.int k]
  | some .bool=>some [.bool]
  | some .string=>some [.str]
  | some (.struct fs)=>match P.stoodInHeld t with
   | true=>none
   | false=>qF P (gl P m) 0 fs.toList
  | some (.array n e)=>match gl P m e,P.info? e with
   | some l,some i=>(match Nat.beq i.size l.length with
    | true=>some (CC l n)
    | false=>none)
   | _,_=>none
  | _=>none
def cF:List Sh→List Value→Bool
 | [],[]=>true
 | .int k::l,.int k' _::vs=>match kEq k k' with
  | true=>cF l vs
  | false=>false
 | .bool::l,.bool _::vs=>cF l vs
 | .str::l,.string _::vs=>cF l vs
 | _,_=>false
def Iw(l:List Sh)(xs:Array Value)(F:Prop):Prop:=
 match Nat.ble l.length 24 with
 | true=>(match cF l xs.toList with
  | true=>F
  | false=>False)
 | false=>cF l xs.toList=true∧F
theorem wX {l:List Sh} {xs:Array Value} {F:Prop}(h:Iw l xs F):cF l xs.toList=true∧F:=by
 unfold Iw at h
 split at h
 ·split at h
  ·rename_i hf;exact⟨hf,h⟩
  ·exact h.elim
 ·exact h
abbrev aC:=Value→World→Prop
def iu(w:World)(p:Addr):Nat→List Value→Prop
 | _,[]=>True
 | i,[v]=>w.cell? (p.add i)=some v
 | i,v::r=>w.cell? (p.add i)=some v∧iu w p (i+1) r
theorem uV {w:World} {p:Addr} {i:Nat} {v:Value} {r:List Value}(h:iu w p i (v::r)):w.cell? (p.add i)=some v∧iu w p (i+1) r:=by
 cases r with
 | nil=>exact⟨h,trivial⟩
 | cons u r=>exact h
def gw(w:World)(p:Addr):Sh2→Value→Prop
 | .one _,v=>w.cell? p=some v
 | .agg l,.agg cs=>match Nat.beq cs.toList.length l.length with
  | true=>iu w p 0 cs.toList
  | false=>False
 | .row n,.agg cs=>cs.size=n∧∀i u,cs[i]? =some u→w.cell? (p.add i)=some u
 | _,_=>False
def cY(P:Program)(t:TypeId):Sh2:=
 match (P.info? t).bind (·.zero)with
 | some z=>ER z
 | none=>.one .val
def qT(P:Program)(t:TypeId)(b:Bool):Bool:=
 match P.underlying t with
 | some (.struct _)=>b
 | some (.array _ _)=>b
 | some _=>!b
 | none=>false
theorem tS {P:Program} {t:TypeId} {b:Bool}(h:qT P t b=true)(w:World):(isAgg t).run P w= .ok b w:=by
 unfold qT at h
 cases hu:P.underlying t with
 | none=>simp [hu]at h
 | some d=>cases d<;>simp_all [isAgg,run_underlying hu]
def qd:Sh2→Bool
 | .one _=>false
 | _=>true
def fT:Sh2→Nat
 | .one _=>1
 | .agg l=>l.length
 | .row n=>n
def one? :Value→Prop→Prop
 | .agg _,_=>False
 | .tuple _,_=>False
 | _,p=>p
def mC(p:Addr):Nat→List Value→World→(World→Prop)→Prop
 | _,[],w,K=>K w
 | i,v::r,w,K=>one? v ((∃u,w.cell? (p.add i)=some u)∧w.frozen? (p.add i)=false∧mC p (i+1) r (w.setCell (p.add i) v) K)
def nz(y:Int)(p:Prop):Prop:=
 match y with
 | .ofNat 0=>False
 | .ofNat (_+1)=>p
 | .negSucc _=>p
theorem Fu {y:Int} {p:Prop}(h:nz y p):y≠0∧p:=by
 cases y with
 | ofNat n=>cases n with
  | zero=>exact h.elim
  | succ n=>exact⟨by simp;omega,h⟩
 | negSucc n=>exact⟨by simp,h⟩
def dZ(y:Int)(F:Nat→Prop):Prop:=
 match y with
 | .ofNat n=>F n
 | .negSucc _=>False
theorem dM {y:Int} {F:Nat→Prop}(hy:0≤y)(hF:F y.toNat):dZ y F:=by
 cases y with
 | ofNat n=>exact hF
 | negSucc n=>omega
theorem oz {y:Int} {F:Nat→Prop}(h:dZ y F):¬y<0∧F y.toNat:=by
 cases y with
 | ofNat n=>exact⟨by simp,h⟩
 | negSucc n=>exact h.elim
def FI(op:BinOp)(k:IntKind)(x y:Int)(F:Value→Prop):Prop:=
 match op with
 | .add=>F (.int k (k.wrap (x+y)))
 | .sub=>F (.int k (k.wrap (x - y)))
 | .mul=>F (.int k (k.wrap (x*y)))
 | .quo=>nz y (F (.int k (k.wrap (x.tdiv y))))
 | .rem=>nz y (F (.int k (x.tmod y)))
 | .and=>F (.int k (k.wrap (BitVec.ofInt k.bits x &&& BitVec.ofInt k.bits y).toNat))
 | .or=>F (.int k (k.wrap (BitVec.ofInt k.bits x ||| BitVec.ofInt k.bits y).toNat))
 | .xor=>F (.int k (k.wrap (BitVec.ofInt k.bits x ^^^ BitVec.ofInt k.bits y).toNat))
 | .andNot=>F (.int k (k.wrap (BitVec.ofInt k.bits x &&& ~~~(BitVec.ofInt k.bits y)).toNat))
 | .eql=>F (.bool (x==y))
 | .neq=>F (.bool (x !=y))
 | .lss=>F (.bool (decide (x<y)))
 | .leq=>F (.bool (decide (x≤y)))
 | .gtr=>F (.bool (decide (x>y)))
 | .geq=>F (.bool (decide (x≥y)))
 | _=>False
def uA(op:BinOp)(k:IntKind)(x y:Int)(F:Value→Prop):Prop:=
 match op with
 | .shl=>dZ y fun n=>F (.int k (k.wrap (x*2 ^ (min n k.bits))))
 | .shr=>dZ y fun n=>F (.int k (x.fdiv (2 ^ (min n k.bits))))
 | _=>False
def uR:BinOp→Bool
 | .shl | .shr=>true
 | _=>false
def EM(op:BinOp)(x y:ByteArray)(F:Value→Prop):Prop:=
 match op with
 | .add=>x.size+y.size≤9223372036854775807∧F (.string (x++y))
 | .eql=>F (.bool (x.toList==y.toList))
 | .neq=>F (.bool (!(x.toList==y.toList)))
 | .lss=>F (.bool (Op.bytesLess x.toList y.toList))
 | .leq=>F (.bool (Op.bytesLess x.toList y.toList || x.toList==y.toList))
 | .gtr=>F (.bool (!(Op.bytesLess x.toList y.toList || x.toList==y.toList)))
 | .geq=>F (.bool (!(Op.bytesLess x.toList y.toList)))
 | _=>False
def eqB(op:BinOp)(b:Bool)(F:Value→Prop):Prop:=
 match op with
 | .eql=>F (.bool b)
 | .neq=>F (.bool (!b))
 | _=>False
def K8(P:Program)(op:BinOp)(t:TypeId)(Y:Operand)(x y:Value)(F:Value→Prop)(els:Prop):Prop:=
 match x,y with
 | .int k a,.int k' b=>match uR op with
  | true=>uA op k a b F
  | false=>match kEq k k' with
   | true=>FI op k a b F
   | false=>False
 | .string a,.string b=>EM op a b F
 | .bool a,.bool b=>match P.underlying t with
  | some .bool=>eqB op (a==b) F
  | _=>els
 | .pointer a,_=>match P.underlying t,Y with
  | some (.pointer _),.const (.pointer none)=>eqB op a.isNone F
  | _,_=>els
 | .slice a _ _,_=>match P.underlying t,Y with
  | some (.slice _),.const (.slice none _ _)=>eqB op a.isNone F
  | _,_=>els
 | .map a,_=>match P.underlying t,Y with
  | some (.map _ _),.const (.map none)=>eqB op a.isNone F
  | _,_=>els
 | .agg xs,.agg ys=>match P.eqGuardType P.depth t,fU P t,gl P 8 t with
  | false,true,some l=>Iw l xs (Iw l ys (eqB op (bp xs ys) F))
  | _,_,_=>els
 | _,_=>els
def unM(op:UnOp)(x:Value)(F:Value→Prop):Prop:=
 match op,x with
 | .not,.bool b=>F (.bool (!b))
 | .neg,.int k n=>F (.int k (k.wrap (0 - n)))
 | .xor,.int k n=>F (.int k (k.wrap (BitVec.ofInt k.bits (if k.signed then -1 else k.max) ^^^ BitVec.ofInt k.bits n).toNat))
 | _,_=>False
def oN(hi:Option Value)(len cap:Nat)(F:Nat→Prop):Prop:=
 match hi with
 | none=>F len
 | some (.int _ h)=>(0≤h∧h≤cap)∧F h.toNat
 | _=>False
def oM(lo:Option Value)(h:Nat)(F:Nat→Prop):Prop:=
 match lo with
 | none=>F 0
 | some (.int _ l)=>(0≤l∧l≤h)∧F l.toNat
 | _=>False
def l9(mx:Option Value)(cap:Nat)(F:Nat→Prop):Prop:=
 match mx with
 | none=>F cap
 | some (.int _ m)=>(0≤m∧m≤cap)∧F m.toNat
 | _=>False
def aP(P:Program)(t:TypeId):Nat:=
 match P.info? t with
 | some i=>i.size
 | none=>0
def hasType(P:Program)(t:TypeId):Bool:=
 match P.info? t with
 | some _=>true
 | none=>false
def lU(P:Program)(t:TypeId)(x:Value)(lo hi mx:Option Value)(F:Value→Prop)(els:Prop):Prop:=
 match P.underlying t,x with
 | some (.slice e),.slice a len cap=>match hasType P e && (mx.isNone || hi.isSome)with
  | true=>l9 mx cap fun m=>oN hi len m fun h=>oM lo h fun l=>
   ∀a',a'=(if m=l then a else a.map (·.add (l*aP P e)))→∀n',n'=h - l→∀c',c'=m - l→F (.slice a' n' c')
  | false=>False
 | some .string,.string s=>match mx with
  | none=>oN hi s.size s.size fun h=>oM lo h fun l=>F (.string (s.extract l h))
  | some _=>False
 | some (.array n e),.pointer a=>match hasType P e && (mx.isNone || hi.isSome)with
  | true=>aB a fun p=>l9 mx n fun m=>oN hi n m fun h=>oM lo h fun l=>
   ∀a',a'=some (if m=l then p else p.add (l*aP P e))→∀n',n'=h - l→∀c',c'=m - l→F (.slice a' n' c')
  | false=>False
 | _,_=>els
def lx(P:Program)(t:TypeId)(x i:Value)(F:Value→Prop):Prop:=
 match P.underlying t,x,i with
 | some (.slice e),.slice a n _,.int _ i=>match hasType P e with
  | true=>(0≤i∧i<n)∧aB a fun p=>F (.pointer (some (p.add (i.toNat *aP P e))))
  | false=>False
 | some (.array n e),.pointer a,.int _ i=>match hasType P e with
  | true=>(0≤i∧i<n)∧aB a fun p=>F (.pointer (some (p.add (i.toNat *aP P e))))
  | false=>False
 | _,_,_=>False
def jF(P:Program)(s:TypeId)(x:Value)(f:Nat)(F:Value→Prop):Prop:=
 match P.underlying s with
 | some (.struct fields)=>match fields[f]? with
  | some fd=>match P.info? fd.type with
   | some i=>match Nat.beq i.size 0 with
    | false=>match x with
     | .pointer a=>aB a fun p=>F (.pointer (some (p.add fd.offset)))
     | _=>False
    | true=>False
   | none=>False
  | none=>False
 | _=>False
def F5(P:Program)(src dst:TypeId)(x:Value)(F:Value→Prop)(els:Prop):Prop:=
 match P.underlying src,P.underlying dst,x with
 | some _,some (.int k),.int _ n=>F (.int k (k.wrap n))
 | some _,some .string,.string s=>F (.string s)
 | _,_,_=>els
def QpP:Option (List PanicEntry→World→Prop)→List PanicEntry→World→Prop
 | none,_,_=>False
 | some q,ch,w=>q ch w
def bW(P:Program)(f:FuncId):Bool:=
 match P.funcs[f]? with
 | some fn=>fn.body.isSome && !(fn.name== "runtime.NumGoroutine")
 | none=>false
def setRow(p:Addr):Nat→List Value→World→World
 | _,[],w=>w
 | i,v::r,w=>setRow p (i+1) r (w.setCell (p.add i) v)
def Blk(w:World)(g:Nat)(cs:Array Value)(T:TypeId):Prop:=w.heap[g]? =some (.cells cs T (0,0))
def setAt(cs:Array Value)(o:Nat):List Value→Array Value
 | []=>cs
 | v::r=>setAt (cs.setIfInBounds o v) (o+1) r
structure bI(w:World)(g:Nat)(cs:Array Value)(T:TypeId)(w2:World):Prop where
 blk:Blk w2 g cs T
 kept:Kept (fun k=>k≠g) w w2
 size:w2.heap.size=w.heap.size
def aF(w:World)(p:Addr)(vs:List Value)(K:World→Prop):Prop:=
 ∃(g o:Nat)(cs:Array Value)(T:TypeId),p=⟨g,o,none⟩∧Blk w g cs T∧o+vs.length≤cs.size∧∀w2,bI w g (setAt cs o vs) T w2→K w2
def lv:List Value→Prop→Prop
 | [],F=>F
 | v::r,F=>one? v (lv r F)
def qu(K:aC)(v:Value)(w':World):Prop:=
 match v with
 | .pointer (some ⟨b,0,none⟩)=>∀(g:Nat)(w2:World),g=b→w2=w'→K (.pointer (some ⟨g,0,none⟩)) w2
 | .slice (some ⟨b,0,none⟩) n c=>∀(g:Nat)(w2:World),g=b→w2=w'→K (.slice (some ⟨g,0,none⟩) n c) w2
 | v=>K v w'
theorem tq {K:aC} {v:Value} {w':World}(h:qu K v w'):K v w':=by
 unfold qu at h
 split at h
 ·exact h _ _ rfl rfl
 ·exact h _ _ rfl rfl
 ·exact h
def F8(P:Program)(C:List Nat)(Y:Bool)(v:Value)(args:Array Value)(w:World)(R:Ending→World→Prop):Prop:=
 match v with
 | .func (.func f) first cap=>(match C.elem f with
  | true=>Calls P f (first++args++cap) w R
  | false=>False)
 | .func (.yield l) first _=>(match Y with
  | true=>YieldAt Fence.wide 0 P l (first++args) w R
  | false=>False)
 | _=>False
def wH(P:Program)(t:TypeId)(name:String):Option FuncId:=
 match P.info? t,P.underlying t with
 | some _,some (.pointer _)=>none
 | some i,some _=>(match i.methods.find? (·.name==name)with
  | some m=>(match m.func,m.path.toList with
   | some (f,false),[]=>some f
   | _,_=>none)
  | none=>none)
 | _,_=>none
theorem ts {P:Program} {t:TypeId} {name:String} {f:FuncId} {u:Value}(h:wH P t name=some f)(w:World):(method (P.types.size+Made.depth) t u name).run P w= .ok (f,u) w:=by
 obtain⟨n,hn⟩:∃n,P.types.size+Made.depth=n+1:=⟨P.types.size+Made.depth - 1,by unfold Made.depth;omega⟩
 rw [hn]
 unfold wH at h
 split at h
 ·cases h
 ·rename_i i d hi hu hd
  split at h
  ·rename_i m hm
   split at h
   ·rename_i f' hf hp
    injection h with h
    subst h
    have hm':i.methods.find? (fun m=>m.name==name)=some m:=hm
    cases d<;>simp_all [method,typeInfo,follow,receiverAt,underlying,Place.get]
   ·cases h
  ·cases h
 ·cases h
def Mc(P:Program)(C:List Nat)(v:Value)(name:String)(args:Array Value)(w:World)(R:Ending→World→Prop):Prop:=
 ∃(t:TypeId)(u:Value)(f:Nat),v= .iface t u∧wH P t name=some f∧C.elem f=true∧Calls P f (#[u]++args) w R
def BV(P:Program)(t:TypeId)(K:aC)(Qp:Option (List PanicEntry→World→Prop)):Ending→World→Prop:=
 match Qp with
 | none=>fun e w'=>exT P t fun v=>e= .returned v∧K v w'
 | some q=>fun e w'=>(exT P t fun v=>e= .returned v∧K v w')∨∃ch,e= .panicked ch∧q ch w'
theorem n7 {P:Program} {t:TypeId} {K:aC} {Qp:Option (List PanicEntry→World→Prop)} {e:Ending} {w':World}(h:BV P t K Qp e w'):(∃v,e= .returned v∧K v w')∨∃ch,e= .panicked ch∧QpP Qp ch w':=by
 unfold BV at h
 cases Qp with
 | none=>exact .inl (pD h)
 | some q=>exact h.imp pD id
def eE(P:Program) {α:Type}:Sem α→Option α
 | .pure a=>some a
 | .program k=>eE P (k P)
 | .mark _ k=>eE P k
 | _=>none
theorem wi {P:Program} {α:Type} {s:Sem α} {v:α}(h:eE P s=some v)(w:World):s.run P w= .ok v w:=by
 induction s with
 | pure a=>simp only [eE,Option.some.injEq]at h;subst h;rfl
 | program k ih=>exact ih _ h
 | mark m k ih=>exact ih h
 | _=>simp [eE]at h
def oO(F:Value→Prop)(els:Prop):Option Next→Prop
 | some (.value v)=>F v
 | _=>els
def zL(P:Program)(t:TypeId)(x i:Value)(F:Value→Prop):Prop:=
 match P.underlying t,x,i with
 | some .string,.string s,.int _ i=>aB (if 0≤i then s[i.toNat]? else none) fun b=>F (.int .u8 b.toNat)
 | some (.array n e),.agg cs,.int _ i=>match qT P e false,hasType P e with
  | true,true=>(0≤i∧i<n)∧(cY P e).ex fun v=>cs[i.toNat *aP P e]? =some v∧F v
  | _,_=>False
 | _,_,_=>False
def LC(B:Option (Nat→Prop))(p:Addr)(F:Prop):Prop:=
 match B with
 | none=>F
 | some b=>b p.block∧F
def oC(P:Program)(B:Option (Nat→Prop))(o:Oper)(ρ:Operand→Value)(w:World)(F:Value→Prop)(els:Prop):Prop:=
 match o.op with
 | .move x=>F (ρ x)
 | .assign x=>F (ρ x)
 | .pick c a b=>match ρ c with
  | .bool t=>split t (F (ρ a)) (F (ρ b))
  | _=>False
 | .load t x=>match ρ x with
  | .pointer a=>match cY P t,qT P t (qd (cY P t)) && hasType P t && Nat.beq (fT (cY P t)) (aP P t)with
   | s,true=>aB a fun p=>LC B p (s.ex fun v=>gw w p s v∧F v)
   | _,false=>False
  | _=>False
 | .nilCheck x=>match ρ x with
  | .pointer a=>aB a fun p=>F (.pointer (some p))
  | _=>els
 | .fieldAddr s x f=>jF P s (ρ x) f F
 | .indexAddr t x i=>lx P t (ρ x) (ρ i) F
 | .index t x i=>zL P t (ρ x) (ρ i) F
 | .binOp op t x y _=>K8 P op t y (ρ x) (ρ y) F els
 | .unOp op _ x=>unM op (ρ x) F
 | .convert src dst x=>F5 P src dst (ρ x) F els
 | .slice t x lo hi mx=>lU P t (ρ x) (lo.map ρ) (hi.map ρ) (mx.map ρ) F els
 | .build .. =>oO F els (eE P (execOp ρ o))
 | .field .. =>oO F els (eE P (execOp ρ o))
 | .extract .. =>oO F els (eE P (execOp ρ o))
 | .makeInterface .. =>oO F els (eE P (execOp ρ o))
 | .typeAssert .. =>oO F els (eE P (execOp ρ o))
 | .makeFunc .. =>oO F els (eE P (execOp ρ o))
 | .sliceToArrayPointer arr x=>match P.underlying arr,ρ x with
  | some (.array n _),.slice a len _=>n≤len∧F (.pointer a)
  | _,_=>els
 | .call c=>match c.callee,c.args.toList,c.argTypes.toList with
  | .builtin .len,[x],[t]=>match P.underlying t with
   | some (.slice _)=>(match ρ x with
    | .slice _ n _=>F (.int .i64 n)
    | _=>els)
   | some .string=>(match ρ x with
    | .string s=>F (.int .i64 s.size)
    | _=>els)
   | _=>els
  | .builtin .min,[x,y],_=>match ρ x,ρ y with
   | .int k a,.int _ b=>F (.int k (if b<a then b else a))
   | _,_=>els
  | .builtin .max,[x,y],_=>match ρ x,ρ y with
   | .int k a,.int _ b=>F (.int k (if b>a then b else a))
   | _,_=>els
  | _,_,_=>els
 | _=>els
def runM(P:Program)(s:Sem Next)(w:World)(K:aC):Prop:=
 match s.run P w with
 | .ok (.value v) w'=>K v w'
 | _=>False
def rV(o:Oper)(ρ:Operand→Value):Option (Sem Value):=
 match o.op with
 | .binOp op t x y _=>some (do eqGuard op t x y (ρ x) (ρ y);binOp op t (ρ x) (ρ y))
 | .convert src dst x=>some (convert src dst (ρ x))
 | .sliceToArrayPointer arr x=>some (Instr.arrayAt arr (ρ x))
 | .makeMap t r=>some (Instr.makeMap t (r.map ρ))
 | .makeSlice t l c=>some (Instr.makeSlice t (ρ l) (ρ c))
 | .lookup t x ix ok=>some (Instr.lookup t (ρ x) (ρ ix) ok)
 | .typeAssert x a b ok=>some (Instr.typeAssert (ρ x) a b ok)
 | .range t x=>some (Instr.range t (ρ x))
 | .next it s=>some (Instr.next (ρ it) s o.type)
 | .call c=>match c.callee with
  | .builtin .append=>some (Builtin.append_ c.argTypes o.type (c.args.map ρ))
  | .builtin .copy=>some (Builtin.copy_ c.argTypes o.type (c.args.map ρ))
  | .builtin .cap=>some (Builtin.cap_ c.argTypes o.type (c.args.map ρ))
  | .builtin .clear=>some (Builtin.clear_ c.argTypes o.type (c.args.map ρ))
  | .builtin .delete=>some (Builtin.delete_ c.argTypes o.type (c.args.map ρ))
  | .builtin .len=>some (Builtin.len_ c.argTypes o.type (c.args.map ρ))
  | .builtin .min=>some (Builtin.min_ c.argTypes o.type (c.args.map ρ))
  | .builtin .max=>some (Builtin.max_ c.argTypes o.type (c.args.map ρ))
  | _=>none
 | _=>none
def v9(P:Program)(o:Oper)(ρ:Operand→Value)(w:World)(K:aC):Prop:=
 match rV o ρ with
 | some s=>exT P o.type fun v=>∃w',s.run P w= .ok v w'∧K v w'
 | none=>exT P o.type fun v=>∃w',(execOp ρ o).run P w= .ok (.value v) w'∧K v w'
def FJ(P:Program)(t:TypeId):Option TypeId:=
 match P.underlying t with
 | some (.slice e)=>(match P.info? e with
  | some i=>(match i.zero,Nat.beq i.size 1 with
   | some .nilIface,true=>some e
   | _,_=>none)
  | none=>none)
 | _=>none
theorem CY {P:Program} {t e:TypeId} {v:Value}(h:FJ P t=some e)(h1:v.oneCell'=true)(w:World):(Instr.buildSlice t 1 #[(0,v)]).run P w= .ok (.slice (some ⟨w.heap.size,0,none⟩) 1 1) (w.alloc (.cells #[v] e)):=by
 unfold FJ at h
 split at h
 ·rename_i e' hu
  split at h
  ·rename_i i hi
   split at h
   ·rename_i hz hs
    injection h with h
    subst h
    have hs:=Nat.eq_of_beq_eq_true hs
    have hc:v.cells= #[v]:=by cases v<;>first | rfl | cases h1
    have e1:(Array.range (1*1)).map (Value.nilIface.cells[· % Value.nilIface.cells.size]!)= #[.nilIface]:=by kernel_rfl
    exact run_buildSlice (P:=P) w t e' 1 #[(0,v)] #[v] i .nilIface hu hi hz (by omega) (by omega) (by rw [hs,e1];simp only [Instr.fill,hc];simp)
   ·cases h
  ·cases h
 ·cases h
def opM(P:Program)(C:List Nat)(Y:Bool)(o:Oper)(ρ:Operand→Value)(w:World)(K:aC)(Qp:Option (List PanicEntry→World→Prop)):Prop:=
 oC P none o ρ w (fun v=>K v w)<|
 match o.op with
 | .store t x y=>match ρ x with
  | .pointer a=>match cY P t with
   | .row n=>(match hasType P t && Nat.beq n (aP P t),ρ y with
    | true,.agg cs=>aB a fun p=>cs.size=n∧(∀v∈cs.toList,one? v True)∧aF w p cs.toList fun w'=>K undef w'
    | _,_=>False)
   | _=>match Nat.beq (ρ y).cells.toList.length (aP P t) && hasType P t with
    | true=>aB a fun p=>lv (ρ y).cells.toList (aF w p (ρ y).cells.toList fun w'=>K undef w')
    | false=>False
  | _=>False
 | .alloc _=>runM P (execOp ρ o) w (qu K)
 | .box .. =>runM P (execOp ρ o) w (qu K)
 | .buildSlice t n parts=>(match FJ P t,n,parts.toList with
  | some e,1,[(0,x)]=>(ρ x).oneCell'=true∧qu K (.slice (some ⟨w.heap.size,0,none⟩) 1 1) (w.alloc (.cells #[ρ x] e))
  | _,_,_=>runM P (execOp ρ o) w (qu K))
 | .call c=>match c.callee with
  | .builtin _=>v9 P o ρ w K
  | .value f=>F8 P C Y (ρ f) (c.args.map ρ) w (BV P o.type K Qp)
  | .invoke x name=>Mc P C (ρ x) name (c.args.map ρ) w (BV P o.type K Qp)
 | .mapUpdate t m k x=>∃w',(Instr.mapUpdate t (ρ m) (ρ k) (ρ x):Sem Unit).run P w= .ok () w'∧K undef w'
 | .insert t m k x=>∃w',(Instr.mapUpdate t (ρ m) (ρ k) (ρ x):Sem Unit).run P w= .ok () w'∧K undef w'
 | .go _=>False
 | .defer _=>False
 | _=>v9 P o ρ w K
def Out(P:Program)(Y:Bool)(K:aC)(Qp:List PanicEntry→World→Prop):Result Next→Prop
 | .ok (.value v) w'=>K v w'
 | .ok .skip w'=>K undef w'
 | .ok (.enter f args) w'=>Calls P f args w' fun e w''=>(∃v,e= .returned v∧K v w'')∨∃ch,e= .panicked ch∧Qp ch w''
 | .ok (.round l f tmps assign body) w'=>Y=true∧RoundIn Fence.wide 0 P l f tmps assign body w' fun e w''=>(∃v,e= .returned v∧K v w'')∨∃ch,e= .panicked ch∧Qp ch w''
 | .halt (.panic v) w'=>Qp [{v,recovered:=false}] w'
 | _=>False
section
variable {P:Program} {o:Oper} {ρ:Operand→Value} {w:World} {F:Value→Prop} {els:Prop}
theorem dj {t:TypeId}(h:hasType P t=true):∃i,P.info? t=some i∧aP P t=i.size:=by
 unfold hasType at h
 unfold aP
 cases hi:P.info? t with
 | none=>simp [hi]at h
 | some i=>exact⟨i,rfl,rfl⟩
theorem CX {op:BinOp} {k:IntKind} {x y:Int}(hs:uR op=false)(h:FI op k x y F)(t:TypeId):∃v,F v∧∀w,(binOp op t (.int k x) (.int k y)).run P w= .ok v w:=by
 cases op<;>simp only [FI,uR]at h hs
 case quo=>obtain⟨h0,h⟩:=Fu h;exact⟨_,h,fun w=>by simp [binOp,Op.intDiv,h0]⟩
 case rem=>obtain⟨h0,h⟩:=Fu h;exact⟨_,h,fun w=>by simp [binOp,Op.intDiv,h0]⟩
 all_goals exact⟨_,h,fun w=>by simp only [binOp,ne_eq,not_true_eq_false,if_false];rfl⟩
theorem vT {op:BinOp} {k k':IntKind} {x y:Int}(h:uA op k x y F)(t:TypeId):∃v,F v∧∀w,(binOp op t (.int k x) (.int k' y)).run P w= .ok v w:=by
 cases op<;>simp only [uA]at h
 case shl=>obtain⟨h0,h⟩:=oz h;exact⟨_,h,fun w=>by simp [binOp,Op.shift,h0]⟩
 case shr=>obtain⟨h0,h⟩:=oz h;exact⟨_,h,fun w=>by simp [binOp,Op.shift,h0]⟩
theorem Cs {op:BinOp} {x y:ByteArray}(h:EM op x y F)(t:TypeId):∃v,F v∧∀w,(binOp op t (.string x) (.string y)).run P w= .ok v w:=by
 cases op<;>simp only [EM]at h
 case add=>
  obtain⟨h0,h⟩:=h
  refine⟨_,h,fun w=>?_⟩
  have:¬(((x.size+y.size:Nat):Int)>i64.max):=by simp [IntKind.max,IntKind.bits,IntKind.signed];omega
  simp only [binOp,Op.stringOp,this,if_false]
  rfl
 all_goals exact⟨_,h,fun w=>rfl⟩
theorem dS(op:BinOp)(t:TypeId)(x y:Operand)(a b:Value)(w:World)(h:a≠ .nilIface)(h':∀u,a≠ .agg u):
 (eqGuard op t x y a b).run P w= .ok () w:=by
 have key:∀f g:Sem Unit,(match a,b with
  | .nilIface,.nilIface=>f
  | .agg _,.agg _=>g
  | _,_=>pure ())=pure ():=by
  intro f g
  split
  ·exact absurd rfl h
  ·exact absurd rfl (h' _)
  ·rfl
 cases op<;>first | rfl | (unfold eqGuard;exact congrArg (fun s:Sem Unit=>s.run P w) (key _ _))
theorem mX {op:BinOp} {b:Bool}(h:eqB op b F):∃v,F v∧((op= .eql∧v= .bool b)∨(op= .neq∧v= .bool (!b))):=by
 cases op<;>simp only [eqB]at h
 ·exact⟨_,h,.inl ⟨rfl,rfl⟩⟩
 ·exact⟨_,h,.inr ⟨rfl,rfl⟩⟩
theorem run_equalIn_bool'(d:Nat)(t:TypeId)(a b:Bool)(h:P.underlying t=some .bool)(w:World):(Op.equalIn (d+1) t (.bool a) (.bool b)).run P w= .ok (a==b) w:=by
 simp [Op.equalIn,run_underlying h]
theorem oY(t:TypeId)(a b:Bool)(h:P.underlying t=some .bool)(w:World):(Op.equal t (.bool a) (.bool b)).run P w= .ok (a==b) w:=run_equalIn_bool' 9999 t a b h w
theorem nO(d:Nat)(t e:TypeId)(a:Option Addr)(h:P.underlying t=some (.pointer e))(w:World):(Op.equalIn (d+1) t (.pointer a) (.pointer none)).run P w= .ok a.isNone w:=by
 cases a<;>simp [Op.equalIn,run_underlying h]
theorem qj(t e:TypeId)(a:Option Addr)(h:P.underlying t=some (.pointer e))(w:World):(Op.equal t (.pointer a) (.pointer none)).run P w= .ok a.isNone w:=nO 9999 t e a h w
theorem lV(d:Nat)(t e:TypeId)(a:Option Addr)(n c n' c':Nat)(h:P.underlying t=some (.slice e))(w:World):(Op.equalIn (d+1) t (.slice a n c) (.slice none n' c')).run P w= .ok a.isNone w:=by
 cases a<;>simp [Op.equalIn,run_underlying h]
theorem nN(t e:TypeId)(a:Option Addr)(n c n' c':Nat)(h:P.underlying t=some (.slice e))(w:World):(Op.equal t (.slice a n c) (.slice none n' c')).run P w= .ok a.isNone w:=lV 9999 t e a n c n' c' h w
theorem nP(d:Nat)(t k e:TypeId)(a:Option Nat)(h:P.underlying t=some (.map k e))(w:World):(Op.equalIn (d+1) t (.map a) (.map none)).run P w= .ok a.isNone w:=by
 cases a<;>simp [Op.equalIn,run_underlying h]
theorem qk(t k e:TypeId)(a:Option Nat)(h:P.underlying t=some (.map k e))(w:World):(Op.equal t (.map a) (.map none)).run P w= .ok a.isNone w:=nP 9999 t k e a h w
theorem l5:∀ {a b c d:List Value},a.length=b.length→eqL (a++c) (b++d)=(eqL a b && eqL c d)
 | [],[],_,_,_=>by simp [eqL]
 | x::a,y::b,c,d,h=>by
  have:=l5 (a:=a) (b:=b) (c:=c) (d:=d) (by simpa using h)
  simp [eqL,this,Bool.and_assoc]
 | [],_::_,_,_,h=>by simp at h
 | _::_,[],_,_,h=>by simp at h
theorem bB:∀ {l:List Sh} {vs:List Value},cF l vs=true→vs.length=l.length
 | [],[],_=>rfl
 | .int k::l,.int k' x::vs,h=>by
  unfold cF at h
  split at h
  ·simp [bB h]
  ·cases h
 | .bool::l,.bool _::vs,h=>by simp [bB (show cF l vs=true from h)]
 | .str::l,.string _::vs,h=>by simp [bB (show cF l vs=true from h)]
 | [],_::_,h=>by simp [cF]at h
 | s::l,[],h=>by cases s<;>simp [cF]at h
 | .int k::l,.bool _::vs,h | .int k::l,.float _ _::vs,h | .int k::l,.complex _ _ _::vs,h | .int k::l,.string _::vs,h | .int k::l,.pointer _::vs,h | .int k::l,.slice _ _ _::vs,h | .int k::l,.map _::vs,h | .int k::l,.chan _::vs,h | .int k::l,.func _ _ _::vs,h | .int k::l,.nilFunc::vs,h | .int k::l,.iface _ _::vs,h | .int k::l,.nilIface::vs,h | .int k::l,.agg _::vs,h | .int k::l,.tuple _::vs,h=>by simp [cF]at h
 | .bool::l,.int _ _::vs,h | .bool::l,.float _ _::vs,h | .bool::l,.complex _ _ _::vs,h | .bool::l,.string _::vs,h | .bool::l,.pointer _::vs,h | .bool::l,.slice _ _ _::vs,h | .bool::l,.map _::vs,h | .bool::l,.chan _::vs,h | .bool::l,.func _ _ _::vs,h | .bool::l,.nilFunc::vs,h | .bool::l,.iface _ _::vs,h | .bool::l,.nilIface::vs,h | .bool::l,.agg _::vs,h | .bool::l,.tuple _::vs,h=>by simp [cF]at h
 | .str::l,.bool _::vs,h | .str::l,.float _ _::vs,h | .str::l,.complex _ _ _::vs,h | .str::l,.int _ _::vs,h | .str::l,.pointer _::vs,h | .str::l,.slice _ _ _::vs,h | .str::l,.map _::vs,h | .str::l,.chan _::vs,h | .str::l,.func _ _ _::vs,h | .str::l,.nilFunc::vs,h | .str::l,.iface _ _::vs,h | .str::l,.nilIface::vs,h | .str::l,.agg _::vs,h | .str::l,.tuple _::vs,h=>by simp [cF]at h
 | .ptr::l,_::vs,h | .slice::l,_::vs,h | .map::l,_::vs,h | .val::l,_::vs,h=>by simp [cF]at h
theorem fJ:∀ {l l':List Sh} {vs:List Value},cF (l++l') vs=true→cF l (vs.take l.length)=true∧cF l' (vs.drop l.length)=true
 | [],l',vs,h=>by simpa [cF]using h
 | s::l,l',[],h=>by cases s<;>simp [cF]at h
 | s::l,l',v::vs,h=>by
  have key:cF (l++l') vs=true∧(∀r,cF (s::r) (v::vs.take l.length)=cF r (vs.take l.length)):=by
   cases s<;>cases v<;>simp only [List.cons_append,cF,Bool.false_eq_true]at h
   all_goals first
    | exact⟨h,fun r=>by simp [cF]⟩
    | (split at h
       ·rename_i hk;exact⟨h,fun r=>by simp [cF,hk]⟩
       ·cases h)
  obtain⟨h1,h2⟩:=fJ key.1
  refine⟨?_,by simpa using h2⟩
  have:=key.2 l
  simp only [List.length_cons,List.take_succ_cons]
  rw [this]
  exact h1
def asV(P:Program)(t:TypeId)(l:List Value):Value:=
 match fU P t with
 | true=>.agg ⟨l⟩
 | false=>l.headD undef
theorem uT {m:Nat} {t:TypeId} {l:List Sh}(h:gl P (m+1) t=some l)(ha:fU P t=false):(isAgg t).run P w= .ok false w∧∃s,l= [s]:=by
 unfold gl at h
 unfold fU at ha
 cases hu:P.underlying t with
 | none=>simp [hu]at h
 | some d=>cases d<;>simp_all [isAgg,run_underlying hu]<;>exact⟨_,h.symm⟩
theorem fx {m:Nat} {t:TypeId} {l:List Sh} {i:TypeInfo}(h:gl P (m+1) t=some l)(hi:P.info? t=some i)(hs:i.size=l.length)(xs:Array Value)(off:Nat)
 (hf:cF l ((xs.toList.drop off).take l.length)=true):(part t xs off).run P w= .ok (asV P t ((xs.toList.drop off).take l.length)) w:=by
 have hlen:=bB hf
 cases ha:fU P t with
 | true=>
  have N0:(isAgg t).run P w= .ok true w:=by
   unfold fU at ha
   cases hu:P.underlying t with
   | none=>simp [hu]at ha
   | some d=>cases d<;>simp_all [isAgg,run_underlying hu]
  have hex:xs.extract off (off+l.length)=⟨(xs.toList.drop off).take l.length⟩:=by
   apply Array.ext'
   rw [Array.toList_extract]
   simp [List.extract]
  simp [part,N0,sizeOf,typeInfo,hi,hs,asV,ha,hex]
 | false=>
  obtain⟨N0,s,rfl⟩:=uT (w:=w) h ha
  have hx:∃v,xs[off]? =some v∧(xs.toList.drop off).take [s].length= [v]:=by
   cases hd:xs.toList.drop off with
   | nil=>rw [hd]at hlen;simp at hlen
   | cons v r=>
    refine⟨v,?_,by simp⟩
    have:=congrArg (·[0]?) hd
    simp at this
    exact this
  obtain⟨v,hv,ht⟩:=hx
  rw [ht]
  simp [part,N0,asV,ha,hv]
theorem ij {m d:Nat}(IH:∀(t:TypeId)(l:List Sh),gl P m t=some l→∀(w:World)(xs ys:List Value),cF l xs=true→cF l ys=true→(Op.equalIn d t (asV P t xs) (asV P t ys)).run P w= .ok (eqL xs ys) w)
 (w:World)(xs ys:Array Value):∀(fs:List Field)(off:Nat)(l:List Sh),qF P (gl P m) off fs=some l→cF l (xs.toList.drop off)=true→cF l (ys.toList.drop off)=true→
  (Op.eqFields d xs ys fs).run P w= .ok (eqL (xs.toList.drop off) (ys.toList.drop off)) w
 | [],off,l,h,hx,hy=>by
  simp only [qF,Option.some.injEq]at h
  subst h
  have e1:=bB hx
  have e2:=bB hy
  have e1:=List.eq_nil_of_length_eq_zero e1
  have e2:=List.eq_nil_of_length_eq_zero e2
  rw [e1,e2]
  rfl
 | f::fs,off,l,h,hx,hy=>by
  simp only [qF]at h
  split at h
  ·rename_i l1 i QY abc hft hi
   split at h
   ·rename_i l2 ND T4
    simp only [Option.some.injEq]at h
    subst h
    have aa8:f.offset=off:=Nat.eq_of_beq_eq_true QY
    have O0:i.size=l1.length:=Nat.eq_of_beq_eq_true ND
    obtain⟨x1,x2⟩:=fJ hx
    obtain⟨y1,y2⟩:=fJ hy
    rw [List.drop_drop]at x2 y2
    have hm:∃m',m=m'+1:=by
     cases m with
     | zero=>simp [gl]at hft
     | succ m'=>exact⟨m',rfl⟩
    obtain⟨m',rfl⟩:=hm
    have p1:=fx (w:=w) hft hi O0 xs off x1
    have p2:=fx (w:=w) hft hi O0 ys off y1
    have p3:=IH f.type l1 hft w _ _ x1 y1
    have p4:=ij IH w xs ys fs (off+l1.length) l2 T4 x2 y2
    have hn:f.name≠ "_" :=by simpa using abc
    have OU:eqL (xs.toList.drop off) (ys.toList.drop off)=(eqL ((xs.toList.drop off).take l1.length) ((ys.toList.drop off).take l1.length) && eqL (xs.toList.drop (off+l1.length)) (ys.toList.drop (off+l1.length))):=by
     have e1:xs.toList.drop off=(xs.toList.drop off).take l1.length++xs.toList.drop (off+l1.length):=by rw [← List.drop_drop,List.take_append_drop]
     have e2:ys.toList.drop off=(ys.toList.drop off).take l1.length++ys.toList.drop (off+l1.length):=by rw [← List.drop_drop,List.take_append_drop]
     have:=l5 (c:=xs.toList.drop (off+l1.length)) (d:=ys.toList.drop (off+l1.length)) ((bB x1).trans (bB y1).symm)
     rw [← e1,← e2]at this
     exact this
    rw [OU]
    simp only [Op.eqFields,hn,ne_eq,not_false_eq_true,if_true,Sem.run_bind,aa8,p1,p2,p3,Result.andThen_ok]
    cases eqL ((xs.toList.drop off).take l1.length) ((ys.toList.drop off).take l1.length)
    ·simp
    ·simpa using p4
   ·cases h
  ·cases h
theorem iQ {m d:Nat} {e:TypeId} {l1:List Sh} {i:TypeInfo}(IH:∀(t:TypeId)(l:List Sh),gl P m t=some l→∀(w:World)(xs ys:List Value),cF l xs=true→cF l ys=true→(Op.equalIn d t (asV P t xs) (asV P t ys)).run P w= .ok (eqL xs ys) w)
 (w:World)(xs ys:Array Value)(he:gl P m e=some l1)(hi:P.info? e=some i)(hs:i.size=l1.length):∀(n k:Nat),cF (CC l1 n) (xs.toList.drop (k*l1.length))=true→cF (CC l1 n) (ys.toList.drop (k*l1.length))=true→
  (Op.eqItems d e (P.cellsOf e) xs ys (List.range' k n)).run P w= .ok (eqL (xs.toList.drop (k*l1.length)) (ys.toList.drop (k*l1.length))) w
 | 0,k,hx,hy=>by
  have e1:=List.eq_nil_of_length_eq_zero (bB hx)
  have e2:=List.eq_nil_of_length_eq_zero (bB hy)
  rw [e1,e2]
  rfl
 | n+1,k,hx,hy=>by
  have hc:P.cellsOf e=l1.length:=by simp [Program.cellsOf,hi,hs]
  obtain⟨x1,x2⟩:=fJ (l:=l1) (l':=CC l1 n) hx
  obtain⟨y1,y2⟩:=fJ (l:=l1) (l':=CC l1 n) hy
  have hk:k*l1.length+l1.length=(k+1)*l1.length:=by rw [Nat.add_mul,Nat.one_mul]
  rw [List.drop_drop,hk]at x2 y2
  have hm:∃m',m=m'+1:=by
   cases m with
   | zero=>simp [gl]at he
   | succ m'=>exact⟨m',rfl⟩
  obtain⟨m',rfl⟩:=hm
  have p1:=fx (w:=w) he hi hs xs _ x1
  have p2:=fx (w:=w) he hi hs ys _ y1
  have p3:=IH e l1 he w _ _ x1 y1
  have p4:=iQ IH w xs ys he hi hs n (k+1) x2 y2
  rw [hc]at p4
  have OU:eqL (xs.toList.drop (k*l1.length)) (ys.toList.drop (k*l1.length))=(eqL ((xs.toList.drop (k*l1.length)).take l1.length) ((ys.toList.drop (k*l1.length)).take l1.length) && eqL (xs.toList.drop ((k+1)*l1.length)) (ys.toList.drop ((k+1)*l1.length))):=by
   have e1:xs.toList.drop (k*l1.length)=(xs.toList.drop (k*l1.length)).take l1.length++xs.toList.drop ((k+1)*l1.length):=by rw [← hk,← List.drop_drop,List.take_append_drop]
   have e2:ys.toList.drop (k*l1.length)=(ys.toList.drop (k*l1.length)).take l1.length++ys.toList.drop ((k+1)*l1.length):=by rw [← hk,← List.drop_drop,List.take_append_drop]
   have:=l5 (c:=xs.toList.drop ((k+1)*l1.length)) (d:=ys.toList.drop ((k+1)*l1.length)) ((bB x1).trans (bB y1).symm)
   rw [← e1,← e2]at this
   exact this
  rw [OU]
  simp only [List.range'_succ,Op.eqItems,Sem.run_bind,hc,p1,p2,p3,Result.andThen_ok]
  cases eqL ((xs.toList.drop (k*l1.length)).take l1.length) ((ys.toList.drop (k*l1.length)).take l1.length)
  ·simp
  ·simpa using p4
theorem gL(d:Nat):∀(m:Nat)(t:TypeId)(l:List Sh),gl P m t=some l→∀(w:World)(xs ys:List Value),cF l xs=true→cF l ys=true→(Op.equalIn (d+m) t (asV P t xs) (asV P t ys)).run P w= .ok (eqL xs ys) w
 | 0,t,l,h,_,_,_,_,_=>by simp [gl]at h
 | m+1,t,l,h,w,xs,ys,hx,hy=>by
  have h0:=h
  unfold gl at h
  cases hu:P.underlying t with
  | none=>simp [hu]at h
  | some dd=>
   simp only [hu]at h
   cases dd<;>simp only [reduceCtorEq]at h
   case bool=>
    simp only [Option.some.injEq]at h
    subst h
    obtain⟨v,rfl⟩:=List.length_eq_one_iff.1 (bB hx)
    obtain⟨u,rfl⟩:=List.length_eq_one_iff.1 (bB hy)
    cases v<;>first | (simp [cF]at hx;done) | skip
    cases u<;>first | (simp [cF]at hy;done) | skip
    simp only [asV,fU,hu,eqL,jN,Bool.and_true,List.headD_cons]
    exact run_equalIn_bool' (d+m) t _ _ hu w
   case int k=>
    simp only [Option.some.injEq]at h
    subst h
    obtain⟨v,rfl⟩:=List.length_eq_one_iff.1 (bB hx)
    obtain⟨u,rfl⟩:=List.length_eq_one_iff.1 (bB hy)
    cases v<;>first | (simp [cF]at hx;done) | skip
    cases u<;>first | (simp [cF]at hy;done) | skip
    rename_i k1 a k2 b
    have e1:kEq k k1=true:=by
     cases h:kEq k k1
     ·simp [cF,h]at hx
     ·rfl
    have e2:kEq k k2=true:=by
     cases h:kEq k k2
     ·simp [cF,h]at hy
     ·rfl
    obtain rfl:=mV e1
    obtain rfl:=mV e2
    simp only [asV,fU,hu,eqL,jN,Bool.and_true,List.headD_cons]
    exact run_equalIn_int w (d+m) t _ _ a b hu
   case string=>
    simp only [Option.some.injEq]at h
    subst h
    obtain⟨v,rfl⟩:=List.length_eq_one_iff.1 (bB hx)
    obtain⟨u,rfl⟩:=List.length_eq_one_iff.1 (bB hy)
    cases v<;>first | (simp [cF]at hx;done) | skip
    cases u<;>first | (simp [cF]at hy;done) | skip
    simp only [asV,fU,hu,eqL,jN,Bool.and_true,List.headD_cons]
    exact run_equalIn_string w (d+m) t _ _ hu
   case struct fs=>
    split at h
    ·cases h
    ·rename_i Qj
     have hfo:P.fieldsOf t=fs:=by simp [Program.fieldsOf,hu]
     have:=ij (d:=d+m) (fun t l ht w xs ys=>gL d m t l ht w xs ys) w ⟨xs⟩ ⟨ys⟩ fs.toList 0 l h (by simpa using hx) (by simpa using hy)
     simp only [asV,fU,hu]
     rw [show d+(m+1)=d+m+1 from rfl,run_equalIn_struct w (d+m) t ⟨xs⟩ ⟨ys⟩ (by rw [hfo];exact hu) Qj,hfo]
     simpa using this
   case array n e=>
    split at h
    ·rename_i l1 i Pz hi
     split at h
     ·rename_i hs
      simp only [Option.some.injEq]at h
      subst h
      have hs':i.size=l1.length:=Nat.eq_of_beq_eq_true hs
      have:=iQ (d:=d+m) (fun t l ht w xs ys=>gL d m t l ht w xs ys) w ⟨xs⟩ ⟨ys⟩ Pz hi hs' n 0 (by simpa using hx) (by simpa using hy)
      simp only [asV,fU,hu]
      rw [show d+(m+1)=d+m+1 from rfl,run_equalIn_array w (d+m) ⟨xs⟩ ⟨ys⟩ hu hi,List.range_eq_range']
      simpa using this
     ·cases h
    ·cases h
theorem CZ {m:Nat} {t:TypeId} {l:List Sh} {op:BinOp} {xs ys:Array Value} {X Y:Operand}(hg:P.eqGuardType P.depth t=false)(h:gl P m t=some l)(hm:m≤10000)(N0:fU P t=true)(hx:cF l xs.toList=true)(hy:cF l ys.toList=true)(ho:op= .eql∨op= .neq)(w:World):
 (do eqGuard op t X Y (.agg xs) (.agg ys);binOp op t (.agg xs) (.agg ys):Sem Value).run P w= .ok (.bool (if op= .eql then bp xs ys else !(bp xs ys))) w:=by
 have he:=gL (10000 - m) m t l h w xs.toList ys.toList hx hy
 rw [show 10000 - m+m=10000 by omega]at he
 simp only [asV,N0]at he
 rw [Sem.run_bind,run_eqGuard_agg w op t X Y xs ys hg]
 rcases ho with rfl | rfl
 ·rw [Result.andThen_ok,run_eql_struct w t xs ys,he]
  rfl
 ·rw [Result.andThen_ok,run_neq_struct w t xs ys,he]
  rfl
theorem Gc {op:BinOp} {t:TypeId} {X Y:Operand} {ρ:Operand→Value}(hc:∀v,ρ (.const v)=v)(h:K8 P op t Y (ρ X) (ρ Y) F els):
 (∃v,F v∧∀w,(do eqGuard op t X Y (ρ X) (ρ Y);binOp op t (ρ X) (ρ Y):Sem Value).run P w= .ok v w)∨els:=by
 unfold K8 at h
 split at h
 ·rename_i k a k' b hx hy
  rw [hx,hy]
  split at h
  ·obtain⟨v,hv,hr⟩:=vT h t
   exact .inl ⟨v,hv,fun w=>by rw [Sem.run_bind,dS _ _ _ _ _ _ _ (by simp) (by simp)];exact hr w⟩
  ·rename_i hs
   split at h
   ·rename_i hk
    obtain rfl:=mV hk
    obtain⟨v,hv,hr⟩:=CX hs h t
    exact .inl ⟨v,hv,fun w=>by rw [Sem.run_bind,dS _ _ _ _ _ _ _ (by simp) (by simp)];exact hr w⟩
   ·exact h.elim
 ·rename_i a b hx hy
  rw [hx,hy]
  obtain⟨v,hv,hr⟩:=Cs h t
  exact .inl ⟨v,hv,fun w=>by rw [Sem.run_bind,dS _ _ _ _ _ _ _ (by simp) (by simp)];exact hr w⟩
 ·rename_i a b hx hy
  rw [hx,hy]
  split at h
  ·rename_i ht
   obtain⟨v,hv,ho⟩:=mX h
   refine .inl ⟨v,hv,fun w=>?_⟩
   rw [Sem.run_bind,dS _ _ _ _ _ _ _ (by simp) (by simp)]
   rcases ho with⟨rfl,rfl⟩ | ⟨rfl,rfl⟩<;>simp [binOp,oY t a b ht]
  ·exact .inr h
 ·rename_i a hx
  split at h
  ·rename_i ht
   obtain⟨v,hv,ho⟩:=mX h
   refine .inl ⟨v,hv,fun w=>?_⟩
   rw [hx,hc,Sem.run_bind,dS _ _ _ _ _ _ _ (by simp) (by simp)]
   rcases ho with⟨rfl,rfl⟩ | ⟨rfl,rfl⟩<;>simp [binOp,qj t _ a ht]
  ·exact .inr h
 ·rename_i a n c hx
  split at h
  ·rename_i ht
   obtain⟨v,hv,ho⟩:=mX h
   refine .inl ⟨v,hv,fun w=>?_⟩
   rw [hx,hc,Sem.run_bind,dS _ _ _ _ _ _ _ (by simp) (by simp)]
   rcases ho with⟨rfl,rfl⟩ | ⟨rfl,rfl⟩<;>simp [binOp,nN t _ a _ _ _ _ ht]
  ·exact .inr h
 ·rename_i a hx
  split at h
  ·rename_i ht
   obtain⟨v,hv,ho⟩:=mX h
   refine .inl ⟨v,hv,fun w=>?_⟩
   rw [hx,hc,Sem.run_bind,dS _ _ _ _ _ _ _ (by simp) (by simp)]
   rcases ho with⟨rfl,rfl⟩ | ⟨rfl,rfl⟩<;>simp [binOp,qk t _ _ a ht]
  ·exact .inr h
 ·rename_i xs ys hx hy
  rw [hx,hy]
  split at h
  ·rename_i l hg N0 hl
   obtain⟨f1,h⟩:=wX h
   obtain⟨f2,h⟩:=wX h
   obtain⟨v,hv,ho⟩:=mX h
   refine .inl ⟨v,hv,fun w=>?_⟩
   rw [CZ hg hl (by omega) N0 f1 f2 (ho.imp And.left And.left) w]
   rcases ho with⟨rfl,rfl⟩ | ⟨rfl,rfl⟩<;>rfl
  ·exact .inr h
 ·exact .inr h
theorem wj {s:Sem Next}(h:oO F els (eE P s)):(∃v,F v∧∀w,s.run P w= .ok (.value v) w)∨els:=by
 unfold oO at h
 split at h
 ·rename_i v hv
  exact .inl ⟨v,h,fun w=>wi hv w⟩
 ·exact .inr h
theorem HO {op:UnOp} {x:Value}(h:unM op x F):∃v,F v∧∀w,(Op.unary op x).run P w= .ok v w:=by
 unfold unM at h
 split at h
 ·exact⟨_,h,fun w=>rfl⟩
 ·exact⟨_,h,fun w=>rfl⟩
 ·exact⟨_,h,fun w=>rfl⟩
 ·exact h.elim
theorem iX {t:TypeId} {x i:Value}(h:lx P t x i F):∃v,F v∧∀w,(Instr.indexAt t x i).run P w= .ok v w:=by
 unfold lx at h
 split at h
 ·rename_i e a n c k j ht
  split at h
  ·rename_i he
   obtain⟨ti,hi,hs⟩:=dj he
   obtain⟨hb,h⟩:=h
   obtain⟨p,rfl,h⟩:=cx h
   refine⟨_,h,fun w=>?_⟩
   simp [Instr.indexAt,asIntOf,run_underlying ht,hb,sizeOf,typeInfo,hi,hs]
  ·exact h.elim
 ·rename_i n e a k j ht
  split at h
  ·rename_i he
   obtain⟨ti,hi,hs⟩:=dj he
   obtain⟨hb,h⟩:=h
   obtain⟨p,rfl,h⟩:=cx h
   refine⟨_,h,fun w=>?_⟩
   simp [Instr.indexAt,asIntOf,run_underlying ht,hb,sizeOf,typeInfo,hi,hs,Instr.sureAddr]
  ·exact h.elim
 ·exact h.elim
theorem qH {s:TypeId} {x:Value} {f:Nat}(h:jF P s x f F):∃v,F v∧∀w,(Instr.fieldAt s x f).run P w= .ok v w:=by
 unfold jF at h
 split at h
 ·rename_i fields hs
  split at h
  ·rename_i fd hf
   split at h
   ·rename_i i hi
    split at h
    ·rename_i hz
     split at h
     ·obtain⟨p,rfl,h⟩:=cx h
      have RN:¬i.size=0:=by intro e;rw [e]at hz;simp at hz
      refine⟨_,h,fun w=>?_⟩
      simp [Instr.fieldAt,run_underlying hs,hf,Instr.sureAddr,fieldPlace,sizeOf,typeInfo,hi,RN]
     ·exact h.elim
    ·exact h.elim
   ·exact h.elim
  ·exact h.elim
 ·exact h.elim
theorem Df {src dst:TypeId} {x:Value}(h:F5 P src dst x F els):(∃v,F v∧∀w,(convert src dst x).run P w= .ok v w)∨els:=by
 unfold F5 at h
 split at h
 ·rename_i a k n hs hd
  exact .inl ⟨_,h,fun w=>by unfold convert;simp [run_underlying hs,run_underlying hd,Conv.intToInt]⟩
 ·rename_i a s hs hd
  exact .inl ⟨_,h,fun w=>by unfold convert;simp [run_underlying hs,run_underlying hd]⟩
 ·exact .inr h
theorem zK {t:TypeId} {x i:Value}(h:zL P t x i F):∃v,F v∧∀w,(Instr.index t x i).run P w= .ok v w:=by
 unfold zL at h
 split at h
 ·rename_i s k j ht
  obtain⟨b,hb,h⟩:=cx h
  exact⟨_,h,fun w=>by simp [Instr.index,asIntOf,run_underlying ht,hb]⟩
 ·rename_i n e cs k j ht
  split at h
  ·rename_i ha he
   obtain⟨ti,hi,hs⟩:=dj he
   obtain⟨hb,h⟩:=h
   obtain⟨v,hv,h⟩:=Sh2.jG h
   refine⟨_,h,fun w=>?_⟩
   have N0:=tS ha w
   simp [Instr.index,asIntOf,run_underlying ht,hb,part,N0,sizeOf,typeInfo,hi,← hs,hv]
  ·exact h.elim
 ·exact h.elim
theorem run_sliceBound {k:IntKind} {i:Int} {y:Nat} {code:BoundsCode}(h:0≤i∧i≤y)(w:World):(Instr.sliceBound (.int k i) y code).run P w= .ok i.toNat w:=by
 unfold Instr.sliceBound
 show((if 0≤i∧i≤(y:Int)then pure i.toNat else boundsPanic k i y code:Sem Nat)).run P w=_
 rw [if_pos h]
 rfl
theorem n8 {lo:Option Value} {H:Nat} {G:Nat→Prop} {code:BoundsCode}(h:oM lo H G):∃l,G l∧
 ∀w,(match lo with | some v=>Instr.sliceBound v H code | none=>pure 0:Sem Nat).run P w= .ok l w:=by
 unfold oM at h
 split at h
 ·exact⟨_,h,fun w=>rfl⟩
 ·obtain⟨hb,h⟩:=h
  exact⟨_,h,fun w=>run_sliceBound hb w⟩
 ·exact h.elim
theorem l8 {isSlice:Bool} {len cap:Nat} {lo hi mx:Option Value} {G:Nat→Nat→Nat→Prop}(OQ:mx=none∨hi≠none)
 (h:l9 mx cap fun m=>oN hi len m fun h=>oM lo h fun l=>G l h m):∃l h m,G l h m∧∀w,(Instr.sliceBounds isSlice len cap lo hi mx).run P w= .ok (l,h,m) w:=by
 unfold Instr.sliceBounds
 cases mx with
 | none=>
  simp only [l9]at h
  cases hi with
  | none=>
   simp only [oN]at h
   obtain⟨l,hG,hl⟩:=n8 (P:=P) (code:= .sliceB) h
   refine⟨l,_,_,hG,fun w=>?_⟩
   have:=hl w
   cases lo with
   | none=>simp at this ⊢;exact this
   | some v=>simp at this ⊢;simp [this]
  | some hv=>
   simp only [oN]at h
   split at h
   ·cases ‹some hv=none›
   ·rename_i k H heq
    obtain rfl:hv= .int k H:=by injection heq
    obtain⟨hb,h⟩:=h
    obtain⟨l,hG,hl⟩:=n8 (P:=P) (code:= .sliceB) h
    refine⟨l,_,_,hG,fun w=>?_⟩
    have:=hl w
    have e2:=fun c=>run_sliceBound (P:=P) (k:=k) (code:=c) hb w
    cases lo with
    | none=>simp [e2];simpa using this
    | some v=>simp at this ⊢;simp [e2,this]
   ·exact h.elim
 | some mv=>
  rcases OQ with OQ | OQ
  ·cases OQ
  cases hi with
  | none=>exact absurd rfl OQ
  | some hv=>
  simp only [l9]at h
  split at h
  ·cases ‹some mv=none›
  ·rename_i k M heq
   obtain rfl:mv= .int k M:=by injection heq
   obtain⟨hm,h⟩:=h
   simp only [oN]at h
   split at h
   ·cases ‹some hv=none›
   ·rename_i k' H heq
    obtain rfl:hv= .int k' H:=by injection heq
    obtain⟨hb,h⟩:=h
    obtain⟨l,hG,hl⟩:=n8 (P:=P) (code:= .slice3C) h
    refine⟨l,_,_,hG,fun w=>?_⟩
    have:=hl w
    have e1:=fun c=>run_sliceBound (P:=P) (k:=k) (code:=c) hm w
    have e2:=fun c=>run_sliceBound (P:=P) (k:=k') (code:=c) hb w
    cases lo with
    | none=>simp [e1,e2];simpa using this
    | some v=>simp [e1,e2];simp at this;simp [this]
   ·exact h.elim
  ·exact h.elim
theorem LQ {mx hi:Option Value}(h:(mx.isNone || hi.isSome)=true):mx=none∨hi≠none:=by
 cases mx<;>cases hi<;>simp_all
theorem lT {t:TypeId} {x:Value} {lo hi mx:Option Value}(h:lU P t x lo hi mx F els):(∃v,F v∧∀w,(Instr.sliceAt t x lo hi mx).run P w= .ok v w)∨els:=by
 unfold lU at h
 split at h
 ·rename_i e a len cap ht
  split at h
  ·rename_i he
   simp only [Bool.and_eq_true]at he
   obtain⟨ti,Oy,hs⟩:=dj he.1
   obtain⟨l,hh,m,hF,hr⟩:=l8 (P:=P) (isSlice:=true) (LQ he.2) h
   refine .inl ⟨_,hF _ rfl _ rfl _ rfl,fun w=>?_⟩
   simp [Instr.sliceAt,Instr.slice,run_underlying ht,hr,sizeOf,typeInfo,Oy,hs]
  ·exact h.elim
 ·rename_i s ht
  split at h
  ·obtain⟨l,hh,m,hF,hr⟩:=l8 (P:=P) (isSlice:=false) (len:=s.size) (cap:=s.size) (mx:=none) (G:=fun l h _=>F (.string (s.extract l h))) (.inl rfl) (by simpa [l9]using h)
   refine .inl ⟨_,hF,fun w=>?_⟩
   simp [Instr.sliceAt,Instr.slice,run_underlying ht,hr]
  ·exact h.elim
 ·rename_i n e a ht
  split at h
  ·rename_i he
   simp only [Bool.and_eq_true]at he
   obtain⟨ti,Oy,hs⟩:=dj he.1
   obtain⟨p,rfl,h2⟩:=cx h
   obtain⟨l,hh,m,hF,hr⟩:=l8 (P:=P) (isSlice:=false) (LQ he.2) h2
   refine .inl ⟨_,hF _ rfl _ rfl _ rfl,fun w=>?_⟩
   simp [Instr.sliceAt,Instr.sureAddr,run_underlying ht,hr,sizeOf,typeInfo,Oy,hs]
  ·exact h.elim
 ·exact .inr h
theorem ju {p:Addr}:∀(vs:List Value)(i:Nat)(acc:Array Value),(∀j u,vs[j]? =some u→w.cell? (p.add (i+j))=some u)→
 (loadCellsFrom p i vs.length acc).run P w= .ok (acc++⟨vs⟩) w
 | [],i,acc,_=>by simp [loadCellsFrom]
 | v::r,i,acc,h=>by
  have h0:=h 0 v rfl
  simp only [Nat.add_zero]at h0
  have ih:=ju r (i+1) (acc.push v) (fun j u hu=>by
   have:=h (j+1) u (by simpa using hu)
   rwa [Nat.add_right_comm,Nat.add_assoc])
  simp only [List.length_cons,loadCellsFrom,load]
  simp only [Sem.run_bind]
  rw [show(Sem.load .plain (p.add i) Sem.pure).run P w= .ok v w by simp [Sem.run,h0]]
  simp only [Result.andThen_ok,ih]
  simp
theorem oJ {p:Addr}:∀(vs:List Value)(i:Nat),iu w p i vs→∀j u,vs[j]? =some u→w.cell? (p.add (i+j))=some u
 | [],_,_,j,u,hu=>by simp at hu
 | v::r,i,h,j,u,hu=>by
  obtain⟨h0,h1⟩:=uV h
  cases j with
  | zero=>simp at hu;subst hu;simpa using h0
  | succ j=>
   have:=oJ r (i+1) h1 j u (by simpa using hu)
   rwa [show i+(j+1)=i+1+j by omega]
theorem nb {w':World} {p:Addr}(iI:∀(i:Nat)(u:Value),w.cell? (p.add i)=some u→w'.cell? (p.add i)=some u):∀(vs:List Value)(i:Nat),iu w p i vs→iu w' p i vs
 | [],_,_=>trivial
 | [_],_,h=>iI _ _ h
 | _::u::r,i,h=>⟨iI _ _ h.1,nb iI (u::r) (i+1) h.2⟩
theorem Fc {B:Option (Nat→Prop)} {p:Addr} {F:Prop}(h:LC B p F):(∀b,B=some b→b p.block)∧F:=by
 cases B with
 | none=>exact⟨by simp,h⟩
 | some b=>exact⟨fun b' hb=>by cases hb;exact h.1,h.2⟩
theorem block_add(p:Addr)(i:Nat):(p.add i).block=p.block:=by unfold Addr.add;split<;>rfl
theorem uL {B:Option (Nat→Prop)} {w':World} {p:Addr} {s:Sh2} {v:Value}(hB:∀b,B=some b→b p.block)(hb:Kept (held B w) w w')(h:gw w p s v):gw w' p s v:=by
 have iI:∀(q:Addr)(u:Value),q.block=p.block→w.cell? q=some u→w'.cell? q=some u:=fun q u hq hu=>by
  refine(hb.cell (p:=q) ?_).trans hu
  cases B with
  | none=>exact World.block_lt_of_cell? w q hu
  | some b=>rw [hq];exact hB b rfl
 cases s with
 | one s=>exact iI _ _ rfl h
 | agg l=>
  cases v<;>first | exact h.elim | skip
  rename_i cs
  simp only [gw]at h ⊢
  split at h
  ·exact nb (fun i u hu=>iI _ u (block_add p i) hu) _ _ h
  ·exact h.elim
 | row n=>
  cases v<;>first | exact h.elim | skip
  exact⟨h.1,fun i u hu=>iI _ _ (block_add p i) (h.2 i u hu)⟩
theorem j5 {p:Addr} {t:TypeId} {s:Sh2} {v:Value}(N0:qT P t (qd s)=true)(hi:hasType P t=true)(ND:Nat.beq (fT s) (aP P t)=true)(h:gw w p s v):
 (Instr.loadAt t (.pointer (some p))).run P w= .ok v w:=by
 obtain⟨ti,hti,hs⟩:=dj hi
 have O0:ti.size=fT s:=by rw [← hs];exact(Nat.eq_of_beq_eq_true ND).symm
 have WC:=tS N0 w
 have VA:(sizeOf t).run P w= .ok (fT s) w:=by simp [sizeOf,typeInfo,hti,O0]
 cases s with
 | one s=>simp [Instr.loadAt,Instr.sureAddr,loadVar,WC,qd,load,Sem.run,show w.cell? p=some v from h]
 | agg l=>
  cases v<;>first | exact h.elim | skip
  rename_i cs
  simp only [gw]at h
  split at h
  ·rename_i hn
   have SV:cs.toList.length=l.length:=Nat.eq_of_beq_eq_true hn
   have hr:=ju (P:=P) (p:=p) cs.toList 0 #[] (oJ _ _ h)
   rw [SV]at hr
   simp [Instr.loadAt,Instr.sureAddr,loadVar,WC,qd,VA,fT,loadCells,hr]
  ·exact h.elim
 | row n=>
  cases v<;>first | exact h.elim | skip
  rename_i cs
  have hr:=ju (P:=P) (p:=p) cs.toList 0 #[] (fun j u hu=>by simpa using h.2 j u (by simpa using hu))
  have hn:cs.toList.length=n:=by simpa using h.1
  rw [hn]at hr
  simp [Instr.loadAt,Instr.sureAddr,loadVar,WC,qd,VA,fT,loadCells,hr]
theorem mJ {v:Value} {p:Prop}(h:one? v p):p∧(∀u,v≠ .agg u)∧(∀u,v≠ .tuple u):=by
 cases v<;>simp_all [one?]
theorem j4 {p:Addr} {K:World→Prop}:∀(vs:List Value)(i:Nat)(w:World),mC p i vs w K→∃w',(storeCells p vs i).run P w= .ok () w'∧K w'
 | [],i,w,h=>⟨w,rfl,h⟩
 | v::r,i,w,h=>by
  obtain⟨⟨⟨u,hu⟩,hf,h⟩,h1,h2⟩:=mJ h
  obtain⟨w',hr,hK⟩:=j4 r (i+1) _ h
  refine⟨w',?_,hK⟩
  have hs:(store (p.add i) v).run P w= .ok () (w.setCell (p.add i) v):=by
   unfold store
   cases v<;>first | exact absurd rfl (h1 _) | exact absurd rfl (h2 _) | simp [Sem.run,hu,hf]
  simp [storeCells,hs,hr]
theorem qD(w:World)(q p:Addr)(v:Value):(w.setCell q v).frozen? p=w.frozen? p:=by
 unfold World.frozen? World.setCell
 simp only [Array.getElem?_modify]
 by_cases h:q.block=p.block
 ·simp only [h,if_true]
  cases hw:w.heap[p.block]? with
  | none=>rfl
  | some o=>cases o<;>rfl
 ·simp only [h,if_false]
theorem nc {w:World} {p:Addr} {u:Value}(q:Addr)(v:Value)(h:w.cell? p=some u):∃u',(w.setCell q v).cell? p=some u':=by
 unfold World.cell? World.setCell at *
 simp only [Array.getElem?_modify]
 by_cases hb:q.block=p.block
 ·simp only [hb,if_true]
  cases hw:w.heap[p.block]? with
  | none=>rw [hw]at h;cases h
  | some o=>
   rw [hw]at h
   cases o<;>simp only [reduceCtorEq]at h
   rename_i c e f
   simp only [Option.map_some]
   cases hs:p.spot.isSome
   ·simp only [hs,Bool.false_eq_true,if_false]at h ⊢
    have NO:=(Array.getElem?_eq_some_iff.1 h).1
    cases q.spot.isSome
    ·simp only [Bool.false_eq_true,if_false]
     exact⟨_,Array.getElem?_eq_getElem (by simpa using NO)⟩
    ·simp only [if_true]
     exact⟨_,h⟩
   ·simp only [hs,if_true,reduceCtorEq]at h
 ·simp only [hb,if_false]
  exact⟨u,h⟩
theorem mB {p:Addr} {K:World→Prop}:∀(vs:List Value)(i:Nat)(w:World),(∀j,j<vs.length→(∃u,w.cell? (p.add (i+j))=some u)∧w.frozen? (p.add (i+j))=false)→(∀v∈vs,one? v True)→
 K (setRow p i vs w)→mC p i vs w K
 | [],i,w,_,_,hK=>hK
 | v::r,i,w,h,h1,hK=>by
  have ih:=mB r (i+1) (w.setCell (p.add i) v) (fun j hj=>by
   obtain⟨⟨u,hu⟩,hf⟩:=h (j+1) (by simp;omega)
   rw [show i+(j+1)=i+1+j by omega]at hu hf
   exact⟨nc _ _ hu,by rw [qD];exact hf⟩) (fun x hx=>h1 x (List.mem_cons_of_mem _ hx)) hK
  have h0:=h 0 (by simp)
  have hv:=(mJ (h1 v (List.mem_cons_self ..))).2
  simp only [mC]
  cases v<;>first | exact absurd rfl (hv.1 _) | exact absurd rfl (hv.2 _) | exact⟨h0.1,h0.2,ih⟩
theorem bF(g o n:Nat):Addr.add ⟨g,o,none⟩ n=⟨g,o+n,none⟩:=by
 unfold Addr.add
 split
 ·rename_i h;rw [h,Nat.add_zero]
 ·rfl
theorem eI:∀(vs:List Value)(cs:Array Value)(o:Nat),(setAt cs o vs).size=cs.size
 | [],cs,o=>rfl
 | v::r,cs,o=>by rw [setAt,eI r];simp
theorem Blk.set {w:World} {g:Nat} {cs:Array Value} {T:TypeId}(h:Blk w g cs T)(o:Nat)(v:Value):bI w g (cs.setIfInBounds o v) T (w.setCell ⟨g,o,none⟩ v):=by
 refine⟨?_,⟨rfl,rfl,rfl,by simp [World.setCell],fun k hk=>?_⟩,by simp [World.setCell]⟩
 ·unfold Blk at *
  simp [World.setCell,Array.getElem?_modify,h]
 ·simp only [World.setCell,Array.getElem?_modify]
  rw [if_neg (fun e=>hk e.symm)]
theorem bI.trans {w w2 w3:World} {g:Nat} {cs cs':Array Value} {T T':TypeId}(h:bI w g cs T w2)(k:bI w2 g cs' T' w3):bI w g cs' T' w3:=
 ⟨k.blk,h.kept.trans k.kept,k.size.trans h.size⟩
theorem lC(g o:Nat)(T:TypeId):∀(vs:List Value)(i:Nat)(w:World)(cs:Array Value),Blk w g cs T→bI w g (setAt cs (o+i) vs) T (setRow ⟨g,o,none⟩ i vs w)
 | [],i,w,cs,h=>⟨h,Kept.refl _ _,rfl⟩
 | v::r,i,w,cs,h=>by
  have h1:=h.set (o+i) v
  have h2:=lC g o T r (i+1) (w.setCell ⟨g,o+i,none⟩ v) _ h1.blk
  simp only [setRow,setAt,bF]
  exact h1.trans h2
theorem dQ:∀ {vs:List Value} {F:Prop},lv vs F→F∧∀v∈vs,one? v True
 | [],F,h=>⟨h,by simp⟩
 | v::r,F,h=>by
  have h1:=mJ h
  obtain⟨h2,h3⟩:=dQ h1.1
  refine⟨h2,fun u hu=>?_⟩
  rcases List.mem_cons.1 hu with rfl | hu
  ·cases u<;>first | exact absurd rfl (h1.2.1 _) | exact absurd rfl (h1.2.2 _) | exact trivial
  ·exact h3 u hu
theorem qi {p:Addr} {vs:List Value} {K:World→Prop}(h1:∀v∈vs,one? v True)(h:aF w p vs K):∃w',(storeCells p vs 0).run P w= .ok () w'∧K w':=by
 obtain⟨g,o,cs,T,rfl,hb,hs,hK⟩:=h
 refine j4 (P:=P) _ _ _ (mB _ _ _ (fun j hj=>?_) h1 (hK _ (by simpa using lC g o T vs 0 w cs hb)))
 rw [Nat.zero_add,bF]
 unfold Blk at hb
 refine⟨?_,by simp [World.frozen?,hb]⟩
 unfold World.cell?
 simp only [hb]
 exact⟨_,Array.getElem?_eq_getElem (by omega)⟩
theorem nR {B:Option (Nat→Prop)}(hc:∀v,ρ (.const v)=v)(h:oC P B o ρ w F els):(∃v,F v∧∀w',Kept (held B w) w w'→(execOp ρ o).run P w'= .ok (.value v) w')∨els:=by
 obtain⟨dst,op,type,pos,after,guard⟩:=o
 cases op
 all_goals first | exact .inr h | (simp only [oC]at h)
 case move=>exact .inl ⟨_,h,fun _ _=>rfl⟩
 case assign=>exact .inl ⟨_,h,fun _ _=>rfl⟩
 case pick x y z=>
  split at h
  ·rename_i t ht
   rcases fq h with⟨rfl,h⟩ | ⟨rfl,h⟩
   ·exact .inl ⟨_,h,fun _ _=>by simp [execOp,ht,asBool]⟩
   ·exact .inl ⟨_,h,fun _ _=>by simp [execOp,ht,asBool]⟩
  ·exact h.elim
 case load t x=>
  split at h
  ·rename_i a ha
   split at h
   ·rename_i s hs Pc
    simp only [Bool.and_eq_true]at Pc
    obtain⟨p,rfl,h⟩:=cx h
    obtain⟨hpb,h⟩:=Fc h
    obtain⟨v,hl,hF⟩:=Sh2.jG h
    refine .inl ⟨v,hF,fun w' hb=>?_⟩
    have:=j5 (P:=P) Pc.1.1 Pc.1.2 Pc.2 (uL (fun b hB=>hpb b hB) hb hl)
    simp [execOp,ha,this]
   ·exact h.elim
  ·exact h.elim
 case nilCheck x=>
  split at h
  ·rename_i a ha
   obtain⟨p,rfl,h⟩:=cx h
   exact .inl ⟨_,h,fun _ _=>by simp [execOp,ha]⟩
  ·exact .inr h
 case fieldAddr s x f=>
  obtain⟨v,hF,hr⟩:=qH h
  exact .inl ⟨v,hF,fun w' _=>by simp [execOp,hr w']⟩
 case indexAddr t x i=>
  obtain⟨v,hF,hr⟩:=iX h
  exact .inl ⟨v,hF,fun w' _=>by simp [execOp,hr w']⟩
 case index t x i=>
  obtain⟨v,hF,hr⟩:=zK h
  exact .inl ⟨v,hF,fun w' _=>by simp [execOp,hr w']⟩
 case binOp op t x y yt=>
  rcases Gc hc (X:=x) h with⟨v,hF,hr⟩ | h
  ·exact .inl ⟨v,hF,fun w' _=>by simp only [execOp];rw [Sem.run_bind,hr w'];rfl⟩
  ·exact .inr h
 case unOp op t x=>
  obtain⟨v,hF,hr⟩:=HO (P:=P) h
  exact .inl ⟨v,hF,fun w' _=>by simp [execOp,hr w']⟩
 case convert s d x=>
  rcases Df h with⟨v,hF,hr⟩ | h
  ·exact .inl ⟨v,hF,fun w' _=>by simp [execOp,hr w']⟩
  ·exact .inr h
 case slice t x lo hi mx=>
  rcases lT h with⟨v,hF,hr⟩ | h
  ·exact .inl ⟨v,hF,fun w' _=>by simp [execOp,hr w']⟩
  ·exact .inr h
 case sliceToArrayPointer arr x=>
  split at h
  ·rename_i n e a len cap hu hx
   obtain⟨hle,h⟩:=h
   refine .inl ⟨_,h,fun w' _=>?_⟩
   have:¬len<n:=by omega
   simp [execOp,Instr.arrayAt,run_underlying hu,hx,this]
  ·exact .inr h
 case call c=>
  obtain⟨cal,args,ats⟩:=c
  simp only at h
  split at h
  ·rename_i x t ha ht
   obtain rfl:args= #[x]:=by rw [← ha]
   obtain rfl:ats= #[t]:=by rw [← ht]
   split at h
   ·rename_i e hu
    split at h
    ·rename_i a n k hx
     exact .inl ⟨_,h,fun w' _=>by simp [execOp,resolve,invoke,builtin,Builtin.len_,run_underlying hu,hx,goInt]⟩
    ·exact .inr h
   ·rename_i hu
    split at h
    ·rename_i s hx
     exact .inl ⟨_,h,fun w' _=>by simp [execOp,resolve,invoke,builtin,Builtin.len_,run_underlying hu,hx,goInt]⟩
    ·exact .inr h
   ·exact .inr h
  ·rename_i x y ha
   obtain rfl:args= #[x,y]:=by rw [← ha]
   split at h
   ·rename_i k a k' b hx hy
    exact .inl ⟨_,h,fun w' _=>by simp [execOp,resolve,invoke,builtin,Builtin.min_,Builtin.min2,hx,hy]⟩
   ·exact .inr h
  ·rename_i x y ha
   obtain rfl:args= #[x,y]:=by rw [← ha]
   split at h
   ·rename_i k a k' b hx hy
    exact .inl ⟨_,h,fun w' _=>by simp [execOp,resolve,invoke,builtin,Builtin.max_,Builtin.max2,hx,hy]⟩
   ·exact .inr h
  ·exact .inr h
 all_goals
  rcases wj h with⟨v,hF,hr⟩ | h
  ·exact .inl ⟨v,hF,fun w' _=>hr w'⟩
  ·exact .inr h
theorem E0 {s:Sem Next} {K:aC}(h:runM P s w K):∃v w',s.run P w= .ok (.value v) w'∧K v w':=by
 unfold runM at h
 split at h
 ·rename_i v w' hr;exact⟨v,w',hr,h⟩
 ·exact h.elim
def eh(P:Program)(C:List Nat):Bool:=C.all (bW P)
theorem dV {C:List Nat} {f:FuncId}(hC:eh P C=true)(h:C.elem f=true)(args:Array Value)(w:World):(callFunc f args).run P w= .ok (.enter f args) w:=by
 have hf:bW P f=true:=by
  unfold eh at hC
  exact List.all_eq_true.1 hC f (List.elem_iff.1 h)
 unfold bW at hf
 split at hf
 ·rename_i fn Xd
  simp only [Bool.and_eq_true,Bool.not_eq_true']at hf
  obtain⟨hb,hn⟩:=hf
  have SJ:¬fn.body=none:=by intro e;rw [e]at hb;cases hb
  have SV:¬fn.name= "runtime.NumGoroutine" :=by intro e;rw [e]at hn;simp at hn
  simp [callFunc,Xd,SV,SJ,program,Sem.run]
 ·cases hf
theorem jW {s:Sem Value}(h:rV o ρ=some s)(w:World) {v:Value} {w':World}(hr:s.run P w= .ok v w'):(execOp ρ o).run P w= .ok (.value v) w':=by
 obtain⟨dst,op,type,pos,after,guard⟩:=o
 have key:execOp ρ ⟨dst,op,type,pos,after,guard⟩=(do pure (.value (← s)))→(execOp ρ ⟨dst,op,type,pos,after,guard⟩).run P w= .ok (.value v) w':=by
  intro e
  rw [e,Sem.run_bind,hr]
  rfl
 cases op
 case call c=>
  obtain⟨cal,args,ats⟩:=c
  cases cal with
  | builtin b=>cases b<;>simp only [rV,Option.some.injEq,reduceCtorEq]at h<;>(subst h;exact key rfl)
  | _=>simp [rV]at h
 all_goals first | (simp only [rV,reduceCtorEq]at h;done) | (simp only [rV,Option.some.injEq]at h;subst h;exact key rfl)
theorem CB {K:aC}(h:v9 P o ρ w K):∃v w',(execOp ρ o).run P w= .ok (.value v) w'∧K v w':=by
 unfold v9 at h
 split at h
 ·rename_i s hs
  obtain⟨v,w',hr,hK⟩:=pD h
  exact⟨v,w',jW hs w hr,hK⟩
 ·obtain⟨v,w',hr,hK⟩:=pD h
  exact⟨v,w',hr,hK⟩
theorem H9 {C:List Nat} {Y:Bool} {K:aC} {Qp:Option (List PanicEntry→World→Prop)}(hC:eh P C=true)(hc:∀v,ρ (.const v)=v)(h:opM P C Y o ρ w K Qp):Out P Y K (QpP Qp) ((execOp ρ o).run P w):=by
 unfold opM at h
 have h0:=nR hc h
 clear h
 rcases h0 with⟨v,hF,hr⟩ | h
 ·rw [hr w (Kept.refl _ _)]
  exact hF
 ·clear hc
  have gen:v9 P o ρ w K→Out P Y K (QpP Qp) ((execOp ρ o).run P w):=by
   intro h
   obtain⟨v,w',hr,hK⟩:=CB h
   rw [hr]
   exact hK
  have gen':runM P (execOp ρ o) w (qu K)→Out P Y K (QpP Qp) ((execOp ρ o).run P w):=by
   intro h
   obtain⟨v,w',hr,hK⟩:=E0 h
   rw [hr]
   exact tq hK
  have gen'':(∃w',(execOp ρ o).run P w= .ok .skip w'∧K undef w')→Out P Y K (QpP Qp) ((execOp ρ o).run P w):=by
   rintro⟨w',hr,hK⟩
   rw [hr]
   exact hK
  obtain⟨dst,op,type,pos,after,guard⟩:=o
  cases op
  all_goals first | exact gen h | exact gen' h | (simp only at h;done) | skip
  case mapUpdate t m k x=>
   obtain⟨w',hr,hK⟩:=h
   have:(execOp ρ {dst:=dst,op:= .mapUpdate t m k x,type:=type,pos:=pos,after:=after,guard:=guard}).run P w= .ok .skip w':=by
    simp only [execOp]
    rw [Sem.run_bind,hr]
    rfl
   rw [this]
   exact hK
  case insert t m k x=>
   obtain⟨w',hr,hK⟩:=h
   have:(execOp ρ {dst:=dst,op:= .insert t m k x,type:=type,pos:=pos,after:=after,guard:=guard}).run P w= .ok .skip w':=by
    simp only [execOp]
    rw [Sem.run_bind,hr]
    rfl
   rw [this]
   exact hK
  case buildSlice t n parts=>
   dsimp only at h
   split at h
   ·rename_i e x he hp
    obtain⟨h1,hK⟩:=h
    have hpa:parts= #[(0,x)]:=by apply Array.ext';exact hp
    subst hpa
    have hr:(execOp ρ {dst:=dst,op:= .buildSlice t 1 #[(0,x)],type:=type,pos:=pos,after:=after,guard:=guard}).run P w= .ok (.value (.slice (some ⟨w.heap.size,0,none⟩) 1 1)) (w.alloc (.cells #[ρ x] e)):=by
     have:=CY he h1 w
     simp only [execOp]
     rw [Sem.run_bind]
     have e1:(#[(0,x)]:Array (Nat×Operand)).map (fun(i,x)=>(i,ρ x))= #[(0,ρ x)]:=by simp
     rw [e1,this]
     rfl
    rw [hr]
    exact tq hK
   ·exact gen' h
  case store t x y=>
   simp only at h
   split at h
   ·rename_i a ha
    split at h
    ·rename_i n OK
     split at h
     ·rename_i cs Pc hy
      simp only [Bool.and_eq_true]at Pc
      obtain⟨ti,hti,hs⟩:=dj Pc.1
      obtain⟨p,rfl,h⟩:=cx h
      obtain⟨w',hr,hK⟩:=qi (P:=P) h.2.1 h.2.2
      have hn:cs.size=ti.size:=by rw [← hs,← Nat.eq_of_beq_eq_true Pc.2];exact h.1
      have:(execOp ρ {dst:=dst,op:= .store t x y,type:=type,pos:=pos,after:=after,guard:=guard}).run P w= .ok .skip w':=by
       simp [execOp,ha,hy,Value.cells,Instr.storeAt,Instr.sureAddr,storeVar,sizeOf,typeInfo,hti,hn,hr]
      rw [this]
      exact hK
     ·exact h.elim
    split at h
    ·rename_i Pc
     simp only [Bool.and_eq_true]at Pc
     obtain⟨ti,hti,hs⟩:=dj Pc.2
     obtain⟨p,rfl,h⟩:=cx h
     obtain⟨h,h1⟩:=dQ h
     obtain⟨w',hr,hK⟩:=qi (P:=P) h1 h
     have hn:(ρ y).cells.size=ti.size:=by rw [← hs,← Nat.eq_of_beq_eq_true Pc.1];simp
     have:(execOp ρ {dst:=dst,op:= .store t x y,type:=type,pos:=pos,after:=after,guard:=guard}).run P w= .ok .skip w':=by
      simp [execOp,ha,Instr.storeAt,Instr.sureAddr,storeVar,sizeOf,typeInfo,hti,hn,hr]
     rw [this]
     exact hK
    ·exact h.elim
   ·exact h.elim
  case call c=>
   obtain⟨cal,args,ats⟩:=c
   simp only at h
   split at h
   ·exact gen h
   ·rename_i f
    unfold F8 at h
    split at h
    ·rename_i fn first cap hf
     split at h
     ·rename_i he
      have h1:=dV (P:=P) hC he (first++args.map ρ++cap) w
      have:(execOp ρ {dst:=dst,op:= .call {callee:= .value f,args:=args,argTypes:=ats},type:=type,pos:=pos,after:=after,guard:=guard}).run P w= .ok (.enter fn (first++args.map ρ++cap)) w:=by
       simp only [execOp,resolve,hf,Deferred.ofValue]
       rw [Sem.run_bind]
       exact h1
      rw [this]
      exact Calls.mono h fun e w' he=>n7 he
     ·exact h.elim
    ·rename_i l first _ hf
     cases Y with
     | false=>exact h.elim
     | true=>
      obtain⟨fn,tmps,assign,body,hy,Ux⟩:=h
      have:(execOp ρ {dst:=dst,op:= .call {callee:= .value f,args:=args,argTypes:=ats},type:=type,pos:=pos,after:=after,guard:=guard}).run P w= .ok (.round l fn tmps assign body) w:=by
       simp only [execOp,resolve,hf,Deferred.ofValue]
       rw [Sem.run_bind]
       exact hy
      rw [this]
      exact⟨rfl,Ux.mono fun e w' he=>n7 he⟩
    ·exact h.elim
   ·rename_i x name
    obtain⟨t,u,f',hx,hm,he,h⟩:=h
    have h1:=dV (P:=P) hC he (#[u]++args.map ρ) w
    have he2:(#[ρ x]++args.map ρ).extract 1 (#[ρ x]++args.map ρ).size=args.map ρ:=by
     apply Array.ext'
     simp
     exact List.take_of_length_le (by simp)
    have hr:(execOp ρ {dst:=dst,op:= .call {callee:= .invoke x name,args:=args,argTypes:=ats},type:=type,pos:=pos,after:=after,guard:=guard}).run P w= .ok (.enter f' (#[u]++args.map ρ)) w:=by
     simp only [execOp,resolve]
     rw [Sem.run_bind]
     show(invoke (.fn (.method name) #[]) (#[ρ x]++args.map ρ)).run P w=_
     have e0:(#[ρ x]++args.map ρ)[0]? =some (.iface t u):=by rw [hx,Array.getElem?_append_left (by simp)];rfl
     simp only [invoke,e0,he2]
     simp only [callMethod]
     rw [Sem.run_bind]
     have hp:(program:Sem Program).run P w= .ok P w:=rfl
     rw [hp]
     change Sem.run P (method (P.types.size+Made.depth) t u name>>=fun p=>callFunc p.1 (#[p.2]++Array.map ρ args)) w=_
     rw [Sem.run_bind,ts hm]
     exact h1
    rw [hr]
    exact Calls.mono h fun e w' he=>n7 he
end
attribute [irreducible] split aB nz dZ one?
end
section
def fW(ops:Array Oper)(o:Oper)(fr:Fr)(yes no:Fr→Prop):Prop:=
 match o.guard with
 | none=>yes fr
 | some (j,want)=>match (ops[j]?).bind (·.dst)with
  | some d=>match lk fr.g d fr.e with
   | .bool b=>split b
    (match want with
     | true=>yes ⟨(d,.bool true)::fr.e,fr.g,fr.ds⟩
     | false=>no ⟨(d,.bool true)::fr.e,fr.g,fr.ds⟩)
    (match want with
     | true=>no ⟨(d,.bool false)::fr.e,fr.g,fr.ds⟩
     | false=>yes ⟨(d,.bool false)::fr.e,fr.g,fr.ds⟩)
   | .tuple _=>no fr
   | _=>False
  | none=>False
abbrev OpT:=Oper→(Operand→Value)→World→aC→Prop
def EE(M:OpT)(n:Nat)(N:List Nat)(ops:Array Oper)(K:Fr→World→Prop):List Oper→Fr→World→Prop
 | [],fr,w=>K fr w
 | o::rest,fr,w=>fW ops o fr
  (fun fr=>M o (ev fr) w (fun v w'=>iF n N fr o.dst v fun fr'=>EE M n N ops K rest fr' w'))
  (fun fr=>iF n N fr o.dst undef fun fr'=>EE M n N ops K rest fr' w)
abbrev vcL(P:Program)(C:List Nat)(n:Nat)(N:List Nat)(ops:Array Oper)(Qp:Option (List PanicEntry→World→Prop))(K:Fr→World→Prop):List Oper→Fr→World→Prop:=
 EE (fun o ρ w K=>opM P C true o ρ w K Qp) n N ops K
section
variable {P:Program} {C:List Nat} {n:Nat} {N:List Nat} {r:Option Nat} {ops:Array Oper} {fr:Fr} {a:Act} {w:World}
theorem Bp {d:Nat} {v:Value}(hr:Rep n fr a)(h:lk fr.g d fr.e=v):Rep n ⟨(d,v)::fr.e,fr.g,fr.ds⟩ a:=by
 refine⟨hr.size,fun i=>?_,hr.defers⟩
 simp only [lk]
 split
 ·rename_i hi
  obtain rfl:i=d:=Nat.eq_of_beq_eq_true hi
  rw [hr.get,h]
 ·exact hr.get i
theorem jE {o:Oper} {yes no:Fr→Prop}(hr:Rep n fr a)(h:fW ops o fr yes no):
 ∃fr',Rep n fr' a∧((Region.wanted o (yielded ops a.tmps)=true∧yes fr')∨(Region.wanted o (yielded ops a.tmps)=false∧no fr')):=by
 unfold fW at h
 unfold Region.wanted
 split at h
 ·rename_i hg
  exact⟨fr,hr,.inl ⟨by rw [hg],h⟩⟩
 ·rename_i j want hg
  rw [hg]
  split at h
  ·rename_i d hd
   split at h
   ·rename_i b hb
    have hy:yielded ops a.tmps j=some b:=by
     unfold yielded
     rw [hd]
     have OL:a.tmps.getD d undef= .bool b:=by rw [hr.get,hb]
     have:a.tmps[d]? =some (.bool b):=by
      rw [Array.getD_eq_getD_getElem?]at OL
      cases he:a.tmps[d]? with
      | none=>rw [he]at OL;simp [undef]at OL
      | some u=>rw [he]at OL;simp at OL;rw [OL]
     simp [this]
    simp only [hy]
    rcases fq h with⟨rfl,h2⟩ | ⟨rfl,h2⟩
    ·refine⟨_,Bp hr hb,?_⟩
     cases want
     ·exact .inr ⟨rfl,h2⟩
     ·exact .inl ⟨rfl,h2⟩
    ·refine⟨_,Bp hr hb,?_⟩
     cases want
     ·exact .inl ⟨rfl,h2⟩
     ·exact .inr ⟨rfl,h2⟩
   ·rename_i us hb
    have hy:yielded ops a.tmps j=none:=by
     unfold yielded
     rw [hd]
     have OL:a.tmps.getD d undef= .tuple us:=by rw [hr.get,hb]
     rw [Array.getD_eq_getD_getElem?]at OL
     cases he:a.tmps[d]? with
     | none=>simp [he]
     | some u=>rw [he]at OL;simp at OL;rw [OL]at he;simp [he]
    exact⟨fr,hr,.inr ⟨by simp [hy],h⟩⟩
   ·exact h.elim
  ·exact h.elim
abbrev QF:=Exit→Fr→World→Prop
def Real(n:Nat)(ws:List Nat)(a0:Act)(Qp:Option (List PanicEntry→World→Prop))(Q:QF):Exit→Act→World→Prop
 | .panic ch,a,w=>QpP Qp ch w∧Agr ws a0 a
 | .outgrown,_,_=>False
 | x,a,w=>∃fr,Rep n fr a∧Q x fr w∧Agr ws a0 a
theorem Rep.xl(fr:Fr)(v:Value):ev fr (.const v)=v:=rfl
def WF(r:Option Nat):Fence:= {Fence.wide with round:=r}
theorem rf {P:Program} {f:FuncId} {args:Array Value} {w:World} {R:Ending→World→Prop}(h:Calls P f args w R):CallsIn (WF r) 0 P f args w R:=
 (callsIn_wide (n:=0)).2 h
theorem IS {P:Program} {row:String} {args:Array Value} {w:World} {R:Value→World→Prop}(h:Rows P row args w R):RowsIn (WF r) 0 P row args w R:=fun c cs _=>
 let ⟨v,w',hR,hs⟩:=h c cs
 ⟨v,w',hR,stepsIn_wide.2 hs⟩
def eR(o:Oper):Bool:=
 match o.op with
 | .defer _=>false
 | _=>true
theorem lE {o:Oper}(h:eR o=true):∀c,o.op≠ .defer c:=by
 intro c hc
 unfold eR at h
 rw [hc]at h
 cases h
theorem wu {Y:Bool} {o:Oper} {ρ:Operand→Value} {K:aC} {Qp:Option (List PanicEntry→World→Prop)}(h:opM P C Y o ρ w K Qp):eR o=true:=by
 obtain⟨dst,op,type,pos,after,guard⟩:=o
 cases op<;>first | rfl | exact h.elim
def opW(P:Program)(Y:Bool)(Qp:Option (List PanicEntry→World→Prop))(o:Oper)(ρ:Operand→Value)(w:World)(K:aC):Prop:=
 eR o=true∧Out P Y K (QpP Qp) ((execOp ρ o).run P w)
theorem By {Y:Bool} {o:Oper} {K:aC} {Qp:Option (List PanicEntry→World→Prop)}(hC:eh P C=true)(h:opM P C Y o (ev fr) w K Qp):opW P Y Qp o (ev fr) w K:=
 ⟨wu h,H9 hC (Rep.xl fr) h⟩
theorem LG {o:Oper} {K:Fr→World→Prop} {next:Act→World→Prop} {Q:Exit→Act→World→Prop} {Qp:Option (List PanicEntry→World→Prop)} {ws:List Nat} {a0:Act}(hr:Rep n fr a)(ha:Agr ws a0 a)
 (hd:∀d,o.dst=some d→d∈ws)
 (h:opW P false Qp o (ev fr) w (fun v w'=>iF n N fr o.dst v fun fr'=>K fr' w'))
 (hn:∀fr' a' w',Rep n fr' a'→Agr ws a0 a'→K fr' w'→next a' w')(hp:∀ch w',QpP Qp ch w'→Q (.panic ch) a w'):o.wp P a w next Q:=by
 have h1:=h.2
 rw [← hr.eval]at h1
 unfold Oper.wp
 have key:∀v w',(iF n N fr o.dst v fun fr'=>K fr' w')→next (a.put o.dst v) w':=by
  intro v w' hk
  obtain⟨fr',Nr,hK⟩:=fE hr hk
  exact hn _ _ _ Nr (ha.trans (Agr.put a o.dst v hd)) hK
 generalize (execOp a.eval o).run P w=r at h1
 cases r with
 | ok nx w'=>
  cases nx<;>simp only [Out,Bool.false_eq_true,false_and]at h1<;>simp only [Oper.upon]
  case value v=>exact key _ _ h1
  case skip=>exact key _ _ h1
  case enter f args=>
   refine h1.mono fun e w'' he=>?_
   rcases he with⟨v,rfl,hk⟩ | ⟨ch,rfl,hk⟩
   ·exact key _ _ hk
   ·exact hp _ _ hk
 | halt x w'=>
  cases x<;>simp only [Out]at h1<;>simp only [Oper.upon]
  exact hp _ _ h1
theorem Bv {o:Oper} {K:Fr→World→Prop} {next:Act→World→Prop} {Q:Exit→Act→World→Prop} {Qp:Option (List PanicEntry→World→Prop)} {ws:List Nat} {a0:Act}(hr:Rep n fr a)(ha:Agr ws a0 a)
 (hd:∀d,o.dst=some d→d∈ws)
 (h:opW P true Qp o (ev fr) w (fun v w'=>iF n N fr o.dst v fun fr'=>K fr' w'))
 (hn:∀fr' a' w',Rep n fr' a'→Agr ws a0 a'→K fr' w'→next a' w')(hp:∀ch w',QpP Qp ch w'→Q (.panic ch) a w'):o.wpIn (WF r) 0 P a w next Q:=by
 have P6:=h.1
 have h1:=h.2
 rw [← hr.eval]at h1
 have key:∀v w',(iF n N fr o.dst v fun fr'=>K fr' w')→next (a.put o.dst v) w':=by
  intro v w' hk
  obtain⟨fr',Nr,hK⟩:=fE hr hk
  exact hn _ _ _ Nr (ha.trans (Agr.put a o.dst v hd)) hK
 refine⟨fun _ _=>trivial,?_⟩
 rw [Oper.semAt_eq _ _ _ (lE P6)]
 have R0:((WF r).depth.isSome=true→1≤0):=by intro h;cases h
 generalize (execOp a.eval o).run P w=rr at h1
 cases rr with
 | ok nx w'=>
  cases nx<;>simp only [Out]at h1<;>simp only [Oper.uponIn]
  case value v=>exact key _ _ h1
  case skip=>exact key _ _ h1
  case enter f args=>
   refine⟨R0,rf (h1.mono fun e w'' he=>?_)⟩
   rcases he with⟨v,rfl,hk⟩ | ⟨ch,rfl,hk⟩
   ·exact key _ _ hk
   ·exact hp _ _ hk
  case round l f tmps assign body=>
   refine⟨R0,?_⟩
   refine RoundIn.mono (F:=WF r) (show RoundIn (WF r) 0 P l f tmps assign body w' _ from h1.2) fun e w'' he=>?_
   rcases he with⟨v,rfl,hk⟩ | ⟨ch,rfl,hk⟩
   ·exact key _ _ hk
   ·exact hp _ _ hk
 | halt x w'=>
  cases x<;>simp only [Out]at h1<;>simp only [Oper.uponIn]
  exact hp _ _ h1
theorem jI {o:Oper} {ρ:Operand→Value}:∀f,o.about P w ρ=some f→(WF r).fn f:=fun _ _=>trivial
theorem lQ {Qp:Option (List PanicEntry→World→Prop)} {M:OpT} {K:Fr→World→Prop} {ws:List Nat} {a0:Act}(hM:∀o fr w K,M o (ev fr) w K→opW P true Qp o (ev fr) w K):
 ∀(l:List Oper),(∀o∈l,∀d,o.dst=some d→d∈ws)→∀(fr:Fr)(a:Act)(w:World),Rep n fr a→Agr ws a0 a→EE M n N ops K l fr w→
  wpListIn (WF r) 0 P ops (Real n ws a0 Qp (fun x fr w=>match x with | .normal=>K fr w | _=>False)) l a w
 | [],_,fr,a,w,hr,ha,h=>⟨fr,hr,h,ha⟩
 | o::rest,hd,fr,a,w,hr,ha,h=>by
  obtain⟨fr',Nr,hh⟩:=jE hr h
  simp only [wpListIn]
  rcases hh with⟨hw,hh⟩ | ⟨hw,hh⟩
  ·rw [if_pos hw]
   refine Bv (K:=fun fr' w'=>EE M n N ops K rest fr' w') Nr ha (hd o (List.mem_cons_self ..)) (hM _ _ _ _ hh) ?_ ?_
   ·intro Oz a2 w2 h2 h3 h4
    exact lQ hM rest (fun o' Sk=>hd o' (List.mem_cons_of_mem _ Sk)) Oz a2 w2 h2 h3 h4
   ·intro ch w' hq
    exact⟨hq,ha⟩
  ·rw [if_neg (by rw [hw];simp)]
   obtain⟨Oz,h2,h3⟩:=fE Nr hh
   exact⟨jI,lQ hM rest (fun o' Sk=>hd o' (List.mem_cons_of_mem _ Sk)) Oz _ w h2 (ha.trans (Agr.put a o.dst undef (hd o (List.mem_cons_self ..)))) h3⟩
theorem Ck {Qp:Option (List PanicEntry→World→Prop)} {K:Fr→World→Prop} {ws:List Nat} {a0:Act}(hC:eh P C=true)
 (l:List Oper)(hd:∀o∈l,∀d,o.dst=some d→d∈ws)(fr:Fr)(a:Act)(w:World)(hr:Rep n fr a)(ha:Agr ws a0 a)(h:vcL P C n N ops Qp K l fr w):
  wpListIn (WF r) 0 P ops (Real n ws a0 Qp (fun x fr w=>match x with | .normal=>K fr w | _=>False)) l a w:=
 lQ (fun _ _ _ _ h=>By hC h) l hd fr a w hr ha h
theorem dK {Q:Exit→Act→World→Prop}(hL:¬LetsOut Q)(P6:∀o∈ops,eR o=true):∀(l:List Nat)(a:Act)(w:World),wpOps P ops Q l a w→wpOpsIn (WF r) 0 P ops Q l a w
 | [],_,_,h=>h
 | i::rest,a,w,h=>by
  simp only [wpOps]at h
  simp only [wpOpsIn]
  cases ho:ops[i]? with
  | none=>
   simp only [ho]at h
   exact dK hL P6 rest a w h
  | some o=>
   simp only [ho]at h
   have NK:o∈ops:=Array.mem_of_getElem? ho
   simp only
   split
   ·rename_i hw
    rw [if_pos hw]at h
    rcases h with h | ⟨_,h⟩
    ·refine⟨jI,?_⟩
     rw [Oper.semAt_eq _ _ _ (lE (P6 o NK))]
     unfold Oper.wp at h
     have R0:((WF r).depth.isSome=true→1≤0):=by intro h;cases h
     generalize (execOp a.eval o).run P w=rr at h
     cases rr with
     | ok nx w'=>
      cases nx<;>simp only [Oper.upon]at h<;>simp only [Oper.uponIn]
      case value v=>exact dK hL P6 rest _ _ h
      case skip=>exact dK hL P6 rest _ _ h
      case defer d=>exact dK hL P6 rest _ _ h
      case enter f args=>
       refine⟨R0,rf (h.mono fun e w'' he=>?_)⟩
       cases e with
       | returned v=>exact dK hL P6 rest _ _ he
       | panicked ch=>exact he
       | outgrown=>exact he
      case row row args=>exact⟨R0,IS (h.mono fun v w'' he=>dK hL P6 rest _ _ he)⟩
     | halt x w'=>
      cases x<;>simp only [Oper.upon]at h<;>simp only [Oper.uponIn]
      exact h
    ·exact absurd h hL
   ·rename_i hw
    rw [if_neg hw]at h
    exact⟨jI,dK hL P6 rest _ _ h⟩
end
def tF(ops:Array Oper):Nat→Nat→Nat→Bool
 | 0,_,_=>false
 | fuel+1,j,k=>match ops[j]? with
  | some o=>o.after.toList.any fun e=>Region.binds .any e && (Nat.beq e.on k || tF ops fuel e.on k)
  | none=>false
def behind(ops:Array Oper)(listed:Array Bool)(j:Nat):List Nat:=
 (List.range ops.size).filter fun i=>listed.getD i false && !(Nat.beq i j) && !(tF ops 3 j i)
def gh(ops:Array Oper)(listed:Array Bool):Prop:=
 ∀(k:Nat)(o:Oper),ops[k]? =some o→listed.getD k false=true→∀e∈o.after,Region.binds .any e=true→listed.getD e.on false=true
theorem tE {ops:Array Oper} {listed:Array Bool}(hc:gh ops listed):∀(fuel j k:Nat),tF ops fuel j k=true→
 (∀o,ops[j]? =some o→∀e∈o.after,Region.binds .any e=true→listed.getD e.on false=true)→listed.getD k false=true
 | 0,_,_,h,_=>by cases h
 | fuel+1,j,k,h,hj=>by
  simp only [tF]at h
  split at h
  ·rename_i o ho
   simp only [List.any_eq_true,Bool.and_eq_true,Bool.or_eq_true]at h
   obtain⟨e,he,hb,h⟩:=h
   have hl:=hj o ho e (Array.mem_toList_iff.1 he) hb
   rcases h with h | h
   ·rw [← Nat.eq_of_beq_eq_true h];exact hl
   ·exact tE hc fuel e.on k h fun o' Sk=>hc e.on o' Sk hl
  ·cases h
theorem gh.none(ops:Array Oper)(n:Nat):gh ops (Array.replicate n false):=fun k o _ h=>by
 rw [Array.getD_eq_getD_getElem?,Array.getElem?_replicate]at h
 split at h<;>cases h
theorem gh.set {ops:Array Oper} {listed:Array Bool} {j:Nat}(hc:gh ops listed)(hj:j∈Region.ready .any ops listed):gh ops (listed.setIfInBounds j true):=by
 intro k o ho hk e he hb
 obtain⟨_,oj,W6,Oh⟩:=mem_ready.1 hj
 by_cases hjk:j=k
 ·subst hjk
  rw [W6]at ho
  injection ho with ho
  subst ho
  exact getD_set_true (Oh e he hb)
 ·rw [getD_set_ne false hjk]at hk
  exact getD_set_true (hc k o ho hk e he hb)
section
variable {P:Program} {ops:Array Oper} {Q:Exit→Act→World→Prop} {S:World→Prop}
def gG(C:Nat→World→World→Prop)(i:Nat)(R:World→World→Prop):Nat→World→World→Prop:=
 fun k=>if k=i then R else C k
theorem Co(C:Nat→World→World→Prop) {i j:Nat}(R R':World→World→Prop)(h:i≠j):gG (gG C i R) j R'=gG (gG C j R') i R:=by
 funext k
 unfold gG
 by_cases h1:k=i<;>by_cases h2:k=j
 ·omega
 ·simp [h1,h]
 ·simp [h2,Ne.symm h]
 ·simp [h1,h2]
def ek(P:Program)(ops:Array Oper)(Q:Exit→Act→World→Prop):Nat→(Nat→World→World→Prop)→Array Bool→Act→World→Prop
 | 0,_,listed,a,w=>Region.ready .any ops listed= []∧Q .normal a w
 | fuel+1,C,listed,a,w=>
  (Region.ready .any ops listed= []→Q .normal a w)∧
  ∀j∈Region.ready .any ops listed,wpOp P ops Q j (fun a' w'=>(∀i∈behind ops listed j,C i w w')∧ek P ops Q fuel (gG C j fun _ _=>True) (listed.setIfInBounds j true) a' w') a w
theorem pO:∀(fuel:Nat)(C:Nat→World→World→Prop)(listed:Array Bool)(a:Act)(w:World),ek P ops Q fuel C listed a w→wpAny P .any ops Q fuel listed a w
 | 0,_,_,_,_,h=>h
 | fuel+1,_,_,_,_,h=>⟨h.1,fun i hi=>wpOp_mono (fun a' w' h'=>pO fuel _ _ a' w' h'.2) (h.2 i hi)⟩
theorem uk {i:Nat} {oi:Oper} {v:Value} {R:World→World→Prop}(hR:∀x y z,R x y→R y z→R x z)(Wk:∀x,R x x)(hi:ops[i]? =some oi)(aaZ:∀(j:Nat)(o:Oper) cs b,ops[j]? =some o→o.op≠ .select cs b)
 (hQ:∀c a w,Q (.panic c) (a.put oi.dst v) w→Q (.panic c) a w):
 ∀(fuel:Nat)(C:Nat→World→World→Prop)(listed:Array Bool)(a:Act)(w:World),
  (∀k x,listed.getD k false=true→C k x x)→
  (∀j oj,ops[j]? =some oj→j≠i→listed.getD j true=false→(∀e∈oj.after,Region.binds .any e=true→e.on≠i)→oi.apart ops oj=true)→
  gh ops listed→i∈Region.ready .any ops listed→YieldsIf P ops (fun x=>R w x) oi v a→
  ek P ops Q fuel (gG C i R) (listed.setIfInBounds i true) (a.put oi.dst v) w→ek P ops Q (fuel+1) C listed a w:=by
 have key:∀(fuel:Nat)(C:Nat→World→World→Prop)(listed:Array Bool)(a:Act)(w:World),(∀k x,listed.getD k false=true→C k x x)→i∈Region.ready .any ops listed→
  ek P ops Q fuel (gG C i R) (listed.setIfInBounds i true) a w→(∀k∈behind ops listed i,C k w w)∧ek P ops Q fuel (gG C i fun _ _=>True) (listed.setIfInBounds i true) a w:=by
  intro fuel C listed a w hrefl hr H
  refine⟨fun k hk=>?_,?_⟩
  ·unfold behind at hk
   simp only [List.mem_filter,Bool.and_eq_true]at hk
   exact hrefl k w hk.2.1.1
  ·have weak:∀(fuel:Nat)(C C':Nat→World→World→Prop)(listed:Array Bool)(a:Act)(w:World),(∀k x y,C k x y→C' k x y)→ek P ops Q fuel C listed a w→ek P ops Q fuel C' listed a w:=by
    intro fuel
    induction fuel with
    | zero=>intro C C' listed a w _ h;exact h
    | succ fuel ih=>
     intro C C' listed a w hc h
     refine⟨h.1,fun j hj=>wpOp_mono (fun a' w' h'=>⟨fun k hk=>hc k _ _ (h'.1 k hk),ih _ _ _ a' w' (fun k x y hx=>?_) h'.2⟩) (h.2 j hj)⟩
     unfold gG at hx ⊢
     split
     ·trivial
     ·rename_i Pb;rw [if_neg Pb]at hx;exact hc k x y hx
   refine weak fuel _ _ _ a w (fun k x y hx=>?_) H
   unfold gG at hx ⊢
   split
   ·trivial
   ·rename_i Pb;rw [if_neg Pb]at hx;exact hx
 intro fuel
 induction fuel with
 | zero=>
  intro C listed a w hrefl _ RO hr hy H
  refine⟨fun h=>(by rw [h]at hr;cases hr),fun j hj=>?_⟩
  by_cases Oq:j=i
  ·subst Oq;exact hy.wpOp hi (Wk w) (key 0 C listed _ w hrefl hr H)
  ·have:=ready_mono hj Oq
   rw [H.1]at this
   cases this
 | succ fuel ih=>
  intro C listed a w hrefl RF RO hr hy H
  refine⟨fun h=>(by rw [h]at hr;cases hr),fun j hj=>?_⟩
  by_cases Oq:j=i
  ·subst Oq;exact hy.wpOp hi (Wk w) (key (fuel+1) C listed _ w hrefl hr H)
  ·have h1:=H.2 j (ready_mono hj Oq)
   obtain⟨abt,oj,W6,Oh⟩:=mem_ready.1 hj
   have Xb:=(mem_ready.1 hr).1
   have adv:∀e∈oj.after,Region.binds .any e=true→e.on≠i:=fun e he hb heq=>by
    have h1:=Oh e he hb
    have h0:=Xb
    rw [heq]at h1
    rcases Nat.lt_or_ge i listed.size with h' | h'
    ·simp [h']at h0 h1;rw [h0]at h1;cases h1
    ·simp [Array.getElem?_eq_none h']at h1
   have R0:tF ops 3 j i=false:=by
    cases hd:tF ops 3 j i with
    | false=>rfl
    | true=>
     have h3:=tE RO 3 j i hd fun o ho=>by rw [W6]at ho;injection ho with ho;subst ho;exact Oh
     rcases Nat.lt_or_ge i listed.size with h' | h'
     ·simp [h']at Xb h3;rw [Xb]at h3;cases h3
     ·simp [Array.getElem?_eq_none h']at h3
   have abw:i<listed.size:=by
    rcases Nat.lt_or_ge i listed.size with h' | h'
    ·exact h'
    ·simp [Array.getElem?_eq_none h']at Xb
   have NK:i∈behind ops (listed.setIfInBounds i true) j:=by
    unfold behind
    simp only [List.mem_filter,List.mem_range,Bool.and_eq_true,Bool.not_eq_true']
    refine⟨(Array.getElem?_eq_some_iff.1 hi).1,⟨?_,?_⟩,R0⟩
    ·simp [abw]
    ·cases hb:Nat.beq i j with
     | false=>rfl
     | true=>exact absurd (Nat.eq_of_beq_eq_true hb).symm Oq
   have UX:∀k∈behind ops listed j,k∈behind ops (listed.setIfInBounds i true) j:=fun k hk=>by
    unfold behind at hk ⊢
    simp only [List.mem_filter,Bool.and_eq_true]at hk ⊢
    exact⟨hk.1,⟨getD_set_true hk.2.1.1,hk.2.1.2⟩,hk.2.2⟩
   have adC:∀k∈behind ops listed j,k≠i:=fun k hk e=>by
    unfold behind at hk
    simp only [List.mem_filter,Bool.and_eq_true]at hk
    subst e
    have:=hk.2.1.1
    simp [abw]at Xb this;rw [Xb]at this;cases this
   have h2:=wpOp_putIf W6 (RF j oj W6 Oq abt adv) (fun cs b=>aaZ i oi cs b hi) (fun cs b=>aaZ j oj cs b W6) hQ hy h1
   have WA:∀k ok,ops[k]? =some ok→k≠i→(listed.setIfInBounds j true).getD k true=false→
    (∀e∈ok.after,Region.binds .any e=true→e.on≠i)→oi.apart ops ok=true:=fun k ok hk Uy hun hno=>by
    refine RF k ok hk Uy ?_ hno
    by_cases hjk:j=k
    ·subst hjk;exact abt
    ·rw [getD_set_ne true hjk]at hun;exact hun
   refine wpOp_mono (fun a' w' h3=>?_) h2
   obtain⟨hy3,hd3,UT⟩:=h3
   have hRw:R w w':=by have:=hd3 i NK;unfold gG at this;rwa [if_pos rfl]at this
   refine⟨fun k hk=>?_,ih (gG C j fun _ _=>True) (listed.setIfInBounds j true) a' w' (fun k x hk=>?_) WA (RO.set hj) (ready_mono hr (Ne.symm Oq)) ?_ ?_⟩
   ·have:=hd3 k (UX k hk)
    unfold gG at this
    rwa [if_neg (adC k hk)]at this
   ·unfold gG
    split
    ·trivial
    ·rename_i Pb
     rw [getD_set_ne false (Ne.symm Pb)]at hk
     exact hrefl k x hk
   ·exact hy3.imp (fun⟨h5,h6⟩=>⟨h5,fun x hx=>h6 x (hR _ _ _ hRw hx)⟩) id
   ·rw [Co _ _ _ Oq,Array.setIfInBounds_comm _ _ Oq]
    exact UT
theorem ow {i:Nat} {oi:Oper} {v:Value} {R:World→World→Prop} {fuel:Nat} {C:Nat→World→World→Prop} {listed:Array Bool} {a:Act} {w:World}(hR:∀x y z,R x y→R y z→R x z)(Wk:∀x,R x x)(hrefl:∀k x,listed.getD k false=true→C k x x)(hi:ops[i]? =some oi)
 (hs:Region.noSelect ops=true)(hf:Region.free .any ops listed i=true)(RO:gh ops listed)(hr:(Region.ready .any ops listed).contains i=true)
 (hQ:∀c a w,Q (.panic c) (a.put oi.dst v) w→Q (.panic c) a w)(hy:YieldsIf P ops (fun x=>R w x) oi v a)
 (h:ek P ops Q fuel (gG C i R) (listed.setIfInBounds i true) (a.put oi.dst v) w):ek P ops Q (fuel+1) C listed a w:=
 uk hR Wk hi (Region.noSelect_spec hs) hQ fuel C listed a w hrefl (Region.free_spec hi hf) RO (by simpa using hr) hy h
theorem zd {rs:List Nat} {fuel:Nat} {C:Nat→World→World→Prop} {listed:Array Bool} {a:Act} {w:World}(hr:Region.ready .any ops listed=rs)(Pb:rs≠ [])
 (h:∀j∈rs,wpOp P ops Q j (fun a' w'=>(∀i∈behind ops listed j,C i w w')∧ek P ops Q fuel (gG C j fun _ _=>True) (listed.setIfInBounds j true) a' w') a w):ek P ops Q (fuel+1) C listed a w:=
 ⟨fun h0=>absurd (hr▸h0) Pb,hr▸h⟩
theorem vJ {C:Nat→World→World→Prop} {listed:Array Bool} {a:Act} {w:World}(hr:Region.ready .any ops listed= [])(h:Q .normal a w):
 ∀fuel,ek P ops Q fuel C listed a w
 | 0=>⟨hr,h⟩
 | _+1=>⟨fun _=>h,by rw [hr];simp⟩
end
def ahead(P:Program)(o:Oper):Bool:=
 match o.op with
 | .move _ | .assign _ | .pick .. | .load .. | .nilCheck _ | .fieldAddr .. | .indexAddr .. | .index .. | .binOp .. | .unOp .. | .slice .. | .build .. | .field .. | .extract .. | .makeInterface .. | .makeFunc .. | .sliceToArrayPointer .. =>true
 | .convert src dst _=>match P.underlying src,P.underlying dst with
  | some (.int _),some (.int _)=>true
  | some (.slice _),some .string=>true
  | _,_=>false
 | .call c=>match c.callee with
  | .builtin .len | .builtin .min | .builtin .max=>true
  | _=>false
 | _=>false
def opS(P:Program)(B:Option (Nat→Prop))(o:Oper)(ρ:Operand→Value)(w:World)(F:Value→Prop):Prop:=
 oC P B o ρ w F<|
 match o.op with
 | .convert src dst x=>∃s:ByteArray,(∀w',Kept (held B w) w w'→(convert src dst (ρ x)).run P w'= .ok (.string s) w')∧F (.string s)
 | _=>False
def gQ(P:Program)(ops:Array Oper)(listed:Array Bool):List Nat→Option Nat
 | []=>none
 | i::r=>match (match ops[i]? with | some o=>ahead P o && Region.free .any ops listed i | none=>false)with
  | true=>some i
  | false=>gQ P ops listed r
def z2(F:Nat→Prop):List Nat→Prop
 | []=>True
 | [i]=>F i
 | i::r=>F i∧z2 F r
theorem qS {F:Nat→Prop}:∀ {l:List Nat},z2 F l→∀i∈l,F i
 | [],_,i,hi=>by cases hi
 | [j],h,i,hi=>by simp at hi;subst hi;exact h
 | j::k::r,h,i,hi=>by
  rcases List.mem_cons.1 hi with rfl | hi
  ·exact h.1
  ·exact qS h.2 i hi
def du(b:Nat→Nat→Prop):List Nat→Nat→Prop
 | [],_=>False
 | [i],k=>b i k
 | i::r,k=>b i k∨du b r k
def BB(l:List Nat)(B:Option (Nat→Nat→Prop))(w w':World)(F:Option (Nat→Nat→Prop)→Prop):Prop:=
 match B with
 | none=>False
 | some b=>match l with
  | []=>∃b':Nat→Nat→Prop,(∀i k,b i k→b' i k)∧F (some b')
  | l=>Kept (du b l) w w'∧∃b':Nat→Nat→Prop,(∀i k,b i k→b' i k)∧F (some b')
abbrev Lj:=Option (Nat→Prop)→Oper→(Operand→Value)→World→(Value→Prop)→Prop
def oW(P:Program)(M:OpT)(MS:Lj)(n:Nat)(N:List Nat)(ops:Array Oper)(K:Fr→World→Prop):Nat→Option (Nat→Nat→Prop)→Array Bool→Fr→World→Prop
 | 0,_,listed,fr,w=>match Region.ready .any ops listed with
  | []=>K fr w
  | _=>False
 | fuel+1,B,listed,fr,w=>match Region.ready .any ops listed with
  | []=>K fr w
  | i0::r0=>match gQ P ops listed (i0::r0)with
   | some i=>match ops[i]? with
    | some o=>fW ops o fr
     (fun fr=>MS (B.map fun b=>b i) o (ev fr) w fun v=>iF n N fr o.dst v fun fr'=>oW P M MS n N ops K fuel B (listed.setIfInBounds i true) fr' w)
     (fun fr=>iF n N fr o.dst undef fun fr'=>oW P M MS n N ops K fuel B (listed.setIfInBounds i true) fr' w)
    | none=>False
   | none=>z2 (fun i=>match ops[i]? with
    | some o=>fW ops o fr
     (fun fr=>M o (ev fr) w (fun v w'=>iF n N fr o.dst v fun fr'=>BB (behind ops listed i) B w w' fun B'=>oW P M MS n N ops K fuel B' (listed.setIfInBounds i true) fr' w'))
     (fun fr=>iF n N fr o.dst undef fun fr'=>oW P M MS n N ops K fuel B (listed.setIfInBounds i true) fr' w)
    | none=>False) (i0::r0)
abbrev vcD(P:Program)(C:List Nat)(n:Nat)(N:List Nat)(ops:Array Oper)(Qp:Option (List PanicEntry→World→Prop))(K:Fr→World→Prop):Nat→Option (Nat→Nat→Prop)→Array Bool→Fr→World→Prop:=
 oW P (fun o ρ w K=>opM P C false o ρ w K Qp) (fun B o ρ w F=>opS P B o ρ w F) n N ops K
section
variable {P:Program} {C:List Nat} {n:Nat} {N:List Nat} {r:Option Nat} {ops:Array Oper}
theorem kj {listed:Array Bool} {i:Nat}:∀ {l:List Nat},gQ P ops listed l=some i→i∈l∧Region.free .any ops listed i=true
 | [],h=>by cases h
 | j::r,h=>by
  unfold gQ at h
  split at h
  ·rename_i hj
   injection h with h
   subst h
   refine⟨List.mem_cons_self ..,?_⟩
   split at hj
   ·simp only [Bool.and_eq_true]at hj;exact hj.2
   ·cases hj
  ·have:=kj h
   exact⟨List.mem_cons_of_mem _ this.1,this.2⟩
theorem H8 {B:Option (Nat→Prop)} {o:Oper} {ρ:Operand→Value} {w:World} {F:Value→Prop}(hc:∀v,ρ (.const v)=v)(h:opS P B o ρ w F):
 ∃v,F v∧∀w',Kept (held B w) w w'→(execOp ρ o).run P w'= .ok (.value v) w':=by
 unfold opS at h
 have h0:=nR hc h
 clear h
 rcases h0 with h | h
 ·exact h
 ·split at h
  ·rename_i src dst x hop
   obtain⟨s,hr,hF⟩:=h
   exact⟨_,hF,fun w' hb=>by unfold execOp;rw [hop];simp [hr w' hb]⟩
  ·exact h.elim
theorem xQ {b:Nat→Nat→Prop}:∀ {l:List Nat} {i k:Nat},i∈l→b i k→du b l k
 | [j],i,k,hi,h=>by simp at hi;subst hi;exact h
 | j::m::r,i,k,hi,h=>by
  rcases List.mem_cons.1 hi with rfl | hi
  ·exact .inl h
  ·exact .inr (xQ hi h)
def lL(B:Option (Nat→Nat→Prop))(C:Nat→World→World→Prop)(listed:Array Bool):Prop:=
 match B with
 | none=>∀i,listed.getD i false=true→∀x y,Kept (fun k=>k<x.heap.size) x y→C i x y
 | some b=>∀i,listed.getD i false=true→∀x y,Kept (b i) x y→C i x y
theorem lL.refl {B:Option (Nat→Nat→Prop)} {C:Nat→World→World→Prop} {listed:Array Bool}(h:lL B C listed):∀k x,listed.getD k false=true→C k x x:=by
 intro k x hk
 cases B with
 | none=>exact h k hk x x (Kept.refl _ _)
 | some b=>exact h k hk x x (Kept.refl _ _)
theorem lL.none(B:Option (Nat→Nat→Prop))(l:Array Bool):lL B (fun _ _ _=>True) l:=by
 cases B<;>exact fun _ _ _ _ _=>trivial
def CE(B:Option (Nat→Prop))(x y:World):Prop:=
 match B with
 | none=>Kept (fun k=>k<x.heap.size) x y
 | some b=>Kept b x y
theorem qn(B:Option (Nat→Prop))(x y z:World)(h:CE B x y)(h':CE B y z):CE B x z:=by
 cases B with
 | none=>
  have h1:Kept (fun k=>k<x.heap.size) x y:=h
  have h2:Kept (fun k=>k<y.heap.size) y z:=h'
  exact h1.trans (h2.mono fun k hk=>Nat.lt_of_lt_of_le hk h1.size)
 | some b=>
  have h1:Kept b x y:=h
  have h2:Kept b y z:=h'
  exact h1.trans h2
theorem tc(B:Option (Nat→Prop))(x:World):CE B x x:=by cases B<;>exact Kept.refl _ _
theorem CD {B:Option (Nat→Prop)} {x y:World}(h:CE B x y):Kept (held B x) x y:=by cases B<;>exact h
theorem pT {Qp:Option (List PanicEntry→World→Prop)} {M:OpT} {MS:Lj} {K:Fr→World→Prop} {ws:List Nat} {a0:Act}(hM:∀o fr w K,M o (ev fr) w K→opW P false Qp o (ev fr) w K)
 (hMS:∀B o fr w F,MS B o (ev fr) w F→∃v,F v∧∀w',Kept (held B w) w w'→(execOp (ev fr) o).run P w'= .ok (.value v) w')(hs:Region.noSelect ops=true)
 (hd:∀(i:Nat)(o:Oper),ops[i]? =some o→∀d,o.dst=some d→d∈ws):
 ∀(fuel:Nat)(B:Option (Nat→Nat→Prop))(G:Nat→World→World→Prop)(listed:Array Bool)(fr:Fr)(a:Act)(w:World),gh ops listed→lL B G listed→Rep n fr a→Agr ws a0 a→oW P M MS n N ops K fuel B listed fr w→
  ek P ops (Real n ws a0 Qp (fun x fr w=>match x with | .normal=>K fr w | _=>False)) fuel G listed a w:=by
 intro fuel
 induction fuel with
 | zero=>
  intro B G listed fr a w RO Sl hr ha h
  simp only [oW]at h
  split at h
  ·rename_i Q3
   exact⟨Q3,fr,hr,h,ha⟩
  ·exact h.elim
 | succ fuel ih=>
  intro B G listed fr a w RO Sl hr ha h
  have hQ:∀o:Oper,(∀d,o.dst=some d→d∈ws)→∀v,∀c a w,Real n ws a0 Qp (fun x fr w=>match x with | .normal=>K fr w | _=>False) (.panic c) (a.put o.dst v) w→
   Real n ws a0 Qp (fun x fr w=>match x with | .normal=>K fr w | _=>False) (.panic c) a w:=by
   intro o hd v c a w h
   have hp:=Agr.put a o.dst v hd
   exact⟨h.1,⟨fun i hi=>(hp.tmps i hi).symm.trans (h.2.tmps i hi),fun hi=>(hp.defers hi).symm.trans (h.2.defers hi)⟩⟩
  have PJ:∀i,lL B (gG G i (CE (B.map fun b=>b i))) (listed.setIfInBounds i true):=by
   intro i
   cases B with
   | none=>
    intro k hk x y SD
    unfold gG
    split
    ·exact SD
    ·rename_i Pb
     rw [getD_set_ne false (Ne.symm Pb)]at hk
     exact Sl k hk x y SD
   | some b=>
    intro k hk x y SD
    unfold gG
    split
    ·rename_i he;subst he;exact SD
    ·rename_i Pb
     rw [getD_set_ne false (Ne.symm Pb)]at hk
     exact Sl k hk x y SD
  have TV:∀i,lL B (gG G i fun _ _=>True) (listed.setIfInBounds i true):=by
   intro i
   cases B with
   | none=>
    intro k hk x y SD
    unfold gG
    split
    ·trivial
    ·rename_i Pb
     rw [getD_set_ne false (Ne.symm Pb)]at hk
     exact Sl k hk x y SD
   | some b=>
    intro k hk x y SD
    unfold gG
    split
    ·trivial
    ·rename_i Pb
     rw [getD_set_ne false (Ne.symm Pb)]at hk
     exact Sl k hk x y SD
  simp only [oW]at h
  split at h
  ·rename_i Q3
   exact vJ Q3 ⟨fr,hr,h,ha⟩ _
  ·rename_i i0 r0 Q3
   split at h
   ·rename_i i hfa
    obtain⟨NK,RF⟩:=kj hfa
    split at h
    ·rename_i o ho
     obtain⟨fr',Nr,hh⟩:=jE hr h
     have VJ:(Region.ready .any ops listed).contains i=true:=by rw [Q3];simpa using NK
     rcases hh with⟨hw,hh⟩ | ⟨hw,hh⟩
     ·obtain⟨v,hk,Oo⟩:=hMS _ _ _ _ _ hh
      obtain⟨Oz,h2,h3⟩:=fE Nr hk
      rw [← Nr.eval]at Oo
      exact ow (qn _) (tc _) Sl.refl ho hs RF RO VJ (hQ o (hd i o ho) v) (.inl ⟨hw,fun w' hb=>Oo w' (CD hb)⟩)
       (ih _ _ _ Oz _ w (RO.set (by rw [Q3];exact NK)) (PJ i) h2 (ha.trans (Agr.put a o.dst v (hd i o ho))) h3)
     ·obtain⟨Oz,h2,h3⟩:=fE Nr hh
      exact ow (qn _) (tc _) Sl.refl ho hs RF RO VJ (hQ o (hd i o ho) undef) (.inr ⟨hw,rfl⟩)
       (ih _ _ _ Oz _ w (RO.set (by rw [Q3];exact NK)) (PJ i) h2 (ha.trans (Agr.put a o.dst undef (hd i o ho))) h3)
    ·exact h.elim
   ·refine zd Q3 (by simp) fun i hi=>?_
    have Oy:=qS h i hi
    have Wj:i∈Region.ready .any ops listed:=by rw [Q3];exact hi
    split at Oy
    ·rename_i o ho
     obtain⟨fr',Nr,hh⟩:=jE hr Oy
     unfold wpOp
     simp only [ho]
     rcases hh with⟨hw,hh⟩ | ⟨hw,hh⟩
     ·rw [if_pos hw]
      refine .inl (LG (Qp:=Qp) (N:=N) (K:=fun fr' w'=>BB (behind ops listed i) B w w' fun B'=>oW P M MS n N ops K fuel B' (listed.setIfInBounds i true) fr' w') Nr ha (hd i o ho) ?_ ?_ ?_)
      ·exact hM _ _ _ _ hh
      ·intro Oz a2 w2 h2 h3 h4
       cases B with
       | none=>exact h4.elim
       | some b=>
        simp only [BB]at h4
        split at h4
        ·rename_i hbe
         obtain⟨b',P1,h4⟩:=h4
         refine⟨fun k hk=>(by rw [hbe]at hk;cases hk),ih (some b') _ _ Oz a2 w2 (RO.set Wj) ?_ h2 h3 h4⟩
         intro k hk x y SD
         exact TV i k hk x y (Kept.mono SD fun m hm=>P1 k m hm)
        ·obtain⟨hb4,b',P1,h4⟩:=h4
         refine⟨fun k hk=>?_,ih (some b') _ _ Oz a2 w2 (RO.set Wj) ?_ h2 h3 h4⟩
         ·have hl:listed.getD k false=true:=by
           unfold behind at hk
           simp only [List.mem_filter,Bool.and_eq_true]at hk
           exact hk.2.1.1
          exact Sl k hl w w2 (hb4.mono fun m hm=>xQ hk hm)
         ·intro k hk x y SD
          exact TV i k hk x y (Kept.mono SD fun m hm=>P1 k m hm)
      ·intro ch w' hq
       exact⟨hq,ha⟩
     ·rw [if_neg (by rw [hw];simp)]
      obtain⟨Oz,h2,h3⟩:=fE Nr hh
      exact⟨fun k hk=>(by
       unfold behind at hk
       simp only [List.mem_filter,Bool.and_eq_true]at hk
       exact Sl.refl k w hk.2.1.1),ih _ _ _ Oz _ w (RO.set Wj) (TV i) h2 (ha.trans (Agr.put a o.dst undef (hd i o ho))) h3⟩
    ·exact Oy.elim
theorem Cm {Qp:Option (List PanicEntry→World→Prop)} {K:Fr→World→Prop} {ws:List Nat} {a0:Act}(hC:eh P C=true)(hs:Region.noSelect ops=true)
 (hd:∀(i:Nat)(o:Oper),ops[i]? =some o→∀d,o.dst=some d→d∈ws)
 (fuel:Nat)(B:Option (Nat→Nat→Prop))(G:Nat→World→World→Prop)(listed:Array Bool)(fr:Fr)(a:Act)(w:World)(RO:gh ops listed)(Sl:lL B G listed)(hr:Rep n fr a)(ha:Agr ws a0 a)(h:vcD P C n N ops Qp K fuel B listed fr w):
  ek P ops (Real n ws a0 Qp (fun x fr w=>match x with | .normal=>K fr w | _=>False)) fuel G listed a w:=
 pT (fun _ _ _ _ h=>By hC h) (fun _ _ fr _ _ h=>H8 (Rep.xl fr) h) hs hd fuel B G listed fr a w RO Sl hr ha h
end
def ShT:Sh→Type→Type
 | .int _,T=>Int→T
 | .bool,T=>Bool→T
 | .str,T=>ByteArray→T
 | .ptr,T=>Option Addr→T
 | .slice,T=>Option Addr→Nat→Nat→T
 | .map,T=>Option Nat→T
 | .val,T=>Value→T
def GY:List Sh→Type→Type
 | [],T=>T
 | s::l,T=>ShT s (GY l T)
def GZ:Sh2→Type→Type
 | .one s,T=>ShT s T
 | .agg l,T=>GY l T
 | .row _,T=>Array Value→T
def JT:List (Nat×Sh2)→Type
 | []=>World→Prop
 | (_,s)::r=>GZ s (JT r)
def Gh {T:Type}:(s:Sh)→ShT s T→Value→(T→Prop)→Prop
 | .int k,J,v,F=>match v with
  | .int k' x=>match kEq k k' with
   | true=>F (J x)
   | false=>False
  | _=>False
 | .bool,J,v,F=>match v with
  | .bool x=>F (J x)
  | _=>False
 | .str,J,v,F=>match v with
  | .string x=>F (J x)
  | _=>False
 | .ptr,J,v,F=>match v with
  | .pointer x=>F (J x)
  | _=>False
 | .slice,J,v,F=>match v with
  | .slice a n c=>F (J a n c)
  | _=>False
 | .map,J,v,F=>match v with
  | .map x=>F (J x)
  | _=>False
 | .val,J,v,F=>F (J v)
def Gg {T:Type}:(l:List Sh)→GY l T→List Value→(T→Prop)→Prop
 | [],J,[],F=>F J
 | s::l,J,v::vs,F=>Gh s J v fun J'=>Gg l J' vs F
 | _,_,_,_=>False
def xJ {T:Type}:(s:Sh2)→GZ s T→Value→(T→Prop)→Prop
 | .one s,J,v,F=>Gh s J v F
 | .agg l,J,v,F=>match v with
  | .agg cs=>Gg l J cs.toList F
  | _=>False
 | .row _,J,v,F=>match v with
  | .agg cs=>F (J cs)
  | _=>False
def Cn:(l:List (Nat×Sh2))→JT l→Fr→World→Prop
 | [],J,_,w=>J w
 | (s,sh)::r,J,fr,w=>xJ sh J (lk fr.g s fr.e) fun J'=>Cn r J' fr w
def B0 {T:Type}:(s:Sh)→ShT s T→(T→Value→Prop)→Prop
 | .int k,J,F=>∀x:Int,F (J x) (.int k x)
 | .bool,J,F=>∀x:Bool,F (J x) (.bool x)
 | .str,J,F=>∀x:ByteArray,F (J x) (.string x)
 | .ptr,J,F=>∀x:Option Addr,F (J x) (.pointer x)
 | .slice,J,F=>∀(a:Option Addr)(n c:Nat),F (J a n c) (.slice a n c)
 | .map,J,F=>∀x:Option Nat,F (J x) (.map x)
 | .val,J,F=>∀x:Value,F (J x) x
def u7 {T:Type}:(l:List Sh)→GY l T→(T→List Value→Prop)→Prop
 | [],J,F=>F J []
 | s::l,J,F=>B0 s J fun J' v=>u7 l J' fun J'' vs=>F J'' (v::vs)
def z1 {T:Type}:(s:Sh2)→GZ s T→(T→Value→Prop)→Prop
 | .one s,J,F=>B0 s J F
 | .agg l,J,F=>u7 l J fun J' vs=>F J' (.agg ⟨vs⟩)
 | .row _,J,F=>∀cs:Array Value,F (J cs) (.agg cs)
def Gm:(l:List (Nat×Sh2))→JT l→(List (Nat×Value)→World→Prop)→Prop
 | [],J,F=>∀w,J w→F [] w
 | (s,sh)::r,J,F=>z1 sh J fun J' v=>Gm r J' fun vs w=>F ((s,v)::vs) w
theorem nf {T:Type} {s:Sh} {J:ShT s T} {v:Value} {F:T→Prop}(h:Gh s J v F):∃J',F J'∧∀G:T→Value→Prop,B0 s J G→G J' v:=by
 cases s<;>simp only [Gh]at h
 case int k=>
  split at h
  ·split at h
   ·rename_i hk
    obtain rfl:=mV hk
    exact⟨_,h,fun G hG=>hG _⟩
   ·exact h.elim
  ·exact h.elim
 case slice=>
  split at h
  ·exact⟨_,h,fun G hG=>hG _ _ _⟩
  ·exact h.elim
 case val=>exact⟨_,h,fun G hG=>hG _⟩
 all_goals
  split at h
  ·exact⟨_,h,fun G hG=>hG _⟩
  ·exact h.elim
theorem tJ {T:Type}:∀ {l:List Sh} {J:GY l T} {vs:List Value} {F:T→Prop},Gg l J vs F→∃J',F J'∧∀G:T→List Value→Prop,u7 l J G→G J' vs
 | [],J,[],F,h=>⟨_,h,fun G hG=>hG⟩
 | s::l,J,v::vs,F,h=>by
  obtain⟨J',h1,h2⟩:=nf h
  obtain⟨J'',h3,h4⟩:=tJ h1
  exact⟨J'',h3,fun G hG=>h4 (fun J'' vs=>G J'' (v::vs)) (h2 (fun J' v=>u7 l J' fun J'' vs=>G J'' (v::vs)) hG)⟩
 | [],_,_::_,_,h=>h.elim
 | _::_,_,[],_,h=>h.elim
theorem tK {T:Type} {s:Sh2} {J:GZ s T} {v:Value} {F:T→Prop}(h:xJ s J v F):∃J',F J'∧∀G:T→Value→Prop,z1 s J G→G J' v:=by
 cases s with
 | one s=>exact nf h
 | agg l=>
  simp only [xJ]at h
  split at h
  ·obtain⟨J',h1,h2⟩:=tJ h
   exact⟨J',h1,fun G hG=>h2 (fun J' vs=>G J' (.agg ⟨vs⟩)) hG⟩
  ·exact h.elim
 | row n=>
  simp only [xJ]at h
  split at h
  ·exact⟨_,h,fun G hG=>hG _⟩
  ·exact h.elim
theorem pU:∀(l:List (Nat×Sh2))(J:JT l)(fr:Fr)(w:World),Cn l J fr w→
 ∃vs:List (Nat×Value),(∀s v,(s,v)∈vs→lk fr.g s fr.e=v)∧∀F,Gm l J F→F vs w
 | [],J,fr,w,h=>⟨[],by simp,fun F hF=>hF w h⟩
 | (s,sh)::r,J,fr,w,h=>by
  obtain⟨J',h1,h2⟩:=tK h
  obtain⟨vs,h3,h4⟩:=pU r J' fr w h1
  refine⟨(s,lk fr.g s fr.e)::vs,fun s' v' hm=>?_,fun F hF=>h4 _ (h2 (fun J' v=>Gm r J' fun vs w=>F ((s,v)::vs) w) hF)⟩
  rcases List.mem_cons.1 hm with e | hm
  ·cases e;rfl
  ·exact h3 _ _ hm
def Gl:Sh→(Value→Prop)→Prop
 | .int k,F=>∀x:Int,F (.int k x)
 | .bool,F=>∀x:Bool,F (.bool x)
 | .str,F=>∀x:ByteArray,F (.string x)
 | .ptr,F=>∀x:Option Addr,F (.pointer x)
 | .slice,F=>∀(a:Option Addr)(n c:Nat),F (.slice a n c)
 | .map,F=>∀x:Option Nat,F (.map x)
 | .val,F=>∀x:Value,F x
def Gk:List Sh→(List Value→Prop)→Prop
 | [],F=>F []
 | s::l,F=>Gl s fun v=>Gk l fun vs=>F (v::vs)
def JZ:Sh2→(Value→Prop)→Prop
 | .one s,F=>Gl s F
 | .agg l,F=>Gk l fun vs=>F (.agg ⟨vs⟩)
 | .row _,F=>∀cs:Array Value,F (.agg cs)
def Lc:List Sh2→(List Value→Prop)→Prop
 | [],F=>F []
 | s::l,F=>JZ s fun v=>Lc l fun vs=>F (v::vs)
theorem tN {s:Sh} {F G:Value→Prop}(h:s.ex F)(hG:Gl s G):∃v,F v∧G v:=by
 cases s<;>simp only [Sh.ex]at h
 case slice=>obtain⟨a,n,c,h⟩:=h;exact⟨_,h,hG _ _ _⟩
 all_goals obtain⟨x,h⟩:=h;exact⟨_,h,hG _⟩
theorem tM:∀ {l:List Sh} {F G:List Value→Prop},exs l F→Gk l G→∃vs,F vs∧G vs
 | [],_,_,h,hG=>⟨[],h,hG⟩
 | s::l,F,G,h,hG=>by
  obtain⟨v,h1,h2⟩:=tN h hG
  obtain⟨vs,h3,h4⟩:=tM h1 h2
  exact⟨_,h3,h4⟩
theorem Dq {s:Sh2} {F G:Value→Prop}(h:s.ex F)(hG:JZ s G):∃v,F v∧G v:=by
 cases s with
 | one s=>exact tN h hG
 | agg l=>obtain⟨vs,h1,h2⟩:=tM h hG;exact⟨_,h1,h2⟩
 | row n=>obtain⟨cs,h⟩:=h;exact⟨_,h,hG _⟩
theorem xR:∀ {l:List Sh2} {F G:List Value→Prop},xk l F→Lc l G→∃vs,F vs∧G vs
 | [],_,_,h,hG=>⟨[],h,hG⟩
 | s::l,F,G,h,hG=>by
  obtain⟨v,h1,h2⟩:=Dq h hG
  obtain⟨vs,h3,h4⟩:=xR h1 h2
  exact⟨_,h3,h4⟩
theorem xh:∀ {l:List Sh2} {x:List Value},xk l (fun vs=>x=vs)→x.length=l.length:=by
 have key:∀(l:List Sh2)(pre:List Value)(x:List Value),xk l (fun vs=>x=pre++vs)→x.length=pre.length+l.length:=by
  intro l
  induction l with
  | nil=>intro pre x h;have:x=pre++ []:=h;rw [this];simp
  | cons s l ih=>
   intro pre x h
   obtain⟨v,h⟩:=Sh2.jG h
   have:=ih (pre++ [v]) x (by simpa using h)
   rw [this]
   simp;omega
 intro l x h
 simpa using key l [] x (by simpa using h)
def writes:Code→List Nat
 | .region _ ops _=>ops.toList.filterMap (·.dst)
 | .seq x y=>writes x++writes y
 | .cond _ x y=>writes x++writes y
 | .block _ c=>writes c
 | .loop c=>writes c
 | .scope c=>writes c
 | .rangeFunc _ _ _ _=>[oH]
 | _=>[]
def B3(ws:List Nat):List Nat→Bool
 | []=>true
 | d::r=>match ws.elem d with
  | true=>B3 ws r
  | false=>false
theorem tP {ws:List Nat}:∀ {l:List Nat},B3 ws l=true→∀d∈l,d∈ws
 | [],_,d,hd=>by cases hd
 | e::r,h,d,hd=>by
  unfold B3 at h
  split at h
  ·rename_i he
   rcases List.mem_cons.1 hd with rfl | hd
   ·exact List.elem_iff.1 he
   ·exact tP h d hd
  ·cases h
structure Cut where
 live:List (Nat×Sh2)
 wr:List Nat
inductive Ann where
 | leaf
 | node (cut:Option Cut)(l r:Ann)
def Ann.cut:Ann→Option Cut
 | .leaf=>none
 | .node c _ _=>c
def Ann.l:Ann→Ann
 | .leaf=>.leaf
 | .node _ l _=>l
def Ann.r:Ann→Ann
 | .leaf=>.leaf
 | .node _ _ r=>r
def forget(wr:List Nat):List (Nat×Value)→List (Nat×Value)
 | []=>[]
 | (d,v)::r=>match wr.elem d with
  | true=>forget wr r
  | false=>(d,v)::forget wr r
def qK(wr ws:List Nat):Bool:=
 match B3 wr ws with
 | true=>!(wr.elem oH)
 | false=>false
theorem n5 {wr ws:List Nat}(h:qK wr ws=true):(∀d∈ws,d∈wr)∧oH ∉ wr:=by
 unfold qK at h
 split at h
 ·rename_i Sn
  refine⟨tP Sn,fun hm=>?_⟩
  rw [List.elem_iff.2 hm]at h
  cases h
 ·cases h
def ib(c:Code)(a:Ann)(Q:QF)(fr:Fr)(F:QF→Prop):Prop:=
 match a.cut with
 | none=>F Q
 | some ⟨live,wr⟩=>match qK wr (writes c)with
  | true=>∃J:JT live,F (fun x fr' w'=>match x with | .normal=>Cn live J fr' w' | x=>Q x fr' w')∧
   ∀g:Nat→Value,Gm live J fun vs w'=>Q .normal ⟨vs++forget wr fr.e,g,fr.ds⟩ w'
  | false=>False
def kt(P:Program):List Oper→Bool
 | []=>true
 | o::r=>match ahead P o with
  | true=>kt P r
  | false=>false
def dP(l:List Oper):Bool:=
 match l with
 | []=>true
 | o::r=>match eR o with
  | true=>dP r
  | false=>false
theorem gN:∀ {l:List Oper},dP l=true→∀o∈l,eR o=true
 | [],_,o,ho=>by cases ho
 | e::r,h,o,ho=>by
  unfold dP at h
  split at h
  ·rename_i he
   rcases List.mem_cons.1 ho with rfl | ho
   ·exact he
   ·exact gN h o ho
  ·cases h
def Iter(P:Program)(gf:Nat)(cap:Array Value)(xs:List (List Value))(X:Nat→Prop)(D:Nat→World→Prop):Prop:=
 (∀i A B,D i A→Kept X A B→D i B)∧
 ∀(l:Nat)(J Jx:Nat→World→Prop)(W:World),
  (∀i A B,J i A→Kept (fun k=>k<A.heap.size∧¬X k) A B→J i B)→(∀i A B,Jx i A→Kept (fun k=>k<A.heap.size∧¬X k) A B→Jx i B)→
  J 0 W→D 0 W→
  (∀i x A,xs[i]? =some x→J i A→D i A→YieldAt Fence.wide 0 P l ⟨x⟩ A fun e B=>(e= .returned (.bool true)∧J (i+1) B∧Kept X A B)∨(e= .returned (.bool false)∧Jx (i+1) B∧Kept X A B))→
  Calls P gf (#[.func (.yield l) #[] #[]]++cap) W fun e B=>(∃v,e= .returned v)∧((J xs.length B∧D xs.length B)∨∃i,Jx i B∧D i B)
def ym(X:Nat→Prop)(l:Nat)(J:Nat→World→Prop):Prop:=
 ∀i A B,J i A→Kept (fun k=>k<A.heap.size∧¬X k∧k≠l) A B→J i B
def Bq:List Tmp→List Value→List (Nat×Value)→List (Nat×Value)
 | p::ps,v::vs,e=>Bq ps vs ((p,v)::e)
 | _,_,e=>e
def mark(dl:Nat):Deferred:= {target:= .collected dl,args:= #[]}
def uE(ps:List Tmp)(n:Nat):Bool:=
 match ps with
 | []=>true
 | p::r=>match Nat.blt p n with
  | true=>uE r n
  | false=>false
def vcC(P:Program)(C:List Nat)(n:Nat)(N:List Nat):Bool→Option (List PanicEntry→World→Prop)→Code→Ann→QF→Fr→World→Prop
 | _,_,.skip,_,Q,fr,w=>Q .normal fr w
 | _,Qp,.region id ops false,a,Q,fr,w=>ib (.region id ops false) a Q fr fun Q=>vcL P C n N ops Qp (Q .normal) ops.toList fr w
 | _,Qp,.region id ops true,a,Q,fr,w=>ib (.region id ops true) a Q fr fun Q=>match Region.noSelect ops,dP ops.toList with
  | true,true=>(match kt P ops.toList with
   | true=>vcD P C n N ops Qp (Q .normal) ops.size none (Array.replicate ops.size false) fr w.drew
   | false=>∃b:Nat→Nat→Prop,vcD P C n N ops Qp (Q .normal) ops.size (some b) (Array.replicate ops.size false) fr w.drew)
  | _,_=>False
 | R,Qp,.seq x y,a,Q,fr,w=>ib (.seq x y) a Q fr fun Q=>vcC P C n N R Qp x a.l (fun e fr' w'=>match e with | .normal=>vcC P C n N R Qp y a.r Q fr' w' | e=>Q e fr' w') fr w
 | R,Qp,.cond c x y,a,Q,fr,w=>ib (.cond c x y) a Q fr fun Q=>match ev fr c with
  | .bool b=>split b (vcC P C n N R Qp x a.l Q fr w) (vcC P C n N R Qp y a.r Q fr w)
  | _=>False
 | R,Qp,.block id c,a,Q,fr,w=>ib (.block id c) a Q fr fun Q=>vcC P C n N R Qp c a.l (fun e fr' w'=>match e with
  | .exit id'=>(match Nat.beq id' id with | true=>Q .normal fr' w' | false=>Q (.exit id') fr' w')
  | e=>Q e fr' w') fr w
 | R,Qp,.loop c,a,Q,fr,w=>match a.cut with
  | none=>False
  | some ⟨live,wr⟩=>match qK wr (writes c)with
   | true=>∃I:Nat→JT live,(∃m,Cn live (I m) fr w)∧∀(m:Nat)(g:Nat→Value),Gm live (I m) fun vs w'=>
    vcC P C n N R Qp c a.l (fun e fr' w''=>match e with
     | .normal=>∃m',m'<m∧Cn live (I m') fr' w''
     | e=>Q e fr' w'') ⟨vs++forget wr fr.e,g,fr.ds⟩ w'
   | false=>False
 | false,_,.rangeFunc g ps assign body,a,Q,fr,w=>match a.cut with
  | none=>False
  | some ⟨live,ids⟩=>match Nat.beq live.length ps.size && uE ps.toList n with
   | false=>False
   | true=>∃(gf:Nat)(cap:Array Value),ev fr g= .func (.func gf) #[] cap∧C.elem gf=true∧
    ∀(l dl:Nat)(w1:World),dl=w.heap.size→l=w.heap.size+1→Kept (fun k=>k<w.heap.size) w w1→l<w1.heap.size→w1.heap[dl]? =some (.deferred (some []))→
     ∃(xs:List (List Value))(X:Nat→Prop)(D J Jr:Nat→World→Prop)(Je:Nat→Nat→World→Prop),
      Iter P gf cap xs X D∧(∀k,X k→k<w.heap.size)∧(∀x∈xs,xk (live.map (·.2)) fun vs=>x=vs)∧
      (ym X l J∧ym X l Jr∧∀id,ym X l (Je id))∧D 0 w1∧J 0 w1∧
      (∀(i:Nat)(A:World),J i A→D i A→Lc (live.map (·.2)) fun x=>xs[i]? =some x→
       vcC P C n N true none assign a.l (fun e Oz w2=>match e with
        | .normal=>Kept (fun k=>X k∨k=l) A w2∧∀w3,Kept (fun k=>k<w2.heap.size∧k≠l) w2 w3→
         vcC P C n N true none body a.r (fun e _ w4=>match e with
          | .normal=>Kept (fun k=>X k∨k=l) w3 w4∧J (i+1) w4
          | .ret=>Kept (fun k=>X k∨k=l) w3 w4∧Jr (i+1) w4
          | .exit id=>(match ids.elem id with
           | true=>Kept (fun k=>X k∨k=l) w3 w4∧Je id (i+1) w4
           | false=>False)
          | _=>False) Oz w3
        | _=>False) ⟨Bq ps.toList x fr.e,fr.g,[]⟩ A)∧
      (∀W,J xs.length W→D xs.length W→Q .normal ⟨fr.e,fr.g,mark dl::fr.ds⟩ W)∧
      (∀i W,Jr i W→D i W→Q .ret ⟨fr.e,fr.g,mark dl::fr.ds⟩ W)∧
      z2 (fun id=>∀i W,Je id i W→D i W→Q (.exit id) ⟨fr.e,fr.g,mark dl::fr.ds⟩ W) ids
 | _,_,.exit id,_,Q,fr,w=>Q (.exit id) fr w
 | _,_,.ret,_,Q,fr,w=>Q .ret fr w
 | _,_,.label _,_,Q,fr,w=>Q .normal fr w
 | false,Qp,.scope c,a,Q,fr,w=>ib (.scope c) a Q fr fun Q=>vcC P C n N false Qp c a.l (fun e fr' w'=>match e with
  | .goto _=>False
  | e=>Q e fr' w') fr w
 | _,_,_,_,_,_,_=>False
section
variable {P:Program} {C:List Nat} {n:Nat} {N:List Nat} {Qp:Option (List PanicEntry→World→Prop)} {r:Option Nat}
theorem tz(g:Nat→Value)(i:Nat):∀(x y:List (Nat×Value)),(∃v,(i,v)∈x∧lk g i (x++y)=v)∨((∀v,(i,v) ∉ x)∧lk g i (x++y)=lk g i y)
 | [],y=>.inr ⟨by simp,rfl⟩
 | (d,v)::r,y=>by
  simp only [List.cons_append,lk]
  split
  ·rename_i h
   obtain rfl:=Nat.eq_of_beq_eq_true h
   exact .inl ⟨v,List.mem_cons_self ..,rfl⟩
  ·rename_i h
   have Pb:i≠d:=by rintro rfl;simp at h
   rcases tz g i r y with⟨u,hu,he⟩ | ⟨hu,he⟩
   ·exact .inl ⟨u,List.mem_cons_of_mem _ hu,he⟩
   ·refine .inr ⟨fun u hm=>?_,he⟩
    rcases List.mem_cons.1 hm with e | hm
    ·cases e;exact Pb rfl
    ·exact hu u hm
theorem nY(wr:List Nat)(g g':Nat→Value)(i:Nat):∀(e:List (Nat×Value)),lk g' i (forget wr e)=g' i∨(i ∉ wr∧lk g' i (forget wr e)=lk g i e)
 | []=>.inl rfl
 | (d,v)::r=>by
  simp only [forget]
  split
  ·rename_i h
   rcases nY wr g g' i r with hh | ⟨hn,hh⟩
   ·exact .inl hh
   ·refine .inr ⟨hn,?_⟩
    simp only [lk]
    split
    ·rename_i hi
     obtain rfl:=Nat.eq_of_beq_eq_true hi
     exact absurd (List.elem_iff.1 h) hn
    ·exact hh
  ·rename_i h
   simp only [lk]
   split
   ·rename_i hi
    obtain rfl:=Nat.eq_of_beq_eq_true hi
    refine .inr ⟨fun hm=>?_,rfl⟩
    rw [List.elem_iff.2 hm]at h
    cases h
   ·exact nY wr g g' i r
theorem uB {fr fr':Fr} {a a':Act} {wr:List Nat} {vs:List (Nat×Value)}(h0:Rep n fr a)(h1:Rep n fr' a')(N0:Agr wr a a')(PG:oH ∉ wr)(hvs:∀s v,(s,v)∈vs→lk fr'.g s fr'.e=v):
 Rep n ⟨vs++forget wr fr.e,fun i=>a'.tmps.getD i undef,fr.ds⟩ a':=by
 refine⟨h1.size,fun i=>?_,(N0.defers PG).trans h0.defers⟩
 rcases tz (fun i=>a'.tmps.getD i undef) i vs (forget wr fr.e)with⟨v,hv,he⟩ | ⟨_,he⟩
 ·show _=lk _ i (vs++forget wr fr.e)
  rw [he,h1.get,hvs _ _ hv]
 ·show _=lk _ i (vs++forget wr fr.e)
  rw [he]
  rcases nY wr fr.g (fun i=>a'.tmps.getD i undef) i fr.e with hh | ⟨hn,hh⟩
  ·rw [hh]
  ·rw [hh,← h0.get]
   exact N0.tmps i hn
theorem Real.mono {ws ws':List Nat} {a0 a:Act} {Q Q':QF} {x:Exit} {w:World}(h:Real n ws a0 Qp Q x a w)(hws:∀i,i∈ws→i∈ws')(hq:∀x fr w,Q x fr w→Q' x fr w):Real n ws' a0 Qp Q' x a w:=by
 cases x<;>first | exact h.elim | exact⟨h.1,h.2.mono hws⟩ | (obtain⟨fr,h1,h2,h3⟩:=h;exact⟨fr,h1,hq _ _ _ h2,h3.mono hws⟩)
theorem j8 {ws:List Nat} {a0 a:Act} {Q:QF} {x:Exit} {w:World}(h:Real n ws a0 Qp (fun x fr w=>match x with | .normal=>Q .normal fr w | _=>False) x a w):Real n ws a0 Qp Q x a w:=by
 cases x<;>first | exact h | (obtain⟨_,_,h,_⟩:=h;exact h.elim)
theorem mq {F:Fence} {nn:Nat} {c:Code} {Q:Exit→Act→World→Prop}(I:Nat→Act→World→Prop)(m:Nat) {a:Act} {w:World}(h₀:I m a w)
 (round:∀m a w,I m a w→c.wpIn F nn P (Exit.then (fun a' w'=>∃m',m'<m∧I m' a' w') Q) a w):(Code.loop c).wpIn F nn P Q a w:=by
 intro b k cs Ux hb hr
 have key:∀n a w,I n a w→
  ∃e a' w',Q e a' w'∧ArrivesIn (Machine.fenced P F) P (lone (b.atR a (.code c:: .inLoop c::k)) cs w) b k cs e a' w':=by
  intro n
  induction n using Nat.strongRecOn with
  | _ n ih=>
   intro a w hI
   obtain⟨e,a₁,w₁,hq,RH⟩:=round n a w hI b (.inLoop c::k) cs Ux hb hr
   cases e with
   | normal=>
    obtain⟨m',NO,hI₁⟩:=hq
    obtain⟨e₂,a₂,w₂,hq₂,abK⟩:=ih m' NO a₁ w₁ hI₁
    exact⟨e₂,a₂,w₂,hq₂,.of_steps (StepsIn.trans RH (.one (fenced_calm hb hr rfl) stepR_inLoop)) abK⟩
   | exit id=>exact⟨_,a₁,w₁,hq,.pass (x:= .inLoop c) rfl (fun _ _=>.inl (by simp)) RH⟩
   | goto l=>exact⟨_,a₁,w₁,hq,.pass (x:= .inLoop c) rfl (fun _ _=>.inl (by simp)) RH⟩
   | ret=>exact⟨_,a₁,w₁,hq,.pass (x:= .inLoop c) rfl (fun _ _=>.inl (by simp)) RH⟩
   | panic ch=>exact⟨_,a₁,w₁,hq,.pass (x:= .inLoop c) rfl (fun _ _=>.inl (by simp)) RH⟩
   | outgrown=>exact⟨_,a₁,w₁,hq,.pass (x:= .inLoop c) rfl (fun _ _=>.inl (by simp)) RH⟩
 obtain⟨e,a',w',hq,RH⟩:=key _ a w h₀
 exact⟨e,a',w',hq,.of_steps (.one (fenced_calm hb hr rfl) stepR_loop) RH⟩
def Sound(P:Program)(n:Nat)(r:Option Nat)(Qp:Option (List PanicEntry→World→Prop))(c:Code)(V:QF→Fr→World→Prop):Prop:=
 ∀(Q:QF)(fr:Fr)(a:Act)(w:World),Rep n fr a→V Q fr w→c.wpIn (WF r) 0 P (Real n (writes c) a Qp Q) a w
theorem gE {c:Code} {an:Ann} {V:QF→Fr→World→Prop}(h:Sound P n r Qp c V):Sound P n r Qp c fun Q fr w=>ib c an Q fr fun Q=>V Q fr w:=by
 intro Q fr a w hr hv
 simp only [ib]at hv
 split at hv
 ·exact h Q fr a w hr hv
 ·rename_i live wr abH
  split at hv
  ·rename_i Sn
   obtain⟨Sn,PG⟩:=n5 Sn
   obtain⟨J,h1,h2⟩:=hv
   refine wpIn_mono (h _ fr a w hr h1) fun e a' w' he=>?_
   cases e
   case normal=>
    obtain⟨fr',Nr,hj,N0⟩:=he
    obtain⟨vs,hvs,Oh⟩:=pU live J fr' w' hj
    exact⟨_,uB hr Nr (N0.mono Sn) PG hvs,Oh _ (h2 _),N0⟩
   all_goals exact he
  ·exact hv.elim
theorem qv {ops:Array Oper} {id:Nat} {dr:Bool} {i:Nat} {o:Oper}(ho:ops[i]? =some o) {d:Nat}(hd:o.dst=some d):d∈writes (.region id ops dr):=by
 refine List.mem_filterMap.2 ⟨o,?_,hd⟩
 obtain⟨h1,h2⟩:=Array.getElem?_eq_some_iff.1 ho
 rw [← h2]
 exact Array.mem_toList_iff.2 (Array.getElem_mem h1)
theorem iL {id:Nat} {ops:Array Oper} {Q:Exit→Act→World→Prop} {G:Nat→World→World→Prop} {a:Act} {w:World}(hm:P.follows .mixedOrders=true)(hL:¬LetsOut Q)(P6:∀o∈ops,eR o=true)
 (h:ek P ops Q ops.size G (Array.replicate ops.size false) a w.drew):(Code.region id ops true).wpIn (WF r) 0 P Q a w:=
 wpIn_region_draw fun t=>dK hL P6 _ _ _ (by
  simp only [Region.schedule,hm,Bool.true_or,if_true]
  exact wpAny_sound ops.size t _ a _ (pO _ _ _ _ _ h))
theorem mH {ws:List Nat} {a0:Act} {Q:QF}:¬LetsOut (Real n ws a0 Qp Q):=fun⟨_,_,h⟩=>h
theorem td:∀(ps:List Tmp)(vs:List Value)(fr:Fr)(a:Act),uE ps n=true→Rep n fr a→
 Rep n ⟨Bq ps vs fr.e,fr.g,[]⟩ {tmps:=(ps.zip vs).foldl (fun t (p,v)=>t.setIfInBounds p v) a.tmps,defers:= []}
 | [],vs,fr,a,_,hr=>⟨hr.size,hr.get,rfl⟩
 | _::_,[],fr,a,_,hr=>⟨hr.size,hr.get,rfl⟩
 | p::ps,v::vs,fr,a,hp,hr=>by
  simp only [uE]at hp
  split at hp
  ·rename_i hb
   have NO:p<n:=by simpa [Nat.blt_eq]using hb
   obtain⟨fr',h1,h2⟩:=fE (N:= []) (dst:=some p) (v:=v) (F:=fun fr'=>fr'=⟨(p,v)::fr.e,fr.g,fr.ds⟩) hr (by simp [iF,hb,List.elem])
   subst h2
   exact td ps vs _ _ hp h1
  ·cases hp
theorem Kept.putObj {B:Nat→Prop}(w:World)(l:Nat)(o:Obj)(h:¬B l):Kept B w (w.putObj l o):=
 ⟨rfl,rfl,rfl,by simp,fun _ hk=>World.putObj_heap_other (by rintro rfl;exact h hk)⟩
theorem Kept.zZ(w:World)(o:Obj):Kept (fun k=>k<w.heap.size) w (w.alloc o):=
 Kept.Ft ((Below.refl _ w).alloc (Nat.le_refl _) o)
theorem we(hC:eh P C=true) {g:Operand} {ps:Array Tmp} {assign body:Code} {an:Ann}(As:∀l,Sound P n (some l) none assign (vcC P C n N true none assign an.l))(Bo:∀l,Sound P n (some l) none body (vcC P C n N true none body an.r)):
 Sound P n none Qp (.rangeFunc g ps assign body) (vcC P C n N false Qp (.rangeFunc g ps assign body) an):=by
 intro Q fr a w hr hv
 simp only [vcC]at hv
 split at hv
 ·exact hv.elim
 rename_i live ids abH
 split at hv
 ·exact hv.elim
 rename_i hlen
 simp only [Bool.and_eq_true]at hlen
 obtain⟨hlen,hps⟩:=hlen
 have hlen:live.length=ps.size:=Nat.eq_of_beq_eq_true hlen
 obtain⟨gf,cap,hg,hgf,hv⟩:=hv
 have hw:(writes (.rangeFunc g ps assign body))= [oH]:=rfl
 have N0:Agr [oH] a {a with defers:=mark w.heap.size::a.defers}:=⟨fun _ _=>rfl,fun h=>absurd (List.mem_singleton.2 rfl) h⟩
 have hrm:Rep n ⟨fr.e,fr.g,mark w.heap.size::fr.ds⟩ {a with defers:=mark w.heap.size::a.defers}:=⟨hr.size,hr.get,by show _::_=_;rw [hr.defers]⟩
 refine wpIn_rangeFunc fun fn Xd=>?_
 obtain⟨rec,QX⟩:∃rec:LoopState→Option Code→Loop,rec=fun st pe=> {state:=st,pending:=pe,fn,tmps:=a.tmps,params:=ps,assign,body,defers:=w.heap.size}:=⟨_,rfl⟩
 obtain⟨W1,hW1⟩:∃W1,(w.alloc (.deferred (some []))).alloc (.loop (rec .ready none))=W1:=⟨_,rfl⟩
 have hL1:W1.heap[w.heap.size+1]? =some (.loop (rec .ready none)):=by
  rw [← hW1];have:=World.alloc_heap_new (w.alloc (.deferred (some []))) (.loop (rec .ready none));rwa [World.size_alloc]at this
 have hK1:W1.heap[w.heap.size]? =some (.deferred (some [])):=by
  rw [← hW1];exact(Below.heap_alloc _ _ _ (by simp)).trans (World.alloc_heap_new w _)
 have hkw:Kept (fun k=>k<w.heap.size) w W1:=by
  rw [← hW1];exact(Kept.zZ w _).trans ((Kept.zZ _ _).mono (fun k hk=>by rw [World.size_alloc];omega))
 obtain⟨xs,X,D,J,Jr,Je,hit,hX,hsh,⟨sJ,sR,sE⟩,hD0,hJ0,Qk,abG,adr,abE⟩:=hv _ _ W1 rfl rfl hkw (Array.getElem?_eq_some_iff.1 hL1).1 hK1
 have SY:∀k,X k→k≠w.heap.size+1:=fun k hk=>by have:=hX k hk;omega
 refine⟨w.heap.size+1,[mark w.heap.size],W1,{target:= .fn (.func gf) cap,args:= #[.func (.yield (w.heap.size+1)) #[] #[]]},W1,gf,
  #[.func (.yield (w.heap.size+1)) #[] #[]]++cap,W1,?_,?_,fun _ _=>trivial,?_,(by intro h;cases h),rf ?_⟩
 ·rw [← hW1,QX];exact run_enterLoop_outer _ _ _ _ _
 ·have hg':a.eval g= .func (.func gf) #[] cap:=by rw [hr.eval];exact hg
  simp only [resolve,hg',Deferred.ofValue]
  simp [Act.eval]
 ·show(callFunc gf (#[.func (.yield (w.heap.size+1)) #[] #[]]++cap)).run P W1=_
  exact dV hC hgf _ _
 have key:=hit.2 (w.heap.size+1)
  (fun i A=>J i A∧A.heap[w.heap.size+1]? =some (.loop (rec .ready none)))
  (fun i A=>∃c,((c= .ret∧Jr i A)∨∃id,c= .exit id∧id∈ids∧Je id i A)∧A.heap[w.heap.size+1]? =some (.loop (rec .done (some c)))) W1
  (fun i A B h hk=>⟨sJ i A B h.1 (hk.mono fun k h=>⟨h.1,h.2.1⟩),(hk.block _ ⟨(Array.getElem?_eq_some_iff.1 h.2).1,fun h=>SY _ h rfl⟩).trans h.2⟩)
  (fun i A B h hk=>by
   obtain⟨c,hc,hl⟩:=h
   refine⟨c,?_,(hk.block _ ⟨(Array.getElem?_eq_some_iff.1 hl).1,fun h=>SY _ h rfl⟩).trans hl⟩
   rcases hc with⟨e,h⟩ | ⟨id,e,hm,h⟩
   ·exact .inl ⟨e,sR i A B h (hk.mono fun k h=>⟨h.1,h.2.1⟩)⟩
   ·exact .inr ⟨id,e,hm,sE id i A B h (hk.mono fun k h=>⟨h.1,h.2.1⟩)⟩)
  ⟨hJ0,hL1⟩ hD0 ?_
 ·refine key.mono ?_
  rintro e B ⟨⟨v,rfl⟩,⟨⟨hj,hl⟩,hd⟩ | ⟨i,⟨c,hc,hl⟩,hd⟩⟩
  ·have Qm:=run_endLoop (P:=P) hl (by rw [QX];simp)
   rw [show(rec .ready none).pending=none by rw [QX]]at Qm
   refine⟨none,_,Qm,?_⟩
   exact⟨_,hrm,abG _ (sJ _ _ _ hj (Kept.putObj _ _ _ (by simp))) (hit.1 _ _ _ hd (Kept.putObj _ _ _ (fun h=>SY _ h rfl))),N0⟩
  ·have Qm:=run_endLoop (P:=P) hl (by rw [QX];simp)
   rw [show(rec .done (some c)).pending=some c by rw [QX]]at Qm
   refine⟨some c,_,Qm,?_⟩
   have hd':∀o,D i (B.putObj (w.heap.size+1) o):=fun o=>hit.1 _ _ _ hd (Kept.putObj _ _ _ (fun h=>SY _ h rfl))
   rcases hc with⟨rfl,h⟩ | ⟨id,rfl,hm,h⟩
   ·exact wpIn_ret ⟨_,hrm,adr _ _ (sR _ _ _ h (Kept.putObj _ _ _ (by simp))) (hd' _),N0⟩
   ·exact wpIn_exit ⟨_,hrm,qS abE id hm _ _ (sE id _ _ _ h (Kept.putObj _ _ _ (by simp))) (hd' _),N0⟩
 ·rintro i x A hx ⟨hj,hl⟩ hd
  have hxs:=hsh x (List.mem_of_getElem? hx)
  have hxl:x.length=ps.size:=by rw [xh hxs,List.length_map,hlen]
  obtain⟨vs,rfl,UY⟩:=xR hxs (Qk i A hj hd)
  have UY:=UY hx
  have hy:=run_yield (P:=P) (args:=⟨x⟩) hl (by rw [QX];exact hxl)
  rw [QX]at hy
  refine⟨fn,_,assign,body,hy,roundIn_of_wpIn (F:=Fence.wide) (n:=0) trivial ?_⟩
  have Qz:Rep n ⟨Bq ps.toList x fr.e,fr.g,[]⟩ {tmps:=(ps.zip ⟨x⟩).foldl (fun t (p,v)=>t.setIfInBounds p v) a.tmps,defers:= []}:=by
   have:=td ps.toList x fr a hps hr
   rwa [← Array.foldl_toList,Array.toList_zip]
  refine wpIn_mono (F:=WF (some (w.heap.size+1))) (As (w.heap.size+1) _ _ _ A Qz UY) fun e a2 w2 he=>?_
  cases e
  case normal=>
   obtain⟨Oz,W3,⟨Ol,hb⟩,_⟩:=he
   have Qu:w2.heap[w.heap.size+1]? =some (.loop (rec .ready none)):=(Ol.block _ (.inr rfl)).trans hl
   have ady:=(Array.getElem?_eq_some_iff.1 Qu).1
   refine⟨_,run_beginRound Qu (by rw [QX]),?_⟩
   have Sm:(w2.putObj (w.heap.size+1) (.loop {rec .ready none with state:= .busy})).heap[w.heap.size+1]? =some (.loop {rec .ready none with state:= .busy}):=World.putObj_heap_same ady
   have hk3:Kept X w2 (w2.putObj (w.heap.size+1) (.loop {rec .ready none with state:= .busy})):=Kept.putObj _ _ _ (fun h=>SY _ h rfl)
   refine wpIn_mono (F:=WF (some (w.heap.size+1))) (Bo (w.heap.size+1) _ _ _ _ W3 (hb _ (Kept.putObj _ _ _ (by simp)))) fun e a4 w4 he=>?_
   have fin:∀(jump:Option Code),Kept (fun k=>X k∨k=w.heap.size+1) (w2.putObj (w.heap.size+1) (.loop {rec .ready none with state:= .busy})) w4→
    (Instr.endRound (w.heap.size+1) jump).run P w4= .ok (.bool jump.isNone) (w4.putObj (w.heap.size+1) (.loop (rec (if jump.isNone then .ready else .done) jump)))∧
    (w4.putObj (w.heap.size+1) (.loop (rec (if jump.isNone then .ready else .done) jump))).heap[w.heap.size+1]? =some (.loop (rec (if jump.isNone then .ready else .done) jump))∧
    Kept X A (w4.putObj (w.heap.size+1) (.loop (rec (if jump.isNone then .ready else .done) jump))):=by
    intro jump VE
    have hl4:=(VE.block _ (.inr rfl)).trans Sm
    have:=run_endRound (P:=P) jump hl4
    refine⟨by rw [QX]at this ⊢;exact this,World.putObj_heap_same (Array.getElem?_eq_some_iff.1 hl4).1,?_⟩
    exact(((Ol.mono fun k h=>.inl h).trans hk3).trans (VE.mono fun k h=>.inl h)).trans (Kept.putObj _ _ _ (fun h=>SY _ h rfl))
   cases e
   case normal=>
    obtain⟨fr4,_,⟨VE,hj4⟩,_⟩:=he
    obtain⟨Qm,hl5,hk5⟩:=fin none VE
    exact⟨_,_,Qm,.inl ⟨rfl,⟨sJ _ _ _ hj4 (Kept.putObj _ _ _ (by simp)),hl5⟩,hk5⟩⟩
   case ret=>
    obtain⟨fr4,_,⟨VE,hj4⟩,_⟩:=he
    obtain⟨Qm,hl5,hk5⟩:=fin (some .ret) VE
    exact⟨_,_,Qm,.inr ⟨rfl,⟨.ret,.inl ⟨rfl,sR _ _ _ hj4 (Kept.putObj _ _ _ (by simp))⟩,hl5⟩,hk5⟩⟩
   case exit id=>
    obtain⟨fr4,_,h4,_⟩:=he
    simp only at h4
    split at h4
    ·rename_i hid
     obtain⟨VE,hj4⟩:=h4
     obtain⟨Qm,hl5,hk5⟩:=fin (some (.exit id)) VE
     exact⟨_,_,Qm,.inr ⟨rfl,⟨.exit id,.inr ⟨id,rfl,List.elem_iff.1 hid,sE id _ _ _ hj4 (Kept.putObj _ _ _ (by simp))⟩,hl5⟩,hk5⟩⟩
    ·exact h4.elim
   case goto t=>obtain⟨_,_,h,_⟩:=he;exact h.elim
   case panic ch=>exact he.1.elim
   case outgrown=>exact he.elim
  case panic ch=>exact he.1.elim
  case outgrown=>exact he.elim
  all_goals obtain⟨_,_,h,_⟩:=he;exact h.elim
theorem dA(hC:eh P C=true)(hm:P.follows .mixedOrders=true):∀(c:Code)(R:Bool)(Qp:Option (List PanicEntry→World→Prop))(r:Option Nat)(_:R=false→r=none)(an:Ann),Sound P n r Qp c (vcC P C n N R Qp c an)
 | .skip,R,Qp,r,_,an=>fun Q fr a w hr hv=>wpIn_skip ⟨fr,hr,hv,Agr.refl _ _⟩
 | .region id ops false,R,Qp,r,_,an=>gE (c:= .region id ops false) (V:=fun Q fr w=>vcL P C n N ops Qp (Q .normal) ops.toList fr w) fun Q fr a w hr hv=>by
  exact wpIn_mono (wpIn_region_list (Ck (ws:=writes (.region id ops false)) (a0:=a) hC ops.toList (fun o ho d hd=>List.mem_filterMap.2 ⟨o,ho,hd⟩) fr a w hr (Agr.refl _ _) hv)) fun e a' w' he=>j8 he
 | .region id ops true,R,Qp,r,_,an=>gE (c:= .region id ops true) (V:=fun Q fr w=>match Region.noSelect ops,dP ops.toList with
  | true,true=>(match kt P ops.toList with
   | true=>vcD P C n N ops Qp (Q .normal) ops.size none (Array.replicate ops.size false) fr w.drew
   | false=>∃b:Nat→Nat→Prop,vcD P C n N ops Qp (Q .normal) ops.size (some b) (Array.replicate ops.size false) fr w.drew)
  | _,_=>False) fun Q fr a w hr hv=>by
  dsimp only at hv
  split at hv
  ·rename_i hs P6
   obtain⟨B,hv⟩:∃B,vcD P C n N ops Qp (Q .normal) ops.size B (Array.replicate ops.size false) fr w.drew:=by
    split at hv
    ·exact⟨_,hv⟩
    ·obtain⟨b,hv⟩:=hv
     exact⟨_,hv⟩
   exact wpIn_mono (iL hm mH (fun o ho=>gN P6 o (Array.mem_toList_iff.2 ho)) (Cm (ws:=writes (.region id ops true)) (a0:=a) hC hs (fun i o ho d hd=>qv ho hd) ops.size _ (fun _ _ _=>True) _ fr a w.drew (gh.none _ _) (lL.none _ _) hr (Agr.refl _ _) hv)) fun e a' w' he=>j8 he
  ·exact hv.elim
 | .seq x y,R,Qp,r,hR,an=>gE (c:= .seq x y) (V:=fun Q fr w=>vcC P C n N R Qp x an.l (fun e fr' w'=>match e with | .normal=>vcC P C n N R Qp y an.r Q fr' w' | e=>Q e fr' w') fr w) fun Q fr a w hr hv=>by
  refine wpIn_seq (wpIn_mono (dA hC hm x R Qp r hR an.l _ fr a w hr hv) fun e a' w' he=>?_)
  cases e
  case normal=>
   obtain⟨fr',Nr,QW,N0⟩:=he
   refine wpIn_mono (dA hC hm y R Qp r hR an.r Q fr' a' w' Nr QW) fun e a2 w2 he=>?_
   cases e<;>first
    | exact he.elim
    | exact⟨he.1,(N0.mono fun i hi=>List.mem_append_left _ hi).trans (he.2.mono fun i hi=>List.mem_append_right _ hi)⟩
    | (obtain⟨Oz,h1,h2,h3⟩:=he
       exact⟨Oz,h1,h2,(N0.mono fun i hi=>List.mem_append_left _ hi).trans (h3.mono fun i hi=>List.mem_append_right _ hi)⟩)
  all_goals first
   | exact he.elim
   | exact⟨he.1,he.2.mono fun i hi=>List.mem_append_left _ hi⟩
   | (obtain⟨Oz,h1,h2,h3⟩:=he
      exact⟨Oz,h1,h2,h3.mono fun i hi=>List.mem_append_left _ hi⟩)
 | .cond c x y,R,Qp,r,hR,an=>gE (c:= .cond c x y) (V:=fun Q fr w=>match ev fr c with
  | .bool b=>split b (vcC P C n N R Qp x an.l Q fr w) (vcC P C n N R Qp y an.r Q fr w)
  | _=>False) fun Q fr a w hr hv=>by
  dsimp only at hv
  split at hv
  ·rename_i b hb
   rw [← hr.eval]at hb
   rcases fq hv with⟨rfl,Sj⟩ | ⟨rfl,Sj⟩
   ·exact wpIn_cond_true hb (wpIn_mono (dA hC hm x R Qp r hR an.l Q fr a w hr Sj) fun e a' w' he=>he.mono (fun i hi=>List.mem_append_left _ hi) (fun _ _ _ h=>h))
   ·exact wpIn_cond_false hb (wpIn_mono (dA hC hm y R Qp r hR an.r Q fr a w hr Sj) fun e a' w' he=>he.mono (fun i hi=>List.mem_append_right _ hi) (fun _ _ _ h=>h))
  ·exact hv.elim
 | .block id c,R,Qp,r,hR,an=>gE (c:= .block id c) (V:=fun Q fr w=>vcC P C n N R Qp c an.l (fun e fr' w'=>match e with
  | .exit id'=>(match Nat.beq id' id with | true=>Q .normal fr' w' | false=>Q (.exit id') fr' w')
  | e=>Q e fr' w') fr w) fun Q fr a w hr hv=>by
  refine wpIn_block (wpIn_mono (dA hC hm c R Qp r hR an.l _ fr a w hr hv) fun e a' w' he=>?_)
  cases e
  case exit id'=>
   obtain⟨fr',Nr,QW,N0⟩:=he
   simp only at QW
   simp only [Exit.inBlock]
   split at QW
   ·rename_i hi
    rw [if_pos (Nat.eq_of_beq_eq_true hi)]
    exact⟨fr',Nr,QW,N0⟩
   ·rename_i hi
    rw [if_neg (by rintro rfl;simp at hi)]
    exact⟨fr',Nr,QW,N0⟩
  all_goals exact he
 | .loop c,R,Qp,r,hR,an=>fun Q fr a w hr hv=>by
  simp only [vcC]at hv
  split at hv
  ·exact hv.elim
  ·rename_i live wr abH
   split at hv
   ·rename_i Sn
    obtain⟨Sn,PG⟩:=n5 Sn
    obtain⟨I,⟨m0,h0⟩,Qk⟩:=hv
    refine mq (fun m a' w'=>∃fr',Rep n fr' a'∧Cn live (I m) fr' w'∧Agr (writes c) a a') m0 ⟨fr,hr,h0,Agr.refl _ _⟩ ?_
    rintro m a1 w1 ⟨fr1,UY,hj,N0⟩
    obtain⟨vs,hvs,Oh⟩:=pU live (I m) fr1 w1 hj
    have W3:=uB hr UY (N0.mono Sn) PG hvs
    refine wpIn_mono (dA hC hm c R Qp r hR an.l _ _ a1 w1 W3 (Oh _ (Qk m _))) fun e a' w' he=>?_
    cases e
    case normal=>
     obtain⟨fr',Nr,⟨m',NO,U1⟩,R1⟩:=he
     exact⟨m',NO,fr',Nr,U1,N0.trans R1⟩
    case panic=>exact⟨he.1,N0.trans he.2⟩
    case outgrown=>exact he
    all_goals
     obtain⟨fr',Nr,hq,R1⟩:=he
     exact⟨fr',Nr,hq,N0.trans R1⟩
   ·exact hv.elim
 | .exit id,R,Qp,r,_,an=>fun Q fr a w hr hv=>wpIn_exit ⟨fr,hr,by cases R<;>exact hv,Agr.refl _ _⟩
 | .ret,R,Qp,r,_,an=>fun Q fr a w hr hv=>wpIn_ret ⟨fr,hr,by cases R<;>exact hv,Agr.refl _ _⟩
 | .rangeFunc g ps assign body,false,Qp,r,hR,an=>by
  obtain rfl:=hR rfl
  exact we hC (fun l=>dA hC hm assign true none (some l) (by simp) an.l) (fun l=>dA hC hm body true none (some l) (by simp) an.r)
 | .rangeFunc _ _ _ _,true,_,_,_,_=>fun Q fr a w hr hv=>by simp only [vcC]at hv
 | .scope c,false,Qp,r,hR,an=>by
  obtain rfl:=hR rfl
  refine gE (c:= .scope c) (V:=fun Q fr w=>vcC P C n N false Qp c an.l (fun e fr' w'=>match e with
   | .goto _=>False
   | e=>Q e fr' w') fr w) fun Q fr a w hr hv=>?_
  refine(wpIn_wide (n:=0)).2 (wp_scope_straight ((wpIn_wide (n:=0)).1 (wpIn_mono (dA hC hm c false Qp none (fun _=>rfl) an.l _ fr a w hr hv) fun e a' w' he=>?_)))
  cases e
  case goto l=>obtain⟨_,_,h,_⟩:=he;exact h.elim
  all_goals exact he
 | .scope _,true,_,_,_,_=>fun Q fr a w hr hv=>by simp only [vcC]at hv
 | .label _,R,_,_,_,_=>fun Q fr a w hr hv=>wpIn_label ⟨fr,hr,by cases R<;>exact hv,Agr.refl _ _⟩
 | .goto _,R,_,_,_,_=>fun Q fr a w hr hv=>by cases R<;>simp only [vcC]at hv
 | .refuse _,R,_,_,_,_=>fun Q fr a w hr hv=>by cases R<;>simp only [vcC]at hv
end
def mG(P:Program)(fr:Fr)(w:World):List ResultVar→(List Value→Prop)→Prop
 | [],F=>F []
 | .tmp t::r,F=>mG P fr w r fun vs=>F (lk fr.g t fr.e::vs)
 | .cell a t::r,F=>match lk fr.g a fr.e with
  | .pointer p=>match cY P t,qT P t (qd (cY P t)) && hasType P t && Nat.beq (fT (cY P t)) (aP P t)with
   | s,true=>aB p fun p=>s.ex fun v=>gw w p s v∧mG P fr w r fun vs=>F (v::vs)
   | _,false=>False
  | _=>False
def LA(P:Program)(rs:List ResultVar)(R:aC)(fr:Fr)(w:World):Prop:=
 mG P fr w rs fun vs=>match vs with
  | [v]=>R v w
  | vs=>R (.tuple ⟨vs⟩) w
def qB(P:Program)(rs:List ResultVar)(R:aC)(fr:Fr):List Deferred→World→Prop
 | [],w=>LA P rs R fr w
 | d::ds,w=>match d.target with
  | .collected D=>w.heap[D]? =some (.deferred (some []))∧qB P rs R fr ds (w.putObj D (.deferred none))
  | _=>False
def num:Nat→List Value→List (Nat×Value)
 | _,[]=>[]
 | i,v::r=>(i,v)::num (i+1) r
def BI {α:Type}:Option α→Bool
 | none=>false
 | some _=>true
def vcF(P:Program)(C:List Nat)(N:List Nat)(fn:Func)(an:Ann)(args:List Value)(R:aC)(Qp:Option (List PanicEntry→World→Prop))(w:World):Prop:=
 match fn.body,Nat.ble args.length fn.ntmps with
 | some c,true=>(match BI Qp && (writes c).elem oH with
  | true=>False
  | false=>vcC P C fn.ntmps N false Qp c an (fun e fr w'=>match e with
   | .normal=>qB P fn.results.toList R fr fr.ds w'
   | .ret=>qB P fn.results.toList R fr fr.ds w'
   | _=>False) ⟨num 0 args,fun _=>undef,[]⟩ w)
 | _,_=>False
section
variable {P:Program} {C:List Nat} {N:List Nat}
def j3(tmps:Array Value):ResultVar→Sem Value
 | .tmp t=>pure (tmps.getD t undef)
 | .cell a t=>do loadVar t (← asAddr (tmps.getD a undef))
theorem j6 {fr:Fr} {w:World} {tmps:Array Value}(ht:∀i,tmps.getD i undef=lk fr.g i fr.e):∀(rs:List ResultVar) {F:List Value→Prop},mG P fr w rs F→
 ∃vs,F vs∧(rs.mapM (j3 tmps)).run P w= .ok vs w
 | [],F,h=>⟨[],h,rfl⟩
 | .tmp t::r,F,h=>by
  obtain⟨vs,hF,hr⟩:=j6 ht r h
  refine⟨_,hF,?_⟩
  have h1:(j3 tmps (.tmp t)).run P w= .ok (lk fr.g t fr.e) w:=by rw [← ht];rfl
  rw [List.mapM_cons,Sem.run_bind,h1]
  show(Sem.run P (do let bs ← r.mapM (j3 tmps);pure (lk fr.g t fr.e::bs)) w)=_
  rw [Sem.run_bind,hr]
  rfl
 | .cell a t::r,F,h=>by
  simp only [mG]at h
  split at h
  ·rename_i p hp
   split at h
   ·rename_i s hs Pc
    simp only [Bool.and_eq_true]at Pc
    obtain⟨q,rfl,h2⟩:=cx h
    obtain⟨v,hl,h3⟩:=Sh2.jG h2
    obtain⟨vs,hF,hr⟩:=j6 ht r h3
    have:=j5 (P:=P) Pc.1.1 Pc.1.2 Pc.2 hl
    refine⟨_,hF,?_⟩
    have h1:(j3 tmps (.cell a t)).run P w= .ok v w:=by
     show(do loadVar t (← asAddr (tmps.getD a undef)):Sem Value).run P w=_
     rw [ht,hp]
     exact this
    rw [List.mapM_cons,Sem.run_bind,h1]
    show(Sem.run P (do let bs ← r.mapM (j3 tmps);pure (v::bs)) w)=_
    rw [Sem.run_bind,hr]
    rfl
   ·exact h.elim
  ·exact h.elim
theorem E6 {fn:Func} {fr:Fr} {w:World} {tmps:Array Value} {R:aC}(ht:∀i,tmps.getD i undef=lk fr.g i fr.e)(h:LA P fn.results.toList R fr w):
 ∃v,R v w∧(results fn tmps).run P w= .ok v w:=by
 obtain⟨vs,hR,hr⟩:=j6 ht _ h
 have hm:(fn.results.mapM (j3 tmps)).run P w= .ok ⟨vs⟩ w:=by
  rw [Array.mapM_eq_mapM_toList]
  simp [hr]
 have T9:results fn tmps=(do let vs ← fn.results.mapM (j3 tmps);pure (if h:vs.size=1 then vs[0]else .tuple vs)):=by
  unfold results j3
  congr 1
 rw [T9,Sem.run_bind,hm]
 cases vs with
 | nil=>exact⟨_,hR,rfl⟩
 | cons v r=>
  cases r with
  | nil=>exact⟨_,hR,rfl⟩
  | cons u r=>exact⟨_,hR,rfl⟩
theorem qA(g:Nat→Value):∀(l:List Value)(k i:Nat),lk g i (num k l)=if h:k≤i∧i - k<l.length then l[i - k]'h.2 else g i
 | [],k,i=>by simp [num,lk]
 | v::r,k,i=>by
  simp only [num,lk]
  split
  ·rename_i h
   obtain rfl:=Nat.eq_of_beq_eq_true h
   simp
  ·rename_i h
   have Pb:i≠k:=by rintro rfl;simp at h
   rw [qA g r (k+1) i]
   by_cases hc:k+1≤i∧i - (k+1)<r.length
   ·rw [dif_pos hc,dif_pos ⟨by omega,by simp;omega⟩]
    have:i - k=(i - (k+1))+1:=by omega
    simp [this]
   ·rw [dif_neg hc,dif_neg (by simp;omega)]
theorem lZ {fn:Func} {fr:Fr} {tmps:Array Value} {R:aC} {R':Ending→World→Prop}(hR:∀v w,R v w→R' (.returned v) w)(ht:∀i,tmps.getD i undef=lk fr.g i fr.e):∀(ds:List Deferred)(w:World),qB P fn.results.toList R fr ds w→
 LeavesInM (WF none) 0 P fn tmps R' ds .returning w
 | [],w,h=>by
  obtain⟨v,h1,h2⟩:=E6 ht h
  exact⟨v,h2,hR _ _ h1⟩
 | d::ds,w,h=>by
  simp only [qB]at h
  split at h
  ·rename_i D hD
   exact⟨by simp,.inl ⟨D,_,hD,run_takeDeferred h.1,lZ hR ht ds _ h.2⟩⟩
  ·exact h.elim
theorem xD {f:FuncId} {fn:Func} {args:List Value} {an:Ann} {R:aC} {Qp:Option (List PanicEntry→World→Prop)} {w:World}(hf:P.funcs[f]? =some fn)(hC:eh P C=true)(hm:P.follows .mixedOrders=true)
 (h:vcF P C N fn an args R Qp w):Calls P f ⟨args⟩ w fun e w'=>(∃v,e= .returned v∧R v w')∨∃ch,e= .panicked ch∧QpP Qp ch w':=by
 unfold vcF at h
 split at h
 ·rename_i c hb hn
  have SV:args.length≤fn.ntmps:=Nat.le_of_ble_eq_true hn
  split at h
  ·exact h.elim
  rename_i hq
  refine(callsIn_wide (n:=0)).1 (callsIn_of_wp_marks (F:=WF none) hf hb trivial ?_)
  have Qz:Rep fn.ntmps ⟨num 0 args,fun _=>undef,[]⟩ {tmps:=(⟨args⟩:Array Value)++Array.replicate (fn.ntmps - (⟨args⟩:Array Value).size) undef,defers:= []}:=by
   refine⟨by simp;omega,fun i=>?_,rfl⟩
   rw [qA]
   simp only [Nat.zero_le,Nat.sub_zero,true_and,Array.getD_eq_getD_getElem?]
   by_cases hi:i<args.length
   ·rw [dif_pos hi,Array.getElem?_append_left (by simpa using hi)]
    simp [hi]
   ·rw [dif_neg hi,Array.getElem?_append_right (by simpa using hi)]
    rw [Array.getElem?_replicate]
    split<;>rfl
  refine wpIn_mono (dA hC hm c false Qp none (fun _=>rfl) an _ _ _ w Qz h) fun e a' w' he=>?_
  cases e
  case normal=>
   obtain⟨fr,hr,hk,_⟩:=he
   show LeavesInM _ _ _ _ _ _ _ _ _
   rw [hr.defers]
   exact lZ (fun v w hR=>.inl ⟨v,rfl,hR⟩) hr.get _ _ hk
  case ret=>
   obtain⟨fr,hr,hk,_⟩:=he
   show LeavesInM _ _ _ _ _ _ _ _ _
   rw [hr.defers]
   exact lZ (fun v w hR=>.inl ⟨v,rfl,hR⟩) hr.get _ _ hk
  case panic ch=>
   obtain⟨hqp,N0⟩:=he
   cases Qp with
   | none=>exact hqp.elim
   | some q=>
    simp only [BI,Bool.true_and]at hq
    have hd:=N0.defers (fun hm=>by rw [List.elem_iff.2 hm]at hq;cases hq)
    show LeavesInM _ _ _ _ _ _ _ _ _
    rw [hd]
    exact .inr ⟨ch,rfl,hqp⟩
  case outgrown=>exact he.elim
  all_goals obtain⟨_,_,h,_⟩:=he;exact h.elim
 ·exact h.elim
theorem ar {f:FuncId} {fn:Func} {args:List Value} {an:Ann} {R:aC} {w:World}(hf:P.funcs[f]? =some fn)(hC:eh P C=true)(hm:P.follows .mixedOrders=true)
 (h:vcF P C N fn an args R none w):Calls P f ⟨args⟩ w fun e w'=>∃v,e= .returned v∧R v w':=
 (xD hf hC hm h).mono fun e w' he=>by
  rcases he with he | ⟨_,_,he⟩
  ·exact he
  ·exact he.elim
end
end
section
theorem aq {x:Int}(h: -9223372036854775808≤x∧x≤9223372036854775807):i64.wrap x=x:=IntWalk.i64_in x h
theorem u32_eq(x:Int):u32.wrap x=x % 4294967296:=by rw [IntKind.wrap_u32]
theorem cG {x:Int}(h:0≤x∧x<4294967296):u32.wrap x=x:=by rw [u32_eq];omega
variable {P:Program} {w w0 w1 w2 w3 w':World} {g g':Nat} {cs cs':Array Value} {T T':TypeId} {X Y Z:Nat→Prop} {v:Value}
theorem Blk.lt(h:Blk w g cs T):g<w.heap.size:=(Array.getElem?_eq_some_iff.1 h).1
theorem Blk.cell(h:Blk w g cs T) {i:Nat}(hi:cs[i]? =some v):w.cell? ⟨g,i,none⟩=some v:=by
 unfold Blk at h
 simp [World.cell?,h,hi]
theorem Blk.at(h:Blk w g cs T) {i:Nat}(hi:cs[i]? =some v):w.cell? ((Addr.mk g 0 none).add i)=some v:=by
 rw [bF,Nat.zero_add]
 exact h.cell hi
theorem Blk.at0(h:Blk w g cs T)(hi:cs[0]? =some v):w.cell? (Addr.mk g 0 none)=some v:=h.cell hi
theorem Blk.kept {B:Nat→Prop}(h:Blk w g cs T)(hk:Kept B w w')(hb:B g):Blk w' g cs T:=(hk.block g hb).trans h
theorem Blk.drew(h:Blk w g cs T):Blk w.drew g cs T:=h
theorem Blk.inj(h:Blk w g cs T)(h':Blk w g cs' T'):cs=cs'∧T=T':=by
 unfold Blk at h h'
 rw [h]at h'
 simpa using h'
theorem Kept.drew {B:Nat→Prop}(h:Kept B w w'):Kept B w w'.drew:=⟨h.os,h.tape,h.output,h.size,h.block⟩
structure Made(w:World)(g:Nat)(cs:Array Value)(T:TypeId)(w2:World):Prop where
 num:g=w.heap.size
 blk:Blk w2 g cs T
 kept:Kept (fun k=>k<w.heap.size) w w2
 size:w2.heap.size=w.heap.size+1
theorem made(hg:g=w.heap.size)(hw:w2=w.alloc (.cells cs T)):Made w g cs T w2:=by
 subst hg;subst hw
 exact⟨rfl,World.alloc_heap_new w _,Kept.zZ w _,by simp⟩
structure Ch(X:Nat→Prop)(w0 w:World):Prop where
 kept:Kept (fun k=>k<w0.heap.size∧¬X k) w0 w
abbrev Pu(w0 w:World):Prop:=Ch (fun _=>False) w0 w
theorem Ch.refl(X:Nat→Prop)(w:World):Ch X w w:=⟨Kept.refl _ _⟩
theorem Ch.size(h:Ch X w0 w):w0.heap.size≤w.heap.size:=h.kept.size
theorem Ch.call(h:Ch X w0 w)(k:Ch Y w w2)(hy:∀k,Y k→X k∨w0.heap.size≤k):Ch X w0 w2:=
 ⟨h.kept.trans (k.kept.mono fun i hi=>⟨Nat.lt_of_lt_of_le hi.1 h.size,fun hy'=>(hy i hy').elim hi.2 (fun hle=>absurd hi.1 (by omega))⟩)⟩
theorem Ch.trans(h:Ch X w0 w)(k:Ch X w w2):Ch X w0 w2:=h.call k fun _ h=>.inl h
theorem Ch.pu(h:Ch X w0 w)(k:Pu w w2):Ch X w0 w2:=h.call k fun _ h=>h.elim
theorem Ch.made(h:Ch X w0 w)(hm:Made w g cs T w2):Ch X w0 w2:=
 h.pu ⟨hm.kept.mono fun _ h=>h.1⟩
theorem Ch.stored(h:Ch X w0 w)(hs:bI w g cs T w2)(hg:X g∨w0.heap.size≤g):Ch X w0 w2:=
 h.call (Y:=fun k=>k=g) ⟨hs.kept.mono fun _ h=>h.2⟩ fun k hk=>by cases hk;exact hg
theorem Ch.drew(h:Ch X w0 w):Ch X w0 w.drew:=⟨h.kept.drew⟩
theorem Ch.mono(h:Ch X w0 w)(hx:∀k,X k→Y k):Ch Y w0 w:=⟨h.kept.mono fun k hk=>⟨hk.1,fun h=>hk.2 (hx k h)⟩⟩
theorem Ch.blk(h:Ch X w0 w)(hb:Blk w0 g cs T)(hg:¬X g):Blk w g cs T:=hb.kept h.kept ⟨hb.lt,hg⟩
theorem Pu.blk(h:Pu w0 w)(hb:Blk w0 g cs T):Blk w g cs T:=Ch.blk h hb (by simp)
theorem Ch.iI {B:Nat→Prop}(h:Ch X w0 w)(hb:∀k,B k→k<w0.heap.size∧¬X k):Kept B w0 w:=h.kept.mono hb
theorem Pu.iI {B:Nat→Prop}(h:Pu w0 w)(hb:∀k,B k→k<w0.heap.size):Kept B w0 w:=h.kept.mono fun k hk=>⟨hb k hk,by simp⟩
theorem Kept.pu(h:Kept (fun k=>k<w.heap.size) w w2):Pu w w2:=⟨h.mono fun _ h=>h.1⟩
theorem Made.pu(h:Made w g cs T w2):Pu w w2:=h.kept.pu
theorem Pu.aY(w:World):Pu w w.drew:=(Ch.refl _ w).drew
theorem Made.old(h:Made w g cs T w2)(hb:Blk w g' cs' T'):Blk w2 g' cs' T':=hb.kept h.kept hb.lt
theorem Made.lt(h:Made w g cs T w2):g<w2.heap.size:=h.blk.lt
theorem bI.old(h:bI w g cs T w2)(hb:Blk w g' cs' T')(Pb:g'≠g):Blk w2 g' cs' T':=hb.kept h.kept Pb
theorem bx {K:World→Prop} {i:Nat} {vs:List Value}(hb:Blk w g cs T)(hi:i+vs.length≤cs.size)(h:∀w2,bI w g (setAt cs i vs) T w2→K w2):aF w ((Addr.mk g 0 none).add i) vs K:=
 ⟨g,i,cs,T,by rw [bF,Nat.zero_add],hb,hi,h⟩
theorem bQ {K:World→Prop} {vs:List Value}(hb:Blk w g cs T)(hi:vs.length≤cs.size)(h:∀w2,bI w g (setAt cs 0 vs) T w2→K w2):aF w (Addr.mk g 0 none) vs K:=
 ⟨g,0,cs,T,rfl,hb,by omega,h⟩
theorem gJ {K:World→Prop} {i:Nat} {vs:List Value}(hb:Blk w g cs T)(hi:i+vs.length≤cs.size)(h:∀w2,bI w g (setAt cs i vs) T w2→K w2):aF w (Addr.mk g i none) vs K:=
 ⟨g,i,cs,T,rfl,hb,hi,h⟩
theorem nM(cs:Array Value)(i:Nat)(v:Value):setAt cs i [v]=cs.setIfInBounds i v:=rfl
theorem dC:∀(vs:List Value)(cs:Array Value)(o i:Nat),o+vs.length≤cs.size→(setAt cs o vs)[i]? =if o≤i∧i<o+vs.length then vs[i - o]? else cs[i]?
 | [],cs,o,i,_=>by simp [setAt];intro h1 h2;omega
 | v::r,cs,o,i,h=>by
  simp only [List.length_cons]at h
  rw [setAt,dC r _ (o+1) i (by simp;omega)]
  by_cases h1:o+1≤i∧i<o+1+r.length
  ·rw [if_pos h1,if_pos (by simp;omega)]
   obtain⟨j,rfl⟩:∃j,i=o+1+j:=⟨i - (o+1),by omega⟩
   rw [show o+1+j - (o+1)=j by omega,show o+1+j - o=j+1 by omega]
   rfl
  ·rw [if_neg h1]
   by_cases h2:i=o
   ·subst h2
    rw [if_pos (by simp)]
    simp [Array.getElem?_setIfInBounds]
    omega
   ·rw [if_neg (by simp;omega),Array.getElem?_setIfInBounds,if_neg (by omega)]
structure de(w:World)(Z:Nat→Prop)(k:IntKind)(A:Option Addr)(n c:Nat)(l:List Int):Prop where
 len:l.length=n
 cap:n≤c
 cell:∀j x,l[j]? =some x→∃p,A=some p∧Z p.block∧w.cell? (p.add j)=some (.int k x)
section
variable {k:IntKind} {A:Option Addr} {n c:Nat} {l:List Int}
theorem add_add(p:Addr)(i j:Nat):(p.add i).add j=p.add (i+j):=by
 unfold Addr.add
 by_cases hi:i=0<;>by_cases hj:j=0<;>simp [hi,hj,Nat.add_assoc]
theorem Blk.at2(h:Blk w g cs T) {i j:Nat}(hi:cs[i+j]? =some v):w.cell? (((Addr.mk g 0 none).add i).add j)=some v:=by
 rw [add_add];exact h.at hi
theorem de.kept {B:Nat→Prop}(h:de w Z k A n c l)(hk:Kept B w w')(hb:∀k,Z k→B k):de w' Z k A n c l:=
 ⟨h.len,h.cap,fun j x hx=>by
  obtain⟨p,hA,hp,hc⟩:=h.cell j x hx
  exact⟨p,hA,hp,(hk.cell (by rw [block_add];exact hb _ hp)).trans hc⟩⟩
theorem de.ch(h:de w Z k A n c l)(hk:Ch X w w')(hb:∀k,Z k→¬X k):de w' Z k A n c l:=
 ⟨h.len,h.cap,fun j x hx=>by
  obtain⟨p,hA,hp,hc⟩:=h.cell j x hx
  refine⟨p,hA,hp,(hk.kept.cell ⟨World.block_lt_of_cell? w _ hc,?_⟩).trans hc⟩
  rw [block_add]
  exact hb _ hp⟩
theorem de.pu(h:de w Z k A n c l)(hk:Pu w w'):de w' Z k A n c l:=h.ch hk (by simp)
theorem de.mono(h:de w Z k A n c l)(hb:∀k,Z k→Y k):de w Y k A n c l:=
 ⟨h.len,h.cap,fun j x hx=>by
  obtain⟨p,hA,hp,hc⟩:=h.cell j x hx
  exact⟨p,hA,hb _ hp,hc⟩⟩
theorem de.drew(h:de w Z k A n c l):de w.drew Z k A n c l:=⟨h.len,h.cap,h.cell⟩
theorem de.nil:de w Z k none 0 c []:=⟨rfl,Nat.zero_le _,by simp⟩
theorem de.blk(h:Blk w g cs T)(hz:Z g) {m:Nat}(hc:n≤c)(hl:l.length=n)(hm:∀j x,l[j]? =some x→cs[m+j]? =some (.int k x)):de w Z k (some (Addr.mk g m none)) n c l:=
 ⟨hl,hc,fun j x hx=>⟨_,rfl,hz,by rw [bF];exact h.cell (hm j x hx)⟩⟩
theorem de.rd {i:Int} {K:Int→Prop}(h:de w Z k A n c l)(h0:0≤i)(h1:i<(n:Int))(hK:K (l.getD i.toNat 0)):
 (0≤i∧i<((n:Nat):Int))∧aB A fun p=>∃x:Int,w.cell? (p.add (i.toNat *1))=some (.int k x)∧K x:=by
 have hl:=h.len
 have hj:i.toNat<l.length:=by omega
 obtain⟨p,hA,_,hc⟩:=h.cell i.toNat _ (List.getElem?_eq_getElem hj)
 refine⟨⟨h0,h1⟩,au p hA ⟨_,by rw [Nat.mul_one];exact hc,?_⟩⟩
 rwa [List.getD_eq_getElem?_getD,List.getElem?_eq_getElem hj]at hK
theorem de.rdB {i:Int} {B:Nat→Prop} {K:Int→Prop}(h:de w Z k A n c l)(h0:0≤i)(h1:i<(n:Int))(hb:∀k,Z k→B k)(hK:K (l.getD i.toNat 0)):
 (0≤i∧i<((n:Nat):Int))∧aB A fun p=>B ((p.add (i.toNat *1)).block)∧∃x:Int,w.cell? (p.add (i.toNat *1))=some (.int k x)∧K x:=by
 have hl:=h.len
 have hj:i.toNat<l.length:=by omega
 obtain⟨p,hA,hp,hc⟩:=h.cell i.toNat _ (List.getElem?_eq_getElem hj)
 refine⟨⟨h0,h1⟩,au p hA ⟨by rw [block_add];exact hb _ hp,_,by rw [Nat.mul_one];exact hc,?_⟩⟩
 rwa [List.getD_eq_getElem?_getD,List.getElem?_eq_getElem hj]at hK
theorem de.cut {lo hi m:Nat} {A':Option Addr} {n' c':Nat}(h:de w Z k A n c l)(hA:A'=(if m=lo then A else A.map (·.add (lo*1))))(hn:n'=hi - lo)(hc:c'=m - lo)(h1:lo≤hi)(h2:hi≤n)(h3:hi≤m):
 de w Z k A' n' c' ((l.take hi).drop lo):=by
 have hl:=h.len
 refine⟨by simp;omega,by omega,fun j x hx=>?_⟩
 rw [List.getElem?_drop,List.getElem?_take]at hx
 split at hx
 ·rename_i NO
  obtain⟨p,hp,hb,OG⟩:=h.cell _ x hx
  rw [if_neg (by omega)]at hA
  subst hp
  refine⟨p.add (lo*1),by rw [hA];rfl,by rw [block_add];exact hb,?_⟩
  rw [add_add,Nat.mul_one]
  exact OG
 ·cases hx
end
end
section
variable {P:Program} {w w0 w1 w2 w3 w':World} {g g':Nat} {cs cs':Array Value} {T T':TypeId} {X Y Z:Nat→Prop} {v:Value}
theorem Blk.cast(h:Blk w g cs T)(e:cs'=cs):Blk w g cs' T:=e▸h
theorem mkd {K:Nat→World→Prop}(h:∀g w2,Made w g cs T w2→K g w2):∀(g:Nat)(w2:World),g=w.heap.size→w2=w.alloc (.cells cs T)→K g w2:=
 fun g w2 hg hw=>h g w2 (made hg hw)
theorem Made.lo(m:Made w g cs T w2)(hp:Ch X w0 w):w0.heap.size≤g:=by rw [m.num];exact hp.size
theorem Made.ne(m:Made w g cs T w2)(b:Blk w g' cs' T'):g'≠g:=by have:=b.lt;rw [m.num];omega
theorem Made.off(m:Made w g cs T w2)(h:∀k,X k→k<w.heap.size):¬X g:=fun hx=>by have:=h g hx;rw [m.num]at this;omega
theorem bI.ch(s:bI w g cs T w2):Ch (fun k=>k=g) w w2:=⟨s.kept.mono fun _ h=>h.2⟩
def bX(w:World)(Y:Nat→Prop):Nat→Prop:=fun k=>k<w.heap.size∧¬Y k
theorem bX.ld(b:Blk w g cs T)(hn:¬Y g)(i:Nat):bX w Y ((Addr.mk g 0 none).add i).block:=by
 rw [block_add];exact⟨b.lt,hn⟩
theorem bX.lt(h:g<w.heap.size)(hn:¬Y g):bX w Y g:=⟨h,hn⟩
def bXU(U V:List Nat)(w:World)(Y:Nat→Prop):Nat→Nat→Prop:=fun i k=>V.elem i=true∨(U.elem i=true∧bX w Y k)
theorem bXU.any {U V l:List Nat}(hl:l.all (fun i=>!(V.elem i))=true) {k:Nat}(h:du (bXU U V w Y) l k):bX w Y k:=by
 induction l with
 | nil=>exact h.elim
 | cons i r ih=>
  simp only [List.all_cons,Bool.and_eq_true,Bool.not_eq_true']at hl
  have hd:bXU U V w Y i k→bX w Y k:=fun h=>h.elim (fun h=>by rw [hl.1]at h;cases h) (·.2)
  cases r with
  | nil=>exact hd h
  | cons j r=>exact h.elim hd (ih hl.2)
theorem bXU.more {U V l:List Nat} {F:(Nat→Nat→Prop)→Prop}(q:Ch Z w w2)(hz:∀k,Z k→Y k∨w.heap.size≤k)(hl:l.all (fun i=>!(V.elem i))=true)(h:F (bXU U V w2 Y)):Kept (du (bXU U V w Y) l) w w2∧∃b2:Nat→Nat→Prop,(∀i k,bXU U V w Y i k→b2 i k)∧F b2:=
 ⟨q.kept.mono fun k hk=>by
  have hb:=bXU.any hl hk
  exact⟨hb.1,fun hzk=>(hz k hzk).elim hb.2 fun h=>absurd hb.1 (Nat.not_lt.2 h)⟩,_,fun i k hk=>hk.imp id fun hu=>⟨hu.1,Nat.lt_of_lt_of_le hu.2.1 q.size,hu.2.2⟩,h⟩
theorem bXU.gj {U V l:List Nat} {F:(Nat→Nat→Prop)→Prop}(q:Pu w w2)(hl:l.all (fun i=>!(V.elem i))=true)(h:F (bXU U V w2 Y)):Kept (du (bXU U V w Y) l) w w2∧∃b2:Nat→Nat→Prop,(∀i k,bXU U V w Y i k→b2 i k)∧F b2:=
 bXU.more q (fun _ h=>h.elim) hl h
theorem bXU.grow {U V:List Nat} {F:(Nat→Nat→Prop)→Prop}(q:Ch Z w w2)(h:F (bXU U V w2 Y)):∃b2:Nat→Nat→Prop,(∀i k,bXU U V w Y i k→b2 i k)∧F b2:=
 ⟨_,fun i k hk=>hk.imp id fun hu=>⟨hu.1,Nat.lt_of_lt_of_le hu.2.1 q.size,hu.2.2⟩,h⟩
theorem bXU.Mi {V:List Nat}:∀ {l:List Nat}(_:l.all (fun i=>!(V.elem i))=true) {k:Nat},¬du (bXU [] V w Y) l k
 | [],_,_,h=>h
 | [i],hl,k,h=>by
  simp only [List.all_cons,Bool.and_eq_true,Bool.not_eq_true']at hl
  rcases h with h | h
  ·rw [hl.1]at h;cases h
  ·cases h.1
 | i::j::r,hl,k,h=>by
  simp only [List.all_cons,Bool.and_eq_true,Bool.not_eq_true']at hl
  rcases h with(h | h) | h
  ·rw [hl.1]at h;cases h
  ·cases h.1
  ·exact bXU.Mi (l:=j::r) (by simp only [List.all_cons,Bool.and_eq_true,Bool.not_eq_true'];exact hl.2) h
theorem bXU.JM {V l:List Nat} {F:(Nat→Nat→Prop)→Prop}(q:Ch Z w w2)(hl:l.all (fun i=>!(V.elem i))=true)(h:F (bXU [] V w2 Y)):Kept (du (bXU [] V w Y) l) w w2∧∃b2:Nat→Nat→Prop,(∀i k,bXU [] V w Y i k→b2 i k)∧F b2:=
 ⟨q.kept.mono fun _ hk=>absurd hk (bXU.Mi hl),_,fun _ _ hk=>hk.imp id fun hu=>(by cases hu.1),h⟩
theorem sj {a0 a1 b0 b1:Value}(h0:a0=b0)(h1:a1=b1):(#[a0,a1]:Array Value)= #[b0,b1]:=by subst h0;subst h1;rfl
theorem IF {a0 a1 a2 a3 a4 a5 a6 a7 b0 b1 b2 b3 b4 b5 b6 b7:Value}(h0:a0=b0)(h1:a1=b1)(h2:a2=b2)(h3:a3=b3)(h4:a4=b4)(h5:a5=b5)(h6:a6=b6)(h7:a7=b7):(#[a0,a1,a2,a3,a4,a5,a6,a7]:Array Value)= #[b0,b1,b2,b3,b4,b5,b6,b7]:=by subst h0;subst h1;subst h2;subst h3;subst h4;subst h5;subst h6;subst h7;rfl
theorem dH {x y:Prop}(h:x):split true x y:=ao (fun _=>h) (fun e=>nomatch e)
theorem eV {x y:Prop}(h:y):split false x y:=ao (fun e=>nomatch e) (fun _=>h)
theorem ax {p:Prop} [Decidable p] {x y:Prop}(h1:p→x)(h0:¬p→y):split (decide p) x y:=
 ao (fun h=>h1 (of_decide_eq_true h)) (fun h=>h0 (of_decide_eq_false h))
theorem zs {p:Prop} [Decidable p] {x y:Prop}(h1:¬p→x)(h0:p→y):split (!decide p) x y:=
 ao (fun h=>h1 (by simpa using h)) (fun h=>h0 (by simpa using h))
theorem cf {b:Bool} {x y:Prop}(h1:b=false→x)(h0:b=true→y):split (!b) x y:=
 ao (fun h=>h1 (by simpa using h)) (fun h=>h0 (by simpa using h))
theorem aO {a b:Int} {x y:Prop}(h1:a=b→x)(h0:¬a=b→y):split (a==b) x y:=
 ao (fun h=>h1 (by simpa using h)) (fun h=>h0 (by simpa using h))
theorem aV {a b:Int} {x y:Prop}(h1:¬a=b→x)(h0:a=b→y):split (a !=b) x y:=
 ao (fun h=>h1 (by simpa using h)) (fun h=>h0 (by simpa using h))
theorem aW {a b:Bool} {x y:Prop}(h1:a=true∨b=true→x)(h0:a=false∧b=false→y):split (a || b) x y:=
 ao (fun h=>h1 (by simpa using h)) (fun h=>h0 (by simpa using h))
theorem cE {a b:Bool} {x y:Prop}(h1:a=true∧b=true→x)(h0:¬(a=true∧b=true)→y):split (a && b) x y:=
 ao (fun h=>h1 (by simpa using h)) (fun h=>h0 (by simpa using h))
end
section
variable {P:Program} {w w0 w1 w2 w3 w':World} {g g':Nat} {cs cs':Array Value} {T T':TypeId} {X Y Z:Nat→Prop} {v:Value}
structure S1(P:Program)(t e:TypeId)(z:Value)(bytes:Nat):Prop where
 und:P.underlying t=some (.slice e)
 info:∃i,P.info? e=some i∧i.zero=some z∧i.size=1∧i.bytes=bytes
 cells:z.cells= #[z]
theorem S1.of {t e:TypeId} {z:Value} {bytes:Nat}(h:P.underlying t=some (.slice e))(h2:(P.info? e).map (fun i=>(i.zero,i.size,i.bytes))=some (some z,1,bytes))(h3:z.cells= #[z]):S1 P t e z bytes:=by
 refine⟨h,?_,h3⟩
 cases hi:P.info? e with
 | none=>rw [hi]at h2;cases h2
 | some i=>rw [hi]at h2;simp at h2;exact⟨i,rfl,h2.1,h2.2.1,h2.2.2⟩
structure SN(P:Program)(t e:TypeId)(z:Value)(size bytes:Nat):Prop where
 und:P.underlying t=some (.slice e)
 info:∃i,P.info? e=some i∧i.zero=some z∧i.size=size∧i.bytes=bytes
 cells:z.cells.size=size
 pos:0<size
theorem SN.of {t e:TypeId} {z:Value} {size bytes:Nat}(h:P.underlying t=some (.slice e))(h2:(P.info? e).map (fun i=>(i.zero,i.size,i.bytes))=some (some z,size,bytes))(h3:z.cells.size=size)(h4:0<size):SN P t e z size bytes:=by
 refine⟨h,?_,h3,h4⟩
 cases hi:P.info? e with
 | none=>rw [hi]at h2;cases h2
 | some i=>rw [hi]at h2;simp at h2;exact⟨i,rfl,h2.1,h2.2.1,h2.2.2⟩
theorem S1.sn {t e:TypeId} {z:Value} {bytes:Nat}(h:S1 P t e z bytes):SN P t e z 1 bytes:=⟨h.und,h.info,by rw [h.cells];rfl,by omega⟩
theorem pz {t e:TypeId} {z:Value} {bytes:Nat}(h:S1 P t e z bytes) {n:Int}(h0:0≤n)(hn:(bytes:Int)*n≤281474976710656)(QP:n≤9223372036854775807) {K:Option Addr→Nat→Nat→World→Prop}
 (hK:∀g w2,Made w g (Array.replicate n.toNat z) e w2→K (some (Addr.mk g 0 none)) n.toNat n.toNat w2):
 ∃(A:Option Addr)(N C:Nat)(w2:World),(Instr.makeSlice t (.int .i64 n) (.int .i64 n):Sem Value).run P w= .ok (.slice A N C) w2∧K A N C w2:=by
 obtain⟨i,hi,hz,hs,hb⟩:=h.info
 have hr:=run_make (P:=P) w t e i z h.und hi hz .i64 .i64 n n h0 (Int.le_refl _) (by rw [hb];exact hn) QP
 have hm:madeCells z.cells (n.toNat *i.size)=Array.replicate n.toNat z:=by
  apply Array.ext'
  rw [h.cells,hs,Nat.mul_one,toList_madeCells_one]
  simp
 rw [hm]at hr
 exact⟨_,_,_,_,hr,hK _ _ (made rfl rfl)⟩
theorem eD(g:Nat)(T:TypeId):∀(vs:List Value)(o:Nat)(w:World)(cs:Array Value),Blk w g cs T→bI w g (setAt cs o vs) T (w.setCells g o vs)
 | [],o,w,cs,h=>⟨h,Kept.refl _ _,rfl⟩
 | v::r,o,w,cs,h=>by
  have h1:=h.set o v
  exact h1.trans (eD g T r (o+1) _ _ h1.blk)
theorem F6 {t e ty:TypeId} {z:Value} {bytes:Nat}(h:S1 P t e z bytes)(h1:z.oneCell'=true)(hb:Blk w g cs T) {o n c:Nat}(hn:0<n)(hs:o+n≤cs.size) {K:World→Prop}
 (hK:∀w2,bI w g (setAt cs o (List.replicate n z)) T w2→K w2):
 ∃w2,(Builtin.clear_ #[t] ty #[.slice (some (Addr.mk g o none)) n c]:Sem Value).run P w= .ok (.tuple #[]) w2∧K w2:=by
 obtain⟨i,hi,hz,_,_⟩:=h.info
 have hv:∀w,(zeroValue e).run P w= .ok z w:=fun w=>by simp [zeroValue,typeInfo,hi,hz]
 have OG:∀j,j<n→(w.cell? ⟨g,o+j,none⟩).isSome=true:=fun j hj=>by
  have:cs[o+j]? =some (cs[o+j]'(by omega)):=Array.getElem?_eq_getElem (by omega)
  rw [hb.cell this];rfl
 have hf:∀j,j<n→w.frozen? ⟨g,o+j,none⟩=false:=fun j hj=>by
  unfold Blk at hb
  simp [World.frozen?,hb]
 exact⟨_,Go.Lib.run_clear_slice w t e ty z h.und hv h.cells h1 g o n c hn OG hf,hK _ (eD g T _ o w cs hb)⟩
theorem pG {dT sT ty e:TypeId} {k:IntKind} {bytes:Nat}(h:S1 P dT e (.int k 0) bytes)(hb:Blk w g cs T) {o dn dc:Nat} {A:Option Addr} {n c:Nat} {l:List Int}(hl:de w Z k A n c l)(hs:o+min n dn≤cs.size) {K:World→Prop}
 (hK:∀w2,bI w g (setAt cs o ((l.take (min n dn)).map (Value.int k))) T w2→K w2):
 ∃(x:Int)(w2:World),(Builtin.copy_ #[dT,sT] ty #[.slice (some (Addr.mk g o none)) dn dc,.slice A n c]:Sem Value).run P w= .ok (.int .i64 x) w2∧K w2:=by
 obtain⟨i,hi,_,ND,_⟩:=h.info
 have O0:(P.info? e).map (·.size)=some 1:=by rw [hi];simp [ND]
 have hlen:=hl.len
 cases A with
 | none=>
  have hn:n=0:=by
   cases l with
   | nil=>simpa using hlen.symm
   | cons x r=>obtain⟨p,hp,_⟩:=hl.cell 0 x rfl;cases hp
  subst hn
  refine⟨0,w,?_,hK w ?_⟩
  ·simp [Builtin.copy_,run_underlying h.und,Builtin.lenOf,Builtin.firstCells,sizeOf,typeInfo,hi,storeCells,goInt]
  ·simpa [setAt]using (⟨hb,Kept.refl _ _,rfl⟩:bI w g cs T w)
 | some a=>
  have hm:((l.take (min n dn)).map (Value.int k)).length=Nat.min n dn:=by
   rw [List.length_map,List.length_take,hlen]
   show min (min n dn) n=min n dn
   omega
  have hr:=run_copy_cells (P:=P) w dT sT ty e g o dn dc a n c ((l.take (min n dn)).map (Value.int k)) h.und O0 hm
   (by
    intro j u hu
    rw [List.getElem?_map,List.getElem?_take]at hu
    split at hu
    ·cases hj:l[j]? with
     | none=>rw [hj]at hu;cases hu
     | some x=>
      rw [hj]at hu
      injection hu with hu
      subst hu
      obtain⟨p,hp,_,hc⟩:=hl.cell j x hj
      injection hp with hp
      subst hp
      exact hc
    ·cases hu)
   (by
    intro j hj
    rw [hm]at hj
    have U1:j<min n dn:=hj
    have:cs[o+j]? =some (cs[o+j]'(by omega)):=Array.getElem?_eq_getElem (by omega)
    rw [hb.cell this];rfl)
   (by
    intro j hj
    unfold Blk at hb
    simp [World.frozen?,hb])
   (by
    intro u hu
    obtain⟨x,_,rfl⟩:=List.mem_map.1 hu
    rfl)
  exact⟨_,_,hr,hK _ (eD g T _ o w cs hb)⟩
def ep(w:World)(Z:Nat→Prop)(e:TypeId)(size:Nat)(A:Option Addr)(n c:Nat)(xs:List Value):Prop:=
 w.ownsRow 0 e size (.slice A n c) n xs∧∀a,A=some a→Z a.block
section
variable {e:TypeId} {size:Nat} {A:Option Addr} {n c:Nat} {xs:List Value}
theorem ep.nil:ep w Z e size none 0 0 []:=⟨⟨by simp,.inl ⟨rfl,rfl⟩⟩,by simp⟩
theorem ep.len(h:ep w Z e size A n c xs):xs.length=n*size:=h.1.1
theorem ep.mono(h:ep w Z e size A n c xs)(hz:∀k,Z k→Y k):ep w Y e size A n c xs:=⟨h.1,fun a ha=>hz _ (h.2 a ha)⟩
theorem ep.kept {B:Nat→Prop}(h:ep w Z e size A n c xs)(hk:Kept B w w')(hb:∀k,Z k→B k):ep w' Z e size A n c xs:=by
 refine⟨⟨h.1.1,?_⟩,h.2⟩
 rcases h.1.2 with hv | ⟨g,cap,cur,hv,hg,QZ,rest⟩
 ·exact .inl hv
 ·have hA:A=some ⟨g,0,none⟩:=by injection hv
  exact .inr ⟨g,cap,cur,hv,hg,by rw [hk.block g (hb _ (h.2 _ hA))];exact QZ,rest⟩
theorem ep.ch(h:ep w Z e size A n c xs)(hk:Ch X w w')(hb:∀k,Z k→¬X k):ep w' Z e size A n c xs:=by
 refine⟨⟨h.1.1,?_⟩,h.2⟩
 rcases h.1.2 with hv | ⟨g,cap,cur,hv,hg,QZ,rest⟩
 ·exact .inl hv
 ·have hA:A=some ⟨g,0,none⟩:=by injection hv
  exact .inr ⟨g,cap,cur,hv,hg,by rw [hk.kept.block g ⟨(Array.getElem?_eq_some_iff.1 QZ).1,hb _ (h.2 _ hA)⟩];exact QZ,rest⟩
theorem ep.pu(h:ep w Z e size A n c xs)(hk:Pu w w'):ep w' Z e size A n c xs:=h.ch hk (by simp)
theorem ep.F7(h:ep w Z e size A n c xs):n≤c:=by
 rcases h.1.2 with⟨hv,hn⟩ | ⟨g,cap,cur,hv,_,_,W8,_⟩
 ·omega
 ·injection hv with _ _ hc;omega
theorem ep.cell(h:ep w Z e size A n c xs) {j:Nat}(hj:xs[j]? =some v):∃g,A=some (Addr.mk g 0 none)∧Z g∧w.cell? ((Addr.mk g 0 none).add j)=some v:=by
 have hl:=h.1.1
 rcases h.1.2 with⟨hv,hn⟩ | ⟨g,cap,cur,hv,hg,QZ,W8,hcm,Pm,PJ⟩
 ·have:xs= []:=List.eq_nil_of_length_eq_zero (by rw [hl,hn,Nat.zero_mul])
  subst this
  simp at hj
 ·injection hv with hA _ _
  refine⟨g,hA,h.2 _ hA,?_⟩
  rw [← PJ,List.getElem?_take]at hj
  split at hj
  ·exact Blk.at (show Blk w g cur e from QZ) (by simpa using hj)
  ·cases hj
theorem ep.blk(h:ep w Z e size A n c xs)(hn:0<n):∃g cur,A=some (Addr.mk g 0 none)∧Z g∧Blk w g cur e∧n*size≤cur.size∧cur.toList.take (n*size)=xs:=by
 rcases h.1.2 with⟨_,SV⟩ | ⟨g,cap,cur,hv,hg,QZ,W8,hcm,Pm,PJ⟩
 ·omega
 ·injection hv with hA _ _
  exact⟨g,cur,hA,h.2 _ hA,QZ,by rw [Pm];exact Nat.mul_le_mul_right _ W8,PJ⟩
theorem u6 {t ty:TypeId} {z:Value} {bytes:Nat}(hT:SN P t e z size bytes)(h:ep w Z e size A n c xs) {a:Addr} {m d:Nat} {news:List Value}(hl:news.length=m*size)
 (abb:∀j u,news[j]? =some u→w.cell? (a.add j)=some u)(h1:∀u∈news,u.oneCell'=true)(QP:n+m≤9223372036854775807)(SI:(n+m)*bytes≤140737488355328) {K:Option Addr→Nat→Nat→World→Prop}
 (hK:∀A' c' w2,ep w2 (fun k=>Z k∨k=w.heap.size) e size A' (n+m) c' (xs++news)→Ch (fun k=>∃b,A=some b∧b.block=k) w w2→K A' (n+m) c' w2):
 ∃(A':Option Addr)(n' c':Nat)(w2:World),(Builtin.append_ #[t,t] ty #[.slice A n c,.slice (some a) m d]:Sem Value).run P w= .ok (.slice A' n' c') w2∧K A' n' c' w2:=by
 obtain⟨i,hi,hz,ND,hb⟩:=hT.info
 obtain⟨v',w2,hr,PZ,hg,_,adT⟩:=run_append_own_at (P:=P) w 0 t ty e i z size bytes hT.und hi hz ND hb hT.cells hT.pos (.slice A n c) n xs h.1 a m d news hl abb h1 (by simp only [maxLen];omega) SI (Nat.zero_le _)
 have hch:Ch (fun k=>∃b,A=some b∧b.block=k) w w2:=by
  refine⟨⟨hg.os,hg.tape,hg.output,hg.size,fun k hk=>hg.block k hk.1 fun e=>hk.2 ?_⟩⟩
  cases A with
  | none=>cases e
  | some b=>exact⟨b,rfl,by simpa [Value.ownBlock]using e.symm⟩
 have RN:∀A':Option Addr,(Value.slice A' (n+m) 0).ownBlock=(Value.slice A n c).ownBlock∨(Value.slice A' (n+m) 0).ownBlock=some w.heap.size→∀b,A'=some b→Z b.block∨b.block=w.heap.size:=by
  rintro A' (hh | hh) b rfl
  ·cases A with
   | none=>simp [Value.ownBlock]at hh
   | some b'=>simp [Value.ownBlock]at hh;rw [hh];exact .inl (h.2 b' rfl)
  ·simp [Value.ownBlock]at hh;exact .inr hh
 rcases PZ.2 with⟨hv,hn0⟩ | ⟨g,cap,cur,hv,rest⟩
 ·subst hv
  refine⟨none,0,0,w2,hr,?_⟩
  have:=hK none 0 w2 ⟨by rw [hn0]at PZ ⊢;exact PZ,by simp⟩ hch
  rwa [hn0]at this
 ·subst hv
  exact⟨_,_,_,w2,hr,hK _ _ _ ⟨PZ,RN _ (by simpa [Value.ownBlock]using adT)⟩ hch⟩
end
end
section
variable {P:Program} {w w0 w1 w2 w3 w':World} {g g':Nat} {cs cs':Array Value} {T T':TypeId} {X Y Z:Nat→Prop} {v:Value}
class Enc (α:Type) where
 enc:α→List Value
 size:Nat
 len:∀x,(enc x).length=size
 one:∀x,∀u∈enc x,u.oneCell'=true
 pos:0<size
open Enc (enc)
structure I64 where
 v:Int
structure U32 where
 v:Int
structure U8 where
 v:Int
structure Bl where
 v:Bool
instance:Enc I64:=⟨fun x=>[.int .i64 x.v],1,fun _=>rfl,by simp [Value.oneCell'],by omega⟩
instance:Enc U32:=⟨fun x=>[.int .u32 x.v],1,fun _=>rfl,by simp [Value.oneCell'],by omega⟩
instance:Enc U8:=⟨fun x=>[.int .u8 x.v],1,fun _=>rfl,by simp [Value.oneCell'],by omega⟩
instance:Enc Bl:=⟨fun x=>[.bool x.v],1,fun _=>rfl,by simp [Value.oneCell'],by omega⟩
section
variable {α:Type} [Enc α]
structure Rd(w:World)(Z:Nat→Prop)(A:Option Addr)(n c:Nat)(l:List α):Prop where
 len:l.length=n
 cap:n≤c
 lt:∀k,Z k→k<w.heap.size
 cell:∀(i:Nat)(x:α),l[i]? =some x→∃p,A=some p∧Z p.block∧∀j,j<Enc.size α→w.cell? ((p.add (i*Enc.size α)).add j)=(enc x)[j]?
variable {A:Option Addr} {n c:Nat} {l:List α}
theorem bV(x:α):(enc x).length=Enc.size α:=Enc.len x
theorem Rd.nil:Rd w (fun _=>False) none 0 c ([]:List α):=⟨rfl,Nat.zero_le _,by simp,by simp⟩
theorem Rd.ch(h:Rd w Z A n c l)(hk:Ch X w w')(hb:∀k,Z k→¬X k):Rd w' Z A n c l:=by
 refine⟨h.len,h.cap,fun k QN=>Nat.lt_of_lt_of_le (h.lt k QN) hk.size,fun i x hx=>?_⟩
 obtain⟨p,hA,hZ,hc⟩:=h.cell i x hx
 refine⟨p,hA,hZ,fun j hj=>?_⟩
 rw [← hc j hj]
 have:j<(enc x).length:=by rw [bV];exact hj
 have hv:=(hc j hj).trans (List.getElem?_eq_getElem this)
 exact hk.kept.cell ⟨World.block_lt_of_cell? w _ hv,by rw [block_add,block_add];exact hb _ hZ⟩
theorem Rd.pu(h:Rd w Z A n c l)(hk:Pu w w'):Rd w' Z A n c l:=h.ch hk (by simp)
theorem Rd.mono(h:Rd w Z A n c l)(hz:∀k,Z k→Y k)(hl:∀k,Y k→k<w.heap.size):Rd w Y A n c l:=
 ⟨h.len,h.cap,hl,fun i x hx=>by obtain⟨p,hA,hZ,hc⟩:=h.cell i x hx;exact⟨p,hA,hz _ hZ,hc⟩⟩
theorem Rd.ld(h:Rd w Z A n c l) {i:Int}(h0:0≤i)(h1:i<(n:Int)):∃p x,A=some p∧l[i.toNat]? =some x∧Z p.block∧∀j,j<Enc.size α→w.cell? ((p.add (i.toNat *Enc.size α)).add j)=(enc x)[j]? :=by
 have hl:=h.len
 have hi:i.toNat<l.length:=by omega
 obtain⟨p,hA,hZ,hc⟩:=h.cell i.toNat _ (List.getElem?_eq_getElem hi)
 exact⟨p,_,hA,List.getElem?_eq_getElem hi,hZ,hc⟩
theorem Rd.u32 {l:List U32}(h:Rd w Z A n c l)(h0:0<n):∃p,A=some p∧Z p.block∧∀i,i<n→w.cell? (p.add i)=some (.int .u32 (l.getD i ⟨0⟩).v):=by
 have hl:=h.len
 obtain⟨p,hA,hZ,_⟩:=h.cell 0 _ (List.getElem?_eq_getElem (by omega))
 refine⟨p,hA,hZ,fun i hi=>?_⟩
 obtain⟨q,Qq,_,hc⟩:=h.cell i _ (List.getElem?_eq_getElem (by omega))
 rw [hA]at Qq
 injection Qq with Qq
 subst Qq
 have:=hc 0 (by decide)
 rw [add_add,Nat.add_zero,show i*Enc.size U32=i from Nat.mul_one i]at this
 rw [this,List.getD_eq_getElem?_getD,List.getElem?_eq_getElem (show i<l.length by omega)]
 rfl
structure Own(w:World)(Z:Nat→Prop)(e:TypeId)(A:Option Addr)(n c:Nat)(l:List α):Prop where
 own:ep w Z e (Enc.size α) A n c (l.flatMap enc)
 len:l.length=n
theorem dx(l:List α):(l.flatMap enc).length=l.length*Enc.size α:=by
 induction l with
 | nil=>simp
 | cons x r ih=>simp [ih,bV,Nat.add_mul,Nat.add_comm]
theorem flat_get:∀(l:List α)(i j:Nat)(x:α),l[i]? =some x→j<Enc.size α→(l.flatMap enc)[i*Enc.size α+j]? =(enc x)[j]?
 | [],i,j,x,h,hj=>by simp at h
 | y::r,0,j,x,h,hj=>by
  simp at h
  subst h
  simp only [List.flatMap_cons,Nat.zero_mul,Nat.zero_add]
  rw [List.getElem?_append_left (by rw [bV];exact hj)]
 | y::r,i+1,j,x,h,hj=>by
  simp only [List.getElem?_cons_succ]at h
  have ih:=flat_get r i j x h hj
  rw [← ih,List.flatMap_cons,List.getElem?_append_right (by rw [bV,Nat.add_mul,Nat.one_mul];omega),bV]
  congr 1
  rw [Nat.add_mul,Nat.one_mul]
  omega
variable {e:TypeId}
theorem Own.nil:Own w Z e none 0 0 ([]:List α):=⟨ep.nil,rfl⟩
theorem Own.mono(h:Own w Z e A n c l)(hz:∀k,Z k→Y k):Own w Y e A n c l:=⟨h.own.mono hz,h.len⟩
theorem Own.ch(h:Own w Z e A n c l)(hk:Ch X w w')(hb:∀k,Z k→¬X k):Own w' Z e A n c l:=⟨h.own.ch hk hb,h.len⟩
theorem Own.pu(h:Own w Z e A n c l)(hk:Pu w w'):Own w' Z e A n c l:=h.ch hk (by simp)
theorem Own.rd(h:Own w Z e A n c l):Rd w (fun k=>Z k∧k<w.heap.size) A n c l:=by
 refine⟨h.len,h.own.F7,fun k hk=>hk.2,fun i x hx=>?_⟩
 have hi:i<l.length:=(List.getElem?_eq_some_iff.1 hx).1
 have hn:0<n:=by have:=h.len;omega
 obtain⟨g,cur,hA,hZ,hb,_,ht⟩:=h.own.blk hn
 refine⟨_,hA,⟨hZ,hb.lt⟩,fun j hj=>?_⟩
 have h1:=flat_get l i j x hx hj
 rw [← h1,add_add,← ht,List.getElem?_take]
 have h2:i*Enc.size α+j<n*Enc.size α:=by
  have h3:(i+1)*Enc.size α≤n*Enc.size α:=Nat.mul_le_mul_right _ (by have:=h.len;omega)
  rw [Nat.add_mul,Nat.one_mul]at h3;omega
 rw [if_pos h2,bF,Nat.zero_add]
 have h4:i*Enc.size α+j<cur.size:=by omega
 rw [hb.cell (i:=i*Enc.size α+j) (v:=cur[i*Enc.size α+j]) (Array.getElem?_eq_getElem h4)]
 simp [h4]
theorem Own.lt(h:Own w Z e A n c l)(hn:0<n):∃g,A=some (Addr.mk g 0 none)∧Z g∧g<w.heap.size:=by
 obtain⟨g,cur,hA,hZ,hb,_⟩:=h.own.blk hn
 exact⟨g,hA,hZ,hb.lt⟩
theorem Own.app {t ty:TypeId} {z:Value} {bytes:Nat}(h:Own w Z e A n c l)(hT:SN P t e z (Enc.size α) bytes) {g:Nat} {news:Array Value} {x:α}(hb:Blk w g news e)(hx:news.toList=enc x)(QP:n+1≤9223372036854775807)(SI:(n+1)*bytes≤140737488355328)(hz:Z w.heap.size)
 {K:Option Addr→Nat→Nat→World→Prop}(hK:∀A' c' w2,Own w2 Z e A' (n+1) c' (l++ [x])→Ch Z w w2→K A' (n+1) c' w2):
 ∃(A':Option Addr)(n' c':Nat)(w2:World),(Builtin.append_ #[t,t] ty #[.slice A n c,.slice (some (Addr.mk g 0 none)) 1 1]:Sem Value).run P w= .ok (.slice A' n' c') w2∧K A' n' c' w2:=by
 refine u6 hT h.own (news:=enc x) (by rw [bV,Nat.one_mul]) (fun j u hu=>hb.at (by rw [← hx]at hu;simpa using hu)) (Enc.one x) QP SI fun A' c' w2 ho hc=>?_
 refine hK A' c' w2 ⟨?_,by simp [h.len]⟩ (hc.mono ?_)
 ·rw [List.flatMap_append,List.flatMap_cons,List.flatMap_nil,List.append_nil]
  exact ho.mono fun k hk=>hk.elim id fun e=>e▸hz
 ·rintro k ⟨b,hA,rfl⟩
  exact h.own.2 b hA
theorem Own.apps {t ty:TypeId} {z:Value} {bytes:Nat}(h:Own w Z e A n c l)(hT:SN P t e z (Enc.size α) bytes) {B:Option Addr} {m d:Nat} {l2:List α}(h2:Rd w Y B m d l2)(QP:n+m≤9223372036854775807)(SI:(n+m)*bytes≤140737488355328)(hz:Z w.heap.size)
 {K:Option Addr→Nat→Nat→World→Prop}(hK:∀A' c' w2,Own w2 Z e A' (n+m) c' (l++l2)→Ch Z w w2→K A' (n+m) c' w2)
 (Wo:m=0→B=none→∃(A':Option Addr)(n' c':Nat)(w2:World),(Builtin.append_ #[t,t] ty #[.slice A n c,.slice none 0 d]:Sem Value).run P w= .ok (.slice A' n' c') w2∧K A' n' c' w2):
 ∃(A':Option Addr)(n' c':Nat)(w2:World),(Builtin.append_ #[t,t] ty #[.slice A n c,.slice B m d]:Sem Value).run P w= .ok (.slice A' n' c') w2∧K A' n' c' w2:=by
 cases B with
 | none=>
  have hm:m=0:=by
   cases hl:l2 with
   | nil=>have:=h2.len;rw [hl]at this;simpa using this.symm
   | cons x r=>obtain⟨p,hp,_⟩:=h2.cell 0 x (by rw [hl];rfl);cases hp
  subst hm
  exact Wo rfl rfl
 | some a=>
  refine u6 hT h.own (news:=l2.flatMap enc) (by rw [dx,h2.len]) (fun j u hu=>?_) (fun u hu=>?_) QP SI fun A' c' w2 ho hc=>?_
  ·have hp:0<Enc.size α:=Enc.pos
   have hj:j<(l2.flatMap enc).length:=(List.getElem?_eq_some_iff.1 hu).1
   rw [dx]at hj
   have hq:j / Enc.size α<l2.length:=(Nat.div_lt_iff_lt_mul hp).2 hj
   have hr:j % Enc.size α<Enc.size α:=Nat.mod_lt _ hp
   obtain⟨p,hA,_,OG⟩:=h2.cell (j / Enc.size α) _ (List.getElem?_eq_getElem hq)
   injection hA with hA
   subst hA
   have h3:=OG (j % Enc.size α) hr
   have h4:=flat_get l2 (j / Enc.size α) (j % Enc.size α) _ (List.getElem?_eq_getElem hq) hr
   have h5:j / Enc.size α*Enc.size α+j % Enc.size α=j:=by rw [Nat.mul_comm];exact Nat.div_add_mod j (Enc.size α)
   rw [h5]at h4
   rw [add_add,h5]at h3
   rw [h3,← h4,hu]
  ·obtain⟨x,_,hx⟩:=List.mem_flatMap.1 hu
   exact Enc.one x u hx
  ·refine hK A' c' w2 ⟨?_,by simp [h.len,h2.len]⟩ (hc.mono ?_)
   ·rw [List.flatMap_append]
    exact ho.mono fun k hk=>hk.elim id fun e=>e▸hz
   ·rintro k ⟨b,hA,rfl⟩
    exact h.own.2 b hA
theorem wO {t e:TypeId} {z:Value} {bytes:Nat}(h:S1 P t e z bytes)(x:α)(hx:enc x= [z]) {n:Int}(h0:0≤n)(hn:(bytes:Int)*n≤281474976710656)(QP:n≤9223372036854775807) {K:Option Addr→Nat→Nat→World→Prop}
 (hK:∀g w2,Made w g (Array.replicate n.toNat z) e w2→Own w2 (fun k=>k=g) e (some (Addr.mk g 0 none)) n.toNat n.toNat (List.replicate n.toNat x)→K (some (Addr.mk g 0 none)) n.toNat n.toNat w2):
 ∃(A:Option Addr)(N C:Nat)(w2:World),(Instr.makeSlice t (.int .i64 n) (.int .i64 n):Sem Value).run P w= .ok (.slice A N C) w2∧K A N C w2:=by
 have hs:Enc.size α=1:=by rw [← bV x,hx];rfl
 have hf:(List.replicate n.toNat x).flatMap enc=List.replicate n.toNat z:=by
  generalize n.toNat=k
  induction k with
  | zero=>rfl
  | succ k ih=>rw [List.replicate_succ,List.flatMap_cons,ih,hx];rfl
 refine pz h h0 hn QP fun g w2 hM=>hK g w2 hM ⟨⟨⟨by rw [hf,hs];simp,.inr ⟨g,n.toNat,Array.replicate n.toNat z,rfl,Nat.zero_le _,hM.blk,Nat.le_refl _,by simp only [maxLen];omega,by rw [hs];simp,by rw [hs,hf];simp⟩⟩,?_⟩,by simp⟩
 intro a ha
 injection ha with ha
 rw [← ha]
theorem wT:∀(l:List α)(i:Nat)(x:α),i<l.length→(l.set i x).flatMap enc=((l.flatMap enc).take (i*Enc.size α))++enc x++((l.flatMap enc).drop ((i+1)*Enc.size α))
 | [],i,x,h=>by simp at h
 | y::r,0,x,h=>by
  simp only [List.set_cons_zero,List.flatMap_cons,Nat.zero_mul,List.take_zero,List.nil_append,Nat.zero_add,Nat.one_mul]
  rw [List.drop_append_of_le_length (by rw [bV];omega),List.drop_of_length_le (by rw [bV];omega),List.nil_append]
 | y::r,i+1,x,h=>by
  have ih:=wT r i x (by simpa using h)
  simp only [List.set_cons_succ,List.flatMap_cons]
  rw [ih]
  have e1:(i+1)*Enc.size α=Enc.size α+i*Enc.size α:=by rw [Nat.add_mul,Nat.one_mul,Nat.add_comm]
  have e2:(i+1+1)*Enc.size α=Enc.size α+(i+1)*Enc.size α:=by rw [Nat.add_mul (i+1),Nat.one_mul,Nat.add_comm]
  rw [e1,e2,← bV y,List.take_length_add_append,List.drop_length_add_append]
  simp [bV,List.append_assoc,Nat.add_mul,Nat.add_comm]
theorem Own.st(h:Own w Z e A n c l) {p:Addr}(hA:A=some p) {i:Nat}(hi:i<n) {x y:α}(hx:l[i]? =some x) {o:Nat} {vs:List Value}(ho:o+vs.length≤Enc.size α)(hy:enc y=(enc x).take o++vs++(enc x).drop (o+vs.length)) {K:World→Prop}
 (hK:∀w2,Own w2 Z e A n c (l.set i y)→Ch Z w w2→K w2):aF w ((p.add (i*Enc.size α)).add o) vs K:=by
 have hn:0<n:=by omega
 have hl:=h.len
 rcases h.own.1.2 with⟨_,SV⟩ | ⟨g,cap,cur,hv,hg,QZ,W8,hcm,Pm,PJ⟩
 ·omega
 injection hv with Qq _ SH
 have hp:p=Addr.mk g 0 none:=by rw [Qq]at hA;injection hA with hA;exact hA.symm
 subst hp
 have hZ:=h.own.2 _ hA
 have hb:Blk w g cur e:=QZ
 have ND:n*Enc.size α≤cur.size:=by rw [Pm];exact Nat.mul_le_mul_right _ W8
 have h3:(i+1)*Enc.size α≤n*Enc.size α:=Nat.mul_le_mul_right _ (by omega)
 have S0:(i+1)*Enc.size α=i*Enc.size α+Enc.size α:=by rw [Nat.add_mul,Nat.one_mul]
 rw [add_add,bF,Nat.zero_add]
 refine gJ hb (by omega) fun w2 hs=>hK w2 ⟨⟨⟨by rw [dx];simp [hl],.inr ⟨g,cap,setAt cur (i*Enc.size α+o) vs,by rw [Qq,SH],Nat.zero_le _,hs.blk,W8,hcm,by rw [eI];exact Pm,?_⟩⟩,h.own.2⟩,by simp [hl]⟩ (hs.ch.mono fun k hk=>hk▸hZ)
 apply List.ext_getElem?
 intro k
 rw [wT l i y (by omega)]
 have hfl:(l.flatMap enc).length=n*Enc.size α:=by rw [dx,hl]
 have hex:(enc x).length=Enc.size α:=bV x
 have hey:(enc y).length=Enc.size α:=bV y
 rw [List.getElem?_take]
 have Ui:∀q,q<n*Enc.size α→(l.flatMap enc)[q]? =cur[q]? :=fun q hq=>by
  rw [← PJ,List.getElem?_take,if_pos hq];simp
 have hsa:(setAt cur (i*Enc.size α+o) vs).toList[k]? =if i*Enc.size α+o≤k∧k<i*Enc.size α+o+vs.length then vs[k - (i*Enc.size α+o)]? else cur[k]? :=by
  have:=dC vs cur (i*Enc.size α+o) k (by omega)
  simpa using this
 rw [hsa]
 have RY:∀q,q<Enc.size α→cur[i*Enc.size α+q]? =(enc x)[q]? :=fun q hq=>by
  rw [← Ui _ (by omega)];exact flat_get l i q x hx hq
 by_cases hk:k<n*Enc.size α
 ·rw [if_pos hk]
  by_cases Pl:k<i*Enc.size α
  ·rw [if_neg (by omega),List.append_assoc,List.getElem?_append_left (by rw [List.length_take];omega),List.getElem?_take,if_pos Pl,Ui k hk]
  ·obtain⟨q,rfl⟩:∃q,k=i*Enc.size α+q:=⟨k - i*Enc.size α,by omega⟩
   have ht:((l.flatMap enc).take (i*Enc.size α)).length=i*Enc.size α:=by rw [List.length_take];omega
   rw [List.append_assoc,List.getElem?_append_right (by omega),ht,show i*Enc.size α+q - i*Enc.size α=q by omega]
   by_cases hq:q<Enc.size α
   ·rw [List.getElem?_append_left (by omega),hy]
    by_cases h5:o≤q∧q<o+vs.length
    ·rw [if_pos (by omega),List.append_assoc,List.getElem?_append_right (by rw [List.length_take];omega),List.length_take,hex,show min o (Enc.size α)=o by omega,List.getElem?_append_left (by omega)]
     congr 1;omega
    ·rw [if_neg (by omega),RY q hq]
     by_cases h6:q<o
     ·rw [List.append_assoc,List.getElem?_append_left (by rw [List.length_take];omega),List.getElem?_take,if_pos h6]
     ·rw [List.getElem?_append_right (by simp [List.length_take];omega),List.getElem?_drop]
      congr 1
      simp [List.length_take]
      omega
   ·rw [if_neg (by omega),List.getElem?_append_right (by omega),List.getElem?_drop,Ui _ (by omega)]
    congr 1;omega
 ·rw [if_neg hk]
  symm
  apply List.getElem?_eq_none
  simp only [List.length_append,List.length_take,List.length_drop,hfl,hey]
  omega
theorem Own.st0(h:Own w Z e A n c l) {p:Addr}(hA:A=some p) {i:Nat}(hi:i<n) {x y:α}(hx:l[i]? =some x) {vs:List Value}(hy:enc y=vs) {K:World→Prop}
 (hK:∀w2,Own w2 Z e A n c (l.set i y)→Ch Z w w2→K w2):aF w (p.add (i*Enc.size α)) vs K:=by
 have:=Own.st h hA hi hx (o:=0) (vs:=vs) (y:=y) (by rw [← hy,bV];omega) (by rw [← hy];simp [bV]) hK
 rwa [add_add,Nat.add_zero]at this
end
theorem ep.within {w:World} {Z:Nat→Prop} {e:TypeId} {size:Nat} {A:Option Addr} {n c:Nat} {xs:List Value}(h:ep w Z e size A n c xs):ep w (fun k=>Z k∧k<w.heap.size) e size A n c xs:=by
 refine⟨h.1,fun a ha=>⟨h.2 a ha,?_⟩⟩
 rcases h.1.2 with⟨hv,hn⟩ | ⟨g,cap,cur,hv,hg,QZ,rest⟩
 ·injection hv with hA _ _
  rw [ha]at hA;cases hA
 ·injection hv with hA _ _
  rw [ha]at hA
  injection hA with hA
  rw [hA]
  exact(Array.getElem?_eq_some_iff.1 QZ).1
theorem Own.within {α:Type} [Enc α] {w:World} {Z:Nat→Prop} {e:TypeId} {A:Option Addr} {n c:Nat} {l:List α}(h:Own w Z e A n c l):Own w (fun k=>Z k∧k<w.heap.size) e A n c l:=⟨h.own.within,h.len⟩
end
section
variable {P:Program} {w w0 w1 w2 w3 w':World} {g g':Nat} {T T':TypeId} {X Y Z:Nat→Prop} {l l':List Int}
theorem Cy {vs:List Value} {cs:Array Value}(h:vs.length=cs.size):setAt cs 0 vs=vs.toArray:=by
 apply Array.ext_getElem?
 intro i
 rw [dC _ _ _ _ (by omega)]
 by_cases hi:i<vs.length
 ·rw [if_pos (by omega)];simp
 ·rw [if_neg (by omega),Array.getElem?_eq_none (by omega),Array.getElem?_eq_none (by simp;omega)]
theorem dB {K:World→Prop} {vs:List Value} {cs:Array Value}(hb:Blk w g cs T)(hi:vs.length=cs.size)(h:∀w2,bI w g vs.toArray T w2→K w2):aF w (Addr.mk g 0 none) vs K:=
 bQ hb (by omega) fun w2 s=>h w2 (by rw [← Cy hi];exact s)
theorem Mg {a0 a1 a2 a3 a4 a5 a6 a7 a8 a9 b0 b1 b2 b3 b4 b5 b6 b7 b8 b9:Value}(h0:a0=b0)(h1:a1=b1)(h2:a2=b2)(h3:a3=b3)(h4:a4=b4)(h5:a5=b5)(h6:a6=b6)(h7:a7=b7)(h8:a8=b8)(h9:a9=b9):(#[a0,a1,a2,a3,a4,a5,a6,a7,a8,a9]:Array Value)= #[b0,b1,b2,b3,b4,b5,b6,b7,b8,b9]:=by subst h0;subst h1;subst h2;subst h3;subst h4;subst h5;subst h6;subst h7;subst h8;subst h9;rfl
def cu(l:List Int):Array Value:=(l.map (Value.int .u32)).toArray
@[simp] theorem kW(l:List Int):(cu l).size=l.length:=by simp [cu]
theorem mE {i:Nat}(h:i<l.length):(cu l)[i]? =some (.int .u32 (l.getD i 0)):=by
 simp [cu,List.getElem?_eq_getElem h,List.getD_eq_getElem?_getD]
theorem v7 {i:Int}(h:i.toNat<l.length):(cu l)[i.toNat *1]? =some (.int .u32 (l.getD i.toNat 0)):=by
 rw [Nat.mul_one];exact mE h
theorem v5(n:Nat)(x:Int):cu (List.replicate n x)=Array.replicate n (.int .u32 x):=by simp [cu]
theorem E4:∀v∈(cu l).toList,one? v True:=by
 intro v hv
 simp only [cu,List.mem_map]at hv
 obtain⟨x,_,rfl⟩:=hv
 unfold one?;trivial
theorem Blk.qm(h:Blk w g (cu l) T) {i:Int}(hi:i.toNat<l.length):w.cell? ((Addr.mk g 0 none).add (i.toNat *1))=some (.int .u32 (l.getD i.toNat 0)):=h.at (v7 hi)
theorem Blk.E5(h:Blk w g (cu l) T) {n:Nat}(hn:l.length=n):(cu l).size=n∧∀i u,(cu l)[i]? =some u→w.cell? ((Addr.mk g 0 none).add i)=some u:=
 ⟨by rw [kW,hn],fun i u hu=>h.at hu⟩
def qf:List Int→Nat→List Int→List Int
 | l,_,[]=>l
 | l,o,v::r=>qf (l.set o v) (o+1) r
@[simp] theorem ET:∀(r l:List Int)(o:Nat),(qf l o r).length=l.length
 | [],l,o=>rfl
 | v::r,l,o=>by rw [qf,ET r];simp
theorem vV(a r b:List Int)(x:List Int)(hx:x.length=r.length):qf (a++(x++b)) a.length r=a++(r++b):=by
 induction r generalizing a x with
 | nil=>cases x with
  | nil=>rfl
  | cons=>simp at hx
 | cons v r ih=>cases x with
  | nil=>simp at hx
  | cons y x=>
   have:=ih (a++ [v]) x (by simpa using hx)
   rw [qf]
   simpa using this
theorem vZ {i:Nat} {v:Int}:setAt (cu l) i [.int .u32 v]=cu (l.set i v):=by
 simp [setAt,cu,List.setIfInBounds_toArray,List.map_set]
theorem nQ:∀(r l:List Int)(o:Nat),setAt (cu l) o (r.map (Value.int .u32))=cu (qf l o r)
 | [],l,o=>rfl
 | v::r,l,o=>by
  rw [List.map_cons,setAt,qf,← nQ r]
  congr 1
  simp [cu,List.setIfInBounds_toArray,List.map_set]
theorem zo {K:World→Prop} {i:Int} {v:Int}(hb:Blk w g (cu l) T)(hi:i.toNat<l.length)(h:∀w2,bI w g (cu (l.set i.toNat v)) T w2→K w2):aF w ((Addr.mk g 0 none).add (i.toNat *1)) [.int .u32 v] K:=
 bx hb (by simp;omega) fun w2 s=>h w2 (by rw [← vZ];rw [Nat.mul_one]at s;exact s)
theorem EU(r l:List Int)(h:r.length=l.length):qf l 0 r=r:=by simpa using vV [] r [] l h.symm
theorem ta {K:World→Prop}(hb:Blk w g (cu l) T)(hl:l'.length=l.length)(h:∀w2,bI w g (cu l') T w2→K w2):aF w (Addr.mk g 0 none) (cu l').toList K:=
 bQ hb (by simp [cu,hl]) fun w2 s=>h w2 (by
  have e:(cu l').toList=l'.map (Value.int .u32):=by simp [cu]
  rw [e,nQ,EU _ _ hl]at s
  exact s)
theorem F3 {dT sT ty e:TypeId} {bytes:Nat}(h:S1 P dT e (.int .u32 0) bytes)(hb:Blk w g (cu l) T) {o m dn dc:Nat} {A B:Option Addr} {n c:Nat} {r:List Int}(hB:B=some (if m=o then Addr.mk g 0 none else(Addr.mk g 0 none).add (o*1)))(hm:m=o→min n dn=0)(hl:de w Z .u32 A n c r)(hs:o+min n dn≤l.length) {K:World→Prop}
 (hK:∀w2,bI w g (cu (qf l o (r.take (min n dn)))) T w2→K w2):
 ∃(x:Int)(w2:World),(Builtin.copy_ #[dT,sT] ty #[.slice B dn dc,.slice A n c]:Sem Value).run P w= .ok (.int .i64 x) w2∧K w2:=by
 subst hB
 by_cases Ws:m=o
 ·rw [if_pos Ws]
  have h0:=hm Ws
  refine pG (K:=K) h hb (o:=0) hl (by rw [kW];omega) fun w2 s=>hK w2 ?_
  rw [h0]at s ⊢
  simpa [setAt,qf]using s
 ·rw [if_neg Ws,bF,Nat.zero_add,Nat.mul_one]
  exact pG (K:=K) h hb hl (by rw [kW];exact hs) fun w2 s=>hK w2 (by rw [← nQ];exact s)
theorem de.row(h:Blk w g (cu l) T)(hz:Z g) {o n c:Nat}(hn:n≤c)(hl:o+n≤l.length):de w Z .u32 (some (Addr.mk g o none)) n c ((l.drop o).take n):=
 de.blk h hz hn (by simp;omega) (by
  intro j x hj
  rw [List.getElem?_take]at hj
  split at hj
  ·rw [List.getElem?_drop]at hj
   rw [mE (by omega),List.getD_eq_getElem?_getD,hj]
   rfl
  ·cases hj)
theorem de.pre {cs:Array Value} {A:Option Addr} {n c m o:Nat} {k:IntKind} {r:List Int}(h:Blk w g cs T)(hz:Z g)(hA:A=some (if m=0 then(Addr.mk g 0 none).add o else((Addr.mk g 0 none).add o).add (0*1)))(hn:n≤c)(hr:r.length=n)(he:((cs.toList.drop o).take n)=r.map (Value.int k)):de w Z k A n c r:=by
 have e:A=some (Addr.mk g o none):=by
  rw [hA]
  split<;>simp [bF]
 subst e
 refine de.blk h hz hn hr fun j x hj=>?_
 have h1:((cs.toList.drop o).take n)[j]? =some (Value.int k x):=by rw [he,List.getElem?_map,hj];rfl
 rw [List.getElem?_take]at h1
 split at h1
 ·rw [List.getElem?_drop]at h1;simpa using h1
 ·cases h1
theorem de.MG {A:Option Addr} {n c m o:Nat}(h:Blk w g (cu l) T)(hz:Z g)(hA:A=some (if m=o then Addr.mk g 0 none else(Addr.mk g 0 none).add (o*1)))(hm:m=o→n=0)(hn:n≤c)(hl:o+n≤l.length):de w Z .u32 A n c ((l.drop o).take n):=by
 subst hA
 by_cases Ws:m=o
 ·have:=hm Ws
  subst this
  rw [if_pos Ws,List.take_zero]
  exact⟨rfl,Nat.zero_le _,by simp⟩
 ·rw [if_neg Ws,bF,Nat.zero_add,Nat.mul_one]
  exact de.row h hz hn hl
structure gz(w:World)(g:Nat)(l:List Int):Prop where
 len:l.length=64
 blk:∃T,Blk w g (cu l) T
theorem gz.lt(h:gz w g l):∀k,k=g→k<w.heap.size:=fun k e=>e▸h.blk.elim fun _ b=>b.lt
theorem gz.ch(h:gz w g l)(hk:Ch X w w')(hx:∀k,k=g→¬X k):gz w' g l:=⟨h.len,h.blk.imp fun _ b=>hk.blk b (hx g rfl)⟩
theorem gz.pu(h:gz w g l)(hk:Pu w w'):gz w' g l:=h.ch hk (by simp)
end
end Go.Proofs.YtfmcaoaaiganbaaGreatDoor.V
namespace Go.Proofs.YtfmcaoaaiganbaaGreatDoor.V
open Go Go.RowKit
open Go.IntKind (i64 u32 u64)
open Enc (enc)
section
variable {P:Program} {w w0 w1 w2 w3 w':World} {g g':Nat} {T T':TypeId} {X Y Z:Nat→Prop}
theorem Ch.fresh(h:Ch (fun k=>w.heap.size≤k) w w2):Pu w w2:=
 ⟨h.kept.mono fun k hk=>⟨hk.1,fun h=>absurd hk.1 (Nat.not_lt.2 h)⟩⟩
section
variable {α:Type} [Enc α] {A:Option Addr} {n c:Nat} {l:List α}
theorem Rd.flat(h:Rd w Z A n c l) {p:Addr}(hA:A=some p)(j:Nat)(u:Value)(hu:(l.flatMap enc)[j]? =some u):w.cell? (p.add j)=some u:=by
 have hp:0<Enc.size α:=Enc.pos
 have hj:j<(l.flatMap enc).length:=(List.getElem?_eq_some_iff.1 hu).1
 rw [dx]at hj
 have hq:j / Enc.size α<l.length:=(Nat.div_lt_iff_lt_mul hp).2 hj
 have hr:j % Enc.size α<Enc.size α:=Nat.mod_lt _ hp
 obtain⟨p',Qq,_,OG⟩:=h.cell (j / Enc.size α) _ (List.getElem?_eq_getElem hq)
 rw [hA]at Qq
 injection Qq with Qq
 subst Qq
 have h3:=OG (j % Enc.size α) hr
 have h4:=flat_get l (j / Enc.size α) (j % Enc.size α) _ (List.getElem?_eq_getElem hq) hr
 have h5:j / Enc.size α*Enc.size α+j % Enc.size α=j:=by rw [Nat.mul_comm];exact Nat.div_add_mod j (Enc.size α)
 rw [h5]at h4
 rw [add_add,h5]at h3
 rw [h3,← h4,hu]
theorem FP(u:Value)(hu:u∈l.flatMap enc):u.oneCell'=true:=by
 obtain⟨x,_,hx⟩:=List.mem_flatMap.1 hu
 exact Enc.one x u hx
theorem Rd.KL(h:Rd w Z none n c l):l= []∧n=0:=by
 cases l with
 | nil=>exact⟨rfl,by simpa using h.len.symm⟩
 | cons x r=>obtain⟨p,hp,_⟩:=h.cell 0 x rfl;cases hp
theorem Rd.cut {lo hi m:Nat} {A':Option Addr} {n' c':Nat}(h:Rd w Z A n c l)(hA:A'=(if m=lo then A else A.map (·.add (lo*Enc.size α))))(hn:n'=hi - lo)(hc:c'=m - lo)(h1:lo≤hi)(h2:hi≤n)(h3:hi≤m):
 Rd w Z A' n' c' ((l.drop lo).take (hi - lo)):=by
 subst hn hc
 have hl:=h.len
 refine⟨by simp;omega,by omega,h.lt,fun i x hx=>?_⟩
 rw [List.getElem?_take]at hx
 split at hx
 ·rename_i Oy
  rw [List.getElem?_drop]at hx
  obtain⟨p,hp,hz,OG⟩:=h.cell _ _ hx
  subst hp
  refine⟨p.add (lo*Enc.size α),?_,?_,fun j hj=>?_⟩
  ·rw [hA,if_neg (by omega)];rfl
  ·rw [block_add];exact hz
  ·rw [← OG j hj,add_add,add_add,add_add,Nat.add_mul,Nat.add_assoc]
 ·cases hx
theorem Rd.from_ {lo m:Nat} {A':Option Addr} {n' c':Nat}(h:Rd w Z A n c l)(hA:A'=(if m=lo then A else A.map (·.add (lo*Enc.size α))))(hn:n'=n - lo)(hc:c'=m - lo)(h1:lo≤n)(h3:n≤m):Rd w Z A' n' c' (l.drop lo):=by
 have:=h.cut (hi:=n) hA hn hc h1 (Nat.le_refl _) h3
 rwa [List.take_of_length_le (by rw [List.length_drop,h.len];omega)]at this
theorem Rd.all {hi m:Nat} {A':Option Addr} {n' c':Nat}(h:Rd w Z A n c l)(hA:A'=(if m=0 then A else A.map (·.add (0*Enc.size α))))(hn:n'=hi - 0)(hc:c'=m - 0)(h1:hi=n)(h2:m=n):Rd w Z A' n' c' l:=by
 subst h1
 have:=h.cut (hi:=hi) hA hn hc (Nat.zero_le _) (Nat.le_refl _) (by omega)
 rwa [List.drop_zero,List.take_of_length_le (by rw [h.len];omega)]at this
theorem Own.KB {e:TypeId}(h:Own w Z e A n c l)(hz:∀k,Z k∧k<w.heap.size→Y k)(hy:∀k,Y k→k<w.heap.size):Rd w Y A n c l:=h.rd.mono hz hy
theorem Lb {t ty e:TypeId} {z:Value} {bytes:Nat}(hT:SN P t e z (Enc.size α) bytes)(h1:Rd w Z A n c l)(hc:c=n) {B:Option Addr} {m d:Nat} {l2:List α}(h2:Rd w Y B m d l2)(QP:n+m≤9223372036854775807)(SI:(n+m)*bytes≤140737488355328)
 {K:Option Addr→Nat→Nat→World→Prop}(hK:∀A' c' w2,Rd w2 (fun k=>(Z k∨w.heap.size≤k)∧k<w2.heap.size) A' (n+m) c' (l++l2)→Pu w w2→K A' (n+m) c' w2):
 ∃(A':Option Addr)(n' c':Nat)(w2:World),(Builtin.append_ #[t,t] ty #[.slice A n c,.slice B m d]:Sem Value).run P w= .ok (.slice A' n' c') w2∧K A' n' c' w2:=by
 obtain⟨i,hi,hz,ND,hb⟩:=hT.info
 obtain rfl:n=c:=hc.symm
 by_cases hm:m=0
 ·subst hm
  have Qu:l2= []:=List.eq_nil_of_length_eq_zero h2.len
  subst Qu
  have hr:(Builtin.append_ #[t,t] ty #[.slice A n n,.slice B 0 d]:Sem Value).run P w= .ok (.slice A n n) w:=by
   refine run_append_nothing w t t ty e i hT.und hi A n n (Nat.le_refl _) _ ?_
   cases B with
   | none=>exact Src.ofNil _ hT.und d
   | some b=>exact Src.ofSlice _ hT.und b 0 d [] (by simp) (by simp) (by simp)
  exact⟨_,_,_,_,hr,hK A n w (by rw [List.append_nil];exact h1.mono (fun k hk=>⟨.inl hk,h1.lt k hk⟩) fun k hk=>hk.2) (Ch.refl _ _)⟩
 ·obtain⟨b,hB⟩:∃b,B=some b:=by
   cases B with
   | none=>exact absurd h2.KL.2 hm
   | some b=>exact⟨b,rfl⟩
  subst hB
  have VI:∀v' w2,(Builtin.append_ #[t,t] ty #[.slice A n n,.slice (some b) m d]:Sem Value).run P w= .ok v' w2→w2.ownsRow w.heap.size e (Enc.size α) v' (n+m) ((l++l2).flatMap enc)→Pu w w2→∃(A':Option Addr)(n' c':Nat)(w2:World),(Builtin.append_ #[t,t] ty #[.slice A n n,.slice (some b) m d]:Sem Value).run P w= .ok (.slice A' n' c') w2∧K A' n' c' w2:=by
   intro v' w2 hr ho hp
   have hoo:=ho
   rcases ho.2 with⟨_,SV⟩ | ⟨g,cap,cur,hv,hg,QZ,_⟩
   ·omega
   ·subst hv
    have PZ:Own w2 (fun k=>w.heap.size≤k) e (some (Addr.mk g 0 none)) (n+m) cap (l++l2):=
     ⟨⟨⟨hoo.1,by rcases hoo.2 with h | ⟨g',cap',cur',QW,_,rest⟩;exact .inl h;exact .inr ⟨g',cap',cur',QW,Nat.zero_le _,rest⟩⟩,fun a ha=>by injection ha with ha;rw [← ha];exact hg⟩,by rw [List.length_append,h1.len,h2.len]⟩
    exact⟨_,_,_,_,hr,hK _ _ _ (PZ.KB (Y:=fun k=>(Z k∨w.heap.size≤k)∧k<w2.heap.size) (fun k hk=>⟨.inr hk.1,hk.2⟩) fun k hk=>hk.2) hp⟩
  cases A with
  | none=>
   obtain⟨Pz,hn⟩:=h1.KL
   subst Pz hn
   refine u6 hT (ep.nil (w:=w) (Z:=fun k=>w.heap.size≤k)) (a:=b) (news:=l2.flatMap enc) (by rw [dx,h2.len]) (h2.flat rfl) (fun u hu=>FP u hu) QP SI fun A' c' w2 ho hc=>?_
   rw [Nat.zero_add]at ho ⊢
   have PZ:Own w2 (fun k=>w.heap.size≤k) e A' m c' l2:=⟨ho.mono fun k hk=>hk.elim id fun e=>by rw [e];omega,h2.len⟩
   have Ua:Pu w w2:=hc.mono fun k hk=>by obtain⟨b,hb,_⟩:=hk;cases hb
   have:=hK A' c' w2
   rw [Nat.zero_add,List.nil_append]at this
   exact this (PZ.KB (fun k hk=>⟨.inr hk.1,hk.2⟩) fun k hk=>hk.2) Ua
  | some a=>
   obtain⟨v',w2,hr,ho,hg⟩:=run_append_arg_grows (P:=P) w t ty e i z (Enc.size α) bytes hT.und hi hz ND hb hT.cells hT.pos a n n (l.flatMap enc) (by rw [dx,h1.len]) (h1.flat rfl) b m d (l2.flatMap enc) (by rw [dx,h2.len]) (h2.flat rfl) (by omega) (by simp only [maxLen];omega) SI
   rw [← List.flatMap_append]at ho
   exact VI v' w2 hr ho ⟨⟨hg.os,hg.tape,hg.output,hg.size,fun k hk=>hg.block k hk.1 (by simp)⟩⟩
theorem Own.narrow {e:TypeId}(h:Own w Z e A n c l):Own w (fun k=>Z k∧k<w.heap.size) e A n c l:=by
 refine⟨⟨h.own.1,fun a ha=>⟨h.own.2 a ha,?_⟩⟩,h.len⟩
 rcases h.own.1.2 with⟨hv,_⟩ | ⟨g,cap,cur,hv,_,QZ,_⟩
 ·injection hv with hA _ _;rw [hA]at ha;cases ha
 ·injection hv with hA _ _
  rw [hA]at ha;injection ha with ha
  rw [← ha]
  exact Blk.lt (show Blk w g cur e from QZ)
theorem Own.to {e:TypeId}(h:Own w Z e A n c l)(hz:∀k,Z k→k<w.heap.size→Y k):Own w Y e A n c l:=h.narrow.mono fun k hk=>hz k hk.1 hk.2
theorem nd {t ty e:TypeId} {z:Value} {bytes:Nat}(hT:SN P t e z (Enc.size α) bytes) {B:Option Addr} {m d:Nat} {l2:List α}(h2:Rd w Y B m d l2)(QP:m≤9223372036854775807)(SI:m*bytes≤140737488355328)
 {K:Option Addr→Nat→Nat→World→Prop}(hK:∀A' c' w2,Own w2 (fun k=>w.heap.size≤k∧k<w2.heap.size) e A' m c' l2→Pu w w2→K A' m c' w2):
 ∃(A':Option Addr)(n' c':Nat)(w2:World),(Builtin.append_ #[t,t] ty #[.slice none 0 0,.slice B m d]:Sem Value).run P w= .ok (.slice A' n' c') w2∧K A' n' c' w2:=by
 obtain⟨i,hi,hz,ND,hb⟩:=hT.info
 refine Own.apps (Own.nil (w:=w) (Z:=fun k=>w.heap.size≤k)) hT h2 (by omega) (by rw [Nat.zero_add];exact SI) (Nat.le_refl _) (fun A' c' w2 ho hc=>?_) (fun hm hB=>?_)
 ·rw [Nat.zero_add]at ho ⊢
  rw [List.nil_append]at ho
  exact hK A' c' w2 ho.narrow hc.fresh
 ·subst hm hB
  have Qu:l2= []:=List.eq_nil_of_length_eq_zero h2.len
  subst Qu
  exact⟨_,_,_,_,run_append_nothing w t t ty e i hT.und hi none 0 0 (Nat.le_refl _) _ (Src.ofNil _ hT.und d),hK none 0 w Own.nil (Ch.refl _ _)⟩
end
end
end Go.Proofs.YtfmcaoaaiganbaaGreatDoor.V
namespace Go.Proofs.YtfmcaoaaiganbaaGreatDoor.V
open Go Go.RowKit
open Go.IntKind (i64 u32 u64)
section
variable {w w0 w1 w2 A B:World} {X Y Z:Nat→Prop}
theorem Ch.Ib(h:Kept X w A):Ch (fun k=>¬X k) w A:=⟨h.mono fun _ hk=>Classical.not_not.1 hk.2⟩
theorem Pu.join(p:Pu w w0)(d:Kept X w0 A)(j:Ch X w A):Pu w A:=
 ⟨⟨j.kept.os,j.kept.tape,j.kept.output,j.kept.size,fun k hk=>by
  by_cases hx:X k
  ·rw [d.block k hx];exact p.kept.block k hk
  ·exact j.kept.block k ⟨hk.1,hx⟩⟩⟩
theorem Pu.put(w:World)(l:Nat)(o:Obj)(X:Nat→Prop)(hl:X l):Ch X w (w.putObj l o):=⟨Kept.putObj w l o fun h=>h.2 hl⟩
theorem Ch.obj {o:Obj} {g:Nat}(q:Ch X w A)(h:w.heap[g]? =some o)(hg:¬X g):A.heap[g]? =some o:=
 (q.kept.block g ⟨(Array.getElem?_eq_some_iff.1 h).1,hg⟩).trans h
theorem CW {P:Program} {gf:Nat} {cap:Array Value} {xs:List (List Value)} {w:World}(hX:∀k,X k→k<w.heap.size)
 (h:∀(l:Nat)(J Jx:Nat→World→Prop)(W:World),
  (∀i A B,J i A→Ch X A B→J i B)→(∀i A B,Jx i A→Ch X A B→Jx i B)→J 0 W→Kept X w W→
  (∀i x A,xs[i]? =some x→J i A→Kept X w A→YieldAt Fence.wide 0 P l ⟨x⟩ A fun e B=>(e= .returned (.bool true)∧J (i+1) B∧Kept X A B)∨(e= .returned (.bool false)∧Jx (i+1) B∧Kept X A B))→
  Calls P gf (#[.func (.yield l) #[] #[]]++cap) W fun e B=>(∃v,e= .returned v)∧((J xs.length B∧Kept X w B)∨∃i,Jx i B∧Kept X w B)):
 Iter P gf cap xs X (fun _ A=>Kept X w A):=
 ⟨fun _ _ _ a k=>a.trans k,fun l J Jx W sJ sJx j0 d0 hy=>h l J Jx W (fun i A B a q=>sJ i A B a q.kept) (fun i A B a q=>sJx i A B a q.kept) j0 d0 hy⟩
theorem HR {l:Nat} {J:Nat→World→Prop}(h:∀i A B,J i A→Ch (fun k=>X k∨k=l) A B→J i B):ym X l J:=
 fun i A B a k=>h i A B a ⟨k.mono fun _ hk=>⟨hk.1,fun hx=>hk.2 (.inl hx),fun e=>hk.2 (.inr e)⟩⟩
theorem uj {P:Program} {l:Nat} {args:Array Value} {W:World} {R R':Ending→World→Prop}(h:YieldAt Fence.wide 0 P l args W R)(hR:∀e B,R e B→R' e B):YieldAt Fence.wide 0 P l args W R':=by
 obtain⟨fn,tmps,assign,body,h1,h2⟩:=h
 exact⟨fn,tmps,assign,body,h1,h2.mono hR⟩
end
end Go.Proofs.YtfmcaoaaiganbaaGreatDoor.V
namespace Go.Proofs.YtfmcaoaaiganbaaGreatDoor.V
open Go Go.RowKit Go.MapKept
open Go.IntKind (i64 u32 u64)
def ml(w:World)(g:Nat)(l:List (Int×Value)):Prop:=∃es c,w.heap[g]? =some (.map es c)∧es.toList.map (fun e=>(e.key,e.val))=l.map fun p=>(Value.int .u32 p.1,p.2)
def lkF:List (Int×Value)→Int→Option Value
 | [],_=>none
 | (a,v)::r,i=>if i=a then some v else lkF r i
theorem km:∀(l:List MapEntry)(m:List (Int×Value))(i:Int)(n:Nat),l.map (fun e=>(e.key,e.val))=m.map (fun p=>(Value.int .u32 p.1,p.2))→∃k,Instr.findNow (.int .u32) (.int .u32 i) l n=some ((lkF m i).map fun v=>(k,v))
 | [],[],i,n,_=>⟨0,rfl⟩
 | [],_::_,i,n,h=>by simp at h
 | _::_,[],i,n,h=>by simp at h
 | e::l,(a,v)::m,i,n,h=>by
  simp only [List.map_cons,List.cons.injEq,Prod.mk.injEq]at h
  obtain⟨⟨h1,h2⟩,h3⟩:=h
  by_cases hi:i=a
  ·refine⟨n,?_⟩
   simp [Instr.findNow,Instr.sameNow,h1,lkF,hi,h2]
  ·obtain⟨k,hk⟩:=km l m i (n+1) h3
   refine⟨k,?_⟩
   have hb:(i==a)=false:=by simpa using hi
   simp [Instr.findNow,Instr.sameNow,h1,lkF,hi,hk,hb]
theorem CA {P:Program} {w:World} {T K E:TypeId} {z:Value} {g:Nat} {l:List (Int×Value)}(ht:P.underlying T=some (.map K E))(hk:P.underlying K=some (.int .u32))(hz:(zeroValue E).run P w= .ok z w)(h:ml w g l)(i:Int):(Instr.lookup T (.map (some g)) (.int .u32 i) true).run P w= .ok (.tuple #[(lkF l i).getD z,.bool (lkF l i).isSome]) w:=by
 obtain⟨es,c,hb,he⟩:=h
 obtain⟨k,hf⟩:=km es.toList l i 0 he
 have hr:=run_findKey (w:=w) hk hf
 have hc:(Instr.checkKey es.isEmpty 10000 K (.int .u32 i)).run P w= .ok () w:=run_checkKey hk (show IsKey (.int .u32) (.int .u32 i)from rfl) _ _
 cases hl:lkF l i with
 | none=>
  rw [hl]at hr
  simp [Instr.lookup,run_underlying ht,MapKept.run_getObj_map hb,hc,hr,hz,Result.andThen]
 | some v=>
  rw [hl]at hr
  simp [Instr.lookup,run_underlying ht,MapKept.run_getObj_map hb,hc,hr,Result.andThen]
theorem gK {P:Program} {w:World} {T K E:TypeId} {g:Nat} {l:List (Int×Value)} {v:Value}(ht:P.underlying T=some (.map K E))(hk:P.underlying K=some (.int .u32))(h:ml w g l) {i:Int}(hn:lkF l i=none):∃w',(Instr.mapUpdate T (.map (some g)) (.int .u32 i) v).run P w= .ok () w'∧ml w' g (l++ [(i,v)])∧Ch (fun k=>k=g) w w':=by
 obtain⟨es,c,hb,he⟩:=h
 obtain⟨k,hf⟩:=km es.toList l i 0 he
 have hr:=run_findKey (w:=w) hk hf
 have hc:(Instr.checkKey false 10000 K (.int .u32 i)).run P w= .ok () w:=run_checkKey hk (show IsKey (.int .u32) (.int .u32 i)from rfl) _ _
 rw [hn]at hr
 have NO:=(Array.getElem?_eq_some_iff.1 hb).1
 refine⟨{w with heap:=w.heap.setIfInBounds g (.map (es.push {key:= .int .u32 i,val:=v,born:=c}) (c+1))},?_,⟨es.push {key:= .int .u32 i,val:=v,born:=c},c+1,by simp [NO],by simp [he]⟩,?_⟩
 rotate_left
 ·exact⟨⟨rfl,rfl,rfl,by simp,fun k hk=>by simp [show ¬g=k from fun e=>hk.2 e.symm]⟩⟩
 simp [Instr.mapUpdate,run_underlying ht,MapKept.run_getObj_map hb,hc,hr,MapKept.run_setObj_map _ hb,Result.andThen]
theorem ml.ch {w w':World} {g:Nat} {l:List (Int×Value)} {X:Nat→Prop}(h:ml w g l)(q:Ch X w w')(hx:¬X g):ml w' g l:=by
 obtain⟨es,c,hb,he⟩:=h
 exact⟨es,c,(q.kept.block g ⟨(Array.getElem?_eq_some_iff.1 hb).1,hx⟩).trans hb,he⟩
theorem ml.lt {w:World} {g:Nat} {l:List (Int×Value)}(h:ml w g l):g<w.heap.size:=by
 obtain⟨es,c,hb,_⟩:=h
 exact(Array.getElem?_eq_some_iff.1 hb).1
theorem ml.made(w:World):ml (w.alloc (.map #[] 0)) w.heap.size []:=⟨#[],0,(MapKept.heap_alloc w _).1,rfl⟩
end Go.Proofs.YtfmcaoaaiganbaaGreatDoor.V
namespace Go.Proofs.YtfmcaoaaiganbaaGreatDoor.V
open Go Go.RowKit
open Go.IntKind (i64 u32 u64)
open Enc (enc)
section
structure Ls(el:Nat→Type) where
 t:Nat
 A:Option Addr
 c:Nat
 l:List (el t)
inductive FV where
 | v (x:Value) | o (path off:Nat) | l (li:Nat)
def fvV {el:Nat→Type}(r:Nat→Nat)(li:Nat→Option (Ls el)):FV→Option Value
 | .v x=>some x
 | .o p off=>some (.pointer (some ⟨r p,off,none⟩))
 | .l i=>match li i with
  | some L=>some (.slice L.A L.l.length L.c)
  | none=>none
structure Uni where
 ty:Nat→Type
 pred:(t:Nat)→(Nat→Nat)→ty t→(Nat→Prop)→World→Prop
 ch:∀ {t:Nat} {r:Nat→Nat} {s:ty t} {X Y:Nat→Prop} {w w':World},pred t r s X w→Ch Y w w'→(∀k,X k→¬Y k)→pred t r s X w'
 lt:∀ {t:Nat} {r:Nat→Nat} {s:ty t} {X:Nat→Prop} {w:World},pred t r s X w→∀k,X k→k<w.heap.size
 el:Nat→Type
 en:(t:Nat)→Enc (el t)
 df:(t:Nat)→el t
 dec:(t:Nat)→List Value→Option (el t)
 iJ:∀ {t:Nat} {cs:List Value} {x:el t},dec t cs=some x→(en t).enc x=cs
 cd:TypeId→Option Nat
 li:(t:Nat)→(Nat→Nat)→ty t→Nat→Option (Ls el)
 mT:∀ {t:Nat} {r:Nat→Nat} {s:ty t} {X:Nat→Prop} {w:World} {i:Nat} {L:Ls el},pred t r s X w→li t r s i=some L→ @Rd (el L.t) (en L.t) w X L.A L.l.length L.c L.l
 ne:Nat→Nat→Bool
 wE:∀ {t:Nat} {r:Nat→Nat} {s:ty t} {X:Nat→Prop} {w:World} {j i:Nat} {L:Ls el} {x:el L.t},pred t r s X w→ne t j=true→li t r s j=some L→L.l[i]? =some x→∃L':Ls el,li t r s (i+1)=some L'∧(en L.t).enc x= [.slice L'.A L'.l.length L'.c]
 fs:(t:Nat)→(Nat→Nat)→ty t→Nat→Nat→Value→Option (Prop×ty t)
 qC:∀ {t:Nat} {r:Nat→Nat} {s s':ty t} {X:Nat→Prop} {w:World} {path off:Nat} {v:Value} {c:Prop},pred t r s X w→fs t r s path off v=some (c,s')→c→∀ {K:World→Prop},(∀w',pred t r s' X w'→Ch X w w'→K w')→aF w ⟨r path,off,none⟩ [v] K
 st:(t:Nat)→(Nat→Nat)→ty t→Nat→Nat→(tt:Nat)→el tt→Option (Prop×ty t)
 mD:∀ {t:Nat} {r:Nat→Nat} {s s':ty t} {X:Nat→Prop} {w:World} {j i:Nat} {L:Ls el} {x y:el L.t} {off:Nat} {vs:List Value} {c:Prop},pred t r s X w→li t r s j=some L→L.l[i]? =some x→off+vs.length≤(en L.t).size→(en L.t).enc y=((en L.t).enc x).take off++vs++((en L.t).enc x).drop (off+vs.length)→st t r s j i L.t y=some (c,s')→c→∀ {K:World→Prop},(∀w',pred t r s' X w'→Ch X w w'→K w')→aF w (((L.A.getD ⟨0,0,none⟩).add (i*(en L.t).size)).add off) vs K
 iv:Nat→Bool
 inv:(t:Nat)→ty t→Prop
 fV:∀ {t:Nat} {r:Nat→Nat} {s:ty t} {X:Nat→Prop} {w:World},pred t r s X w→inv t s
 fo:(t:Nat)→(Nat→Nat)→ty t→Nat→Nat→Option FV
 qE:∀ {t:Nat} {r:Nat→Nat} {s:ty t} {X:Nat→Prop} {w:World} {path off:Nat} {f:FV} {v:Value},pred t r s X w→fo t r s path off=some f→fvV r (li t r s) f=some v→X (r path)∧w.cell? ⟨r path,off,none⟩=some v
 mp:(t:Nat)→ty t→Option (List (Int×Value))
 wG:∀ {t:Nat} {r:Nat→Nat} {s:ty t} {X:Nat→Prop} {w:World} {l:List (Int×Value)},pred t r s X w→mp t s=some l→ml w (r 0) l
 mko:TypeId→List Value→Option ((t:Nat)×ty t)
 uI:∀ {T:TypeId} {cs:List Value} {q:(t:Nat)×ty t} {w:World} {g:Nat},mko T cs=some q→Blk w g ⟨cs⟩ T→pred q.1 (fun _=>g) q.2 (fun k=>k=g) w
 ix:Nat→Nat→Nat→Option Nat
 oF:∀ {t:Nat} {r:Nat→Nat} {s:ty t} {path off i:Nat} {L:Ls el},ix t path off=some i→li t r s i=some L→L.A=some ⟨r path,off,none⟩
 wl:(t:Nat)→(Nat→Nat)→ty t→Nat→Nat→Nat→Option (Prop×List Value)
 pP:∀ {t:Nat} {r:Nat→Nat} {s:ty t} {X:Nat→Prop} {w:World} {path off n:Nat} {c:Prop} {cs:List Value},pred t r s X w→wl t r s path off n=some (c,cs)→c→X (r path)∧∀j u,cs[j]? =some u→w.cell? ⟨r path,off+j,none⟩=some u
 ws:(t:Nat)→(Nat→Nat)→ty t→Nat→Nat→List Value→Option (Prop×ty t)
 ov:∀ {t:Nat} {r:Nat→Nat} {s s':ty t} {X:Nat→Prop} {w:World} {path off:Nat} {vs:List Value} {c:Prop},pred t r s X w→ws t r s path off vs=some (c,s')→c→∀ {K:World→Prop},(∀w',pred t r s' X w'→Ch X w w'→K w')→aF w ⟨r path,off,none⟩ vs K
instance (U:Uni)(t:Nat):Enc (U.el t):=U.en t
inductive PK where
 | loc (id off:Nat) | obj (id path off:Nat) | sl (id li:Nat) | el (id li:Nat)(i:Int)(off:Nat)
inductive Kn where
 | p (k:PK) | t (l:List (Option PK)) | f (a b:List (Option PK)) | ag (l:List (Option PK)) | pan | w (k:PK)(n:Nat)
inductive Key where
 | s (i:Nat) | c (id off:Nat) | l (id path:Nat)
inductive Res (U:Uni) where
 | blk (g:Nat)(cs:List Value)(T:TypeId)
 | ob (t:Nat)(r:Nat→Nat)(s:U.ty t)
 | lst (t:Nat)(own:Bool)(T:TypeId)(A:Option Addr)(c:Nat)(l:List (U.el t))
structure St(U:Uni) where
 rs:List (Res U)
 kn:List (Key×Kn)
 md:List Nat
def nth {α:Type}:List α→Nat→Option α
 | [],_=>none
 | a::_,0=>some a
 | _::l,n+1=>nth l n
def bR {α:Type}:List α→Nat→α→List α
 | [],_,_=>[]
 | _::l,0,x=>x::l
 | a::l,n+1,x=>a::bR l n x
theorem aR {α:Type}:∀ {l:List α} {i:Nat} {x:α},nth l i=some x→i<l.length
 | _::_,0,_,_=>by simp
 | _::l,i+1,x,h=>by have:=aR (l:=l) h;simp;omega
theorem cm {α:Type}:∀ {l:List α} {i:Nat},i<l.length→∃x,nth l i=some x
 | a::_,0,_=>⟨a,rfl⟩
 | _::l,i+1,h=>cm (l:=l) (by simpa using h)
theorem qs {α:Type}:∀ {l:List α} {i:Nat},l.length≤i→nth l i=none
 | [],_,_=>rfl
 | _::l,i+1,h=>qs (l:=l) (by simpa using h)
@[simp] theorem qe {α:Type}:∀(l:List α)(i:Nat)(x:α),(bR l i x).length=l.length
 | [],_,_=>rfl
 | _::_,0,_=>rfl
 | _::l,i+1,x=>by simp [bR,qe l i x]
theorem aZ {α:Type}:∀(l:List α)(i j:Nat)(x:α),nth (bR l i x) j=if j=i∧i<l.length then some x else nth l j
 | [],i,j,x=>by simp [bR,nth]
 | a::l,0,0,x=>by simp [bR,nth]
 | a::l,0,j+1,x=>by simp [bR,nth]
 | a::l,i+1,0,x=>by simp [bR,nth]
 | a::l,i+1,j+1,x=>by simp [bR,nth,aZ l i j x]
theorem bu {α:Type}:∀(l m:List α)(i:Nat),nth (l++m) i=if i<l.length then nth l i else nth m (i - l.length)
 | [],m,i=>by simp
 | a::l,m,0=>by simp [nth]
 | a::l,m,i+1=>by simp [nth,bu l m i]
theorem aK {α:Type}:∀(l:List α)(i:Nat),nth l i=l[i]?
 | [],_=>rfl
 | _::_,0=>rfl
 | _::l,i+1=>by simp [nth,aK l i]
section
variable {U:Uni}
def elA(U:Uni)(t:Nat)(A:Option Addr)(i:Int)(off:Nat):Addr:=((A.getD ⟨0,0,none⟩).add (i.toNat *(U.en t).size)).add off
def uS:List (Res U)→Prop→Prop
 | [],F=>F
 | .ob t _ s::l,F=>match U.iv t with
  | true=>U.inv t s→uS l F
  | false=>uS l F
 | _::l,F=>uS l F
def nmL:List (Res U)→List Nat→(List (Res U)→Prop)→Prop
 | rs,[],F=>F rs
 | rs,i::l,F=>match nth rs i with
  | some (.ob t r s)=>∀s':U.ty t,s'=s→(match U.iv t with
   | true=>U.inv t s'→nmL (bR rs i (.ob t r s')) l F
   | false=>nmL (bR rs i (.ob t r s')) l F)
  | some (.lst t own T A c x)=>∀x':List (U.el t),x'=x→nmL (bR rs i (.lst t own T A c x')) l F
  | _=>nmL rs l F
def upto:Nat→Nat→List Nat
 | _,0=>[]
 | n,k+1=>n::upto (n+1) k
def EV(rs:List (Res U)):List Nat→List (Res U)
 | []=>[]
 | i::l=>match nth rs i with
  | some r=>r::EV rs l
  | none=>EV rs l
def fg:Res U→Nat→Option (Ls U.el)
 | .lst t _ _ A c l,_=>some ⟨t,A,c,l⟩
 | .ob t r s,i=>U.li t r s i
 | _,_=>none
def bK(U:Uni):PK→Option (Res U)→Option Value
 | .loc _ off,some (.blk g _ _)=>some (.pointer (some ⟨g,off,none⟩))
 | .obj _ path off,some (.ob _ r _)=>some (.pointer (some ⟨r path,off,none⟩))
 | .sl _ li,some r=>(match fg r li with
  | some L=>some (.slice L.A L.l.length L.c)
  | none=>none)
 | .el _ li i off,some r=>(match fg r li with
  | some L=>if 0≤i∧i<L.l.length then some (.pointer (some (elA U L.t L.A i off)))else none
  | none=>none)
 | _,_=>none
def PK.id:PK→Nat
 | .loc i _=>i
 | .obj i _ _=>i
 | .sl i _=>i
 | .el i _ _ _=>i
def den(U:Uni)(rs:List (Res U))(k:PK):Option Value:=bK U k (nth rs k.id)
def g9(rs:List (Res U))(v:Value):Kn→Prop
 | .p k=>den U rs k=some v
 | .t l=>∃vs,v= .tuple vs∧∀j k,nth l j=some (some k)→∃u,vs[j]? =some u∧den U rs k=some u
 | .pan=>False
 | .w k n=>∃a c,den U rs k=some (.pointer (some a))∧v= .slice (some a) n c
 | .ag l=>∃cs,v= .agg cs∧∀j k,nth l j=some (some k)→∃u,cs[j]? =some u∧den U rs k=some u
 | .f a b=>∃f fs cs,v= .func f fs cs∧(a.length=fs.size∧b.length=cs.size)∧(∀j k,nth a j=some (some k)→∃u,fs[j]? =some u∧den U rs k=some u)∧(∀j k,nth b j=some (some k)→∃u,cs[j]? =some u∧den U rs k=some u)
def KnO(rs:List (Res U))(v:Value):Option Kn→Prop
 | none=>True
 | some k=>g9 rs v k
def ej(rs:List (Res U))(fr:Fr):Key→Kn→Prop
 | .s i,k=>g9 rs (lk fr.g i fr.e) k
 | .c id off,k=>∃g cs T v,nth rs id=some (.blk g cs T)∧nth cs off=some v∧g9 rs v k
 | .l id path,k=>∃t r s,nth rs id=some (.ob t r s)∧g9 rs (.pointer (some ⟨r path,0,none⟩)) k
def aE(rs:List (Res U))(fr:Fr)(kn:List (Key×Kn)):Prop:=∀key k,(key,k)∈kn→ej rs fr key k
def RS(X:Nat→Prop)(w:World):Res U→Prop
 | .blk g cs T=>X g∧(∀k,X k→k=g)∧Blk w g ⟨cs⟩ T
 | .ob t r s=>U.pred t r s X w
 | .lst _ true T A c l=>Own w X T A l.length c l∧∀k,X k→k<w.heap.size
 | .lst _ false _ A c l=>Rd w X A l.length c l
theorem RS.lt {X:Nat→Prop} {w:World} {r:Res U}(h:RS X w r):∀k,X k→k<w.heap.size:=by
 cases r with
 | blk g cs T=>intro k hk;rw [h.2.1 k hk];exact h.2.2.lt
 | ob t r s=>exact U.lt h
 | lst t own T A c l=>cases own;exact(show Rd w X A l.length c l from h).lt;exact h.2
theorem RS.ch {X Y:Nat→Prop} {w w':World} {r:Res U}(h:RS X w r)(q:Ch Y w w')(hb:∀k,X k→¬Y k):RS X w' r:=by
 cases r with
 | blk g cs T=>exact⟨h.1,h.2.1,q.blk h.2.2 (hb g h.1)⟩
 | ob t r s=>exact U.ch h q hb
 | lst t own T A c l=>
  cases own
  ·exact(show Rd w X A l.length c l from h).ch q hb
  ·exact⟨h.1.ch q hb,fun k hk=>Nat.lt_of_lt_of_le (h.2 k hk) q.size⟩
theorem iW:∀ {l:List (Res U)} {F:Prop},(∀r,r∈l→∃(X:Nat→Prop)(w:World),RS X w r)→uS l F→F
 | [],F,_,h=>h
 | .ob t r s::l,F,hl,h=>by
  unfold uS at h
  have hr:=fun x hx=>hl x (List.mem_cons_of_mem _ hx)
  split at h
  ·obtain⟨X,w,hw⟩:=hl _ (List.mem_cons_self ..)
   exact iW hr (h (U.fV hw))
  ·exact iW hr h
 | .blk _ _ _::l,F,hl,h=>iW (l:=l) (fun x hx=>hl x (List.mem_cons_of_mem _ hx)) h
 | .lst _ _ _ _ _ _::l,F,hl,h=>iW (l:=l) (fun x hx=>hl x (List.mem_cons_of_mem _ hx)) h
theorem nL {α:Type}:∀ {l:List α} {i:Nat} {x:α},nth l i=some x→bR l i x=l
 | [],_,_,h=>by simp [nth]at h
 | a::l,0,x,h=>by simp [nth]at h;subst h;rfl
 | a::l,i+1,x,h=>by simp only [bR];rw [nL (l:=l) h]
theorem kY {rs:List (Res U)}(hr:∀i r,nth rs i=some r→∃(X:Nat→Prop)(w:World),RS X w r):∀ {l:List Nat} {F:List (Res U)→Prop},nmL rs l F→F rs
 | [],F,h=>h
 | i::l,F,h=>by
  unfold nmL at h
  split at h
  ·rename_i t r s hn
   have h:=h s rfl
   rw [nL hn]at h
   split at h
   ·obtain⟨X,w,hw⟩:=hr i _ hn
    exact kY hr (h (U.fV hw))
   ·exact kY hr h
  ·rename_i t own T A c x hn
   have h:=h x rfl
   rw [nL hn]at h
   exact kY hr h
  ·exact kY hr h
theorem qg {rs:List (Res U)} {r:Res U}:∀ {l:List Nat},r∈EV rs l→∃i,nth rs i=some r
 | i::l,h=>by
  unfold EV at h
  split at h
  ·rename_i x hx
   rcases List.mem_cons.1 h with e | h
   ·exact⟨i,by rw [hx,e]⟩
   ·exact qg h
  ·exact qg h
structure Sat(rs:List (Res U))(X:Nat→Nat→Prop)(w:World):Prop where
 res:∀i r,nth rs i=some r→RS (X i) w r
 dis:∀i j,i<rs.length→j<rs.length→i≠j→∀k,X i k→¬X j k
theorem Sat.lt {rs:List (Res U)} {X:Nat→Nat→Prop} {w:World}(h:Sat rs X w) {i:Nat}(hi:i<rs.length):∀k,X i k→k<w.heap.size:=by
 obtain⟨r,hr⟩:=cm hi
 exact(h.res i r hr).lt
structure Inv(w0:World)(k0:Nat)(X0:Nat→Nat→Prop)(may:List Nat)(rs:List (Res U))(X:Nat→Nat→Prop)(w:World):Prop where
 sat:Sat rs X w
 ch:Ch (fun k=>∃j,j∈may∧X0 j k) w0 w
 old:∀i,i<k0→∀k,X i k→X0 i k∨w0.heap.size≤k
 new:∀i,k0≤i→i<rs.length→∀k,X i k→w0.heap.size≤k
 len:k0≤rs.length
variable {w0:World} {k0:Nat} {X0:Nat→Nat→Prop} {may:List Nat} {rs:List (Res U)} {X:Nat→Nat→Prop} {w w':World}
theorem Inv.step(h:Inv w0 k0 X0 may rs X w)(M:List Nat)(q:Ch (fun k=>∃j,j∈M∧X j k) w w')(hM:∀j,j∈M→j<rs.length∧(j∈may∨k0≤j)) {rs':List (Res U)} {X':Nat→Nat→Prop}(hl:rs.length≤rs'.length)
 (hs:∀i,i<rs.length→i ∉ M→nth rs' i=nth rs i∧X' i=X i)
 (hm:∀i,(i∈M∨rs.length≤i)→∀r,nth rs' i=some r→RS (X' i) w' r)
 (hx:∀i,i∈M→∀k,X' i k→X i k∨w.heap.size≤k)(hn:∀i,rs.length≤i→i<rs'.length→∀k,X' i k→w.heap.size≤k)
 (hd:∀i j,(i∈M∨rs.length≤i)→(j∈M∨rs.length≤j)→i≠j→i<rs'.length→j<rs'.length→∀k,X' i k→¬X' j k):Inv w0 k0 X0 may rs' X' w':=by
 have hw:=h.ch.size
 have low:∀i,i<rs.length→i ∉ M→∀k,X' i k→k<w.heap.size:=fun i hi hm k hk=>h.sat.lt hi k (by rw [(hs i hi hm).2]at hk;exact hk)
 have apart:∀i j,i<rs.length→i ∉ M→(j∈M∨rs.length≤j)→j<rs'.length→i≠j→∀k,X' i k→¬X' j k:=by
  intro i j hi hmi hj Wx Og k hk Ol
  have hl:=low i hi hmi k hk
  rw [(hs i hi hmi).2]at hk
  by_cases VF:j∈M
  ·rcases hx j VF k Ol with h1 | h1
   ·exact h.sat.dis i j hi (hM j VF).1 Og k hk h1
   ·omega
  ·have:=hn j (by rcases hj with hj | hj;exact absurd hj VF;exact hj) Wx k Ol
   omega
 refine⟨⟨fun i r hr=>?_,fun i j hi hj Og k hk=>?_⟩,?_,fun i hi k hk=>?_,fun i hi hil k hk=>?_,Nat.le_trans h.len hl⟩
 ·by_cases hc:i<rs.length∧i ∉ M
  ·obtain⟨e1,e2⟩:=hs i hc.1 hc.2
   rw [e1]at hr
   rw [e2]
   exact(h.sat.res i r hr).ch q fun k hk ⟨j,hj,Ol⟩=>h.sat.dis i j hc.1 (hM j hj).1 (fun e=>hc.2 (e▸hj)) k hk Ol
  ·exact hm i (by by_cases hi:i∈M;exact .inl hi;exact .inr (Nat.le_of_not_lt fun hh=>hc ⟨hh,hi⟩)) r hr
 ·by_cases Xe:i<rs.length∧i ∉ M
  ·by_cases VK:j<rs.length∧j ∉ M
   ·rw [(hs i Xe.1 Xe.2).2]at hk
    rw [(hs j VK.1 VK.2).2]
    exact h.sat.dis i j Xe.1 VK.1 Og k hk
   ·exact apart i j Xe.1 Xe.2 (by by_cases hi:j∈M;exact .inl hi;exact .inr (Nat.le_of_not_lt fun hh=>VK ⟨hh,hi⟩)) hj Og k hk
  ·have Oy:i∈M∨rs.length≤i:=by by_cases hi:i∈M;exact .inl hi;exact .inr (Nat.le_of_not_lt fun hh=>Xe ⟨hh,hi⟩)
   by_cases VK:j<rs.length∧j ∉ M
   ·exact fun Ol=>apart j i VK.1 VK.2 Oy hi (Ne.symm Og) k Ol hk
   ·exact hd i j Oy (by by_cases hi:j∈M;exact .inl hi;exact .inr (Nat.le_of_not_lt fun hh=>VK ⟨hh,hi⟩)) Og hi hj k hk
 ·refine h.ch.call q ?_
  rintro k ⟨j,hj,hk⟩
  obtain⟨h1,h2⟩:=hM j hj
  rcases Nat.lt_or_ge j k0 with hc | hc
  ·rcases h2 with h2 | h2
   ·exact(h.old j hc k hk).imp (fun hh=>⟨j,h2,hh⟩) id
   ·omega
  ·exact .inr (h.new j hc h1 k hk)
 ·by_cases QK:i∈M
  ·rcases hx i QK k hk with h1 | h1
   ·exact h.old i hi k h1
   ·exact .inr (Nat.le_trans hw h1)
  ·rw [(hs i (Nat.lt_of_lt_of_le hi h.len) QK).2]at hk
   exact h.old i hi k hk
 ·by_cases hc:i<rs.length
  ·by_cases QK:i∈M
   ·rcases hx i QK k hk with h1 | h1
    ·exact h.new i hi hc k h1
    ·exact Nat.le_trans hw h1
   ·rw [(hs i hc QK).2]at hk
    exact h.new i hi hc k hk
  ·exact Nat.le_trans hw (hn i (Nat.le_of_not_lt hc) hil k hk)
def jr(X:Nat→Nat→Prop)(i:Nat)(Z:Nat→Prop):Nat→Nat→Prop:=fun j=>if j=i then Z else X j
theorem updX_eq(X:Nat→Nat→Prop)(i:Nat)(Z:Nat→Prop):jr X i Z i=Z:=if_pos rfl
theorem ic(X:Nat→Nat→Prop) {i j:Nat}(Z:Nat→Prop)(h:j≠i):jr X i Z j=X j:=if_neg h
theorem Inv.pu(h:Inv w0 k0 X0 may rs X w)(q:Pu w w'):Inv w0 k0 X0 may rs X w':=
 h.step [] (q.mono fun _ h=>h.elim) (fun j hj=>by cases hj) (Nat.le_refl _) (fun i _ _=>⟨rfl,rfl⟩) (fun i hi r hr=>by
  rcases hi with hi | hi
  ·cases hi
  ·have:=aR hr;omega) (fun i hi=>by cases hi) (fun i h1 h2=>by omega) (fun i j hi hj _ h1 _=>by
  rcases hi with hi | hi
  ·cases hi
  ·omega)
theorem Inv.more(h:Inv w0 k0 X0 may rs X w)(q:Pu w w') {r:Res U} {Z:Nat→Prop}(hr:RS Z w' r)(hz:∀k,Z k→w.heap.size≤k):Inv w0 k0 X0 may (rs++ [r]) (jr X rs.length Z) w':=
 h.step [] (q.mono fun _ h=>h.elim) (fun j hj=>by cases hj) (by simp) (fun i hi _=>⟨by rw [bu,if_pos hi],ic _ _ (by omega)⟩) (fun i hi r' Nr=>by
  rcases hi with hi | hi
  ·cases hi
  ·have h1:=aR Nr
   simp at h1
   obtain rfl:i=rs.length:=by omega
   rw [bu,if_neg (by omega),Nat.sub_self]at Nr
   obtain rfl:r=r':=by simpa [nth]using Nr
   rw [updX_eq];exact hr) (fun i hi=>by cases hi) (fun i h1 h2 k hk=>by
  simp at h2
  obtain rfl:i=rs.length:=by omega
  rw [updX_eq]at hk
  exact hz k hk) (fun i j hi hj Og h1 h2=>by
  simp at h1 h2
  rcases hi with hi | hi
  ·cases hi
  ·rcases hj with hj | hj
   ·cases hj
   ·omega)
theorem Inv.set(h:Inv w0 k0 X0 may rs X w) {i:Nat}(hi:i<rs.length)(ha:i∈may∨k0≤i)(q:Ch (X i) w w') {r:Res U} {Z:Nat→Prop}(hr:RS Z w' r)(hz:∀k,Z k→X i k∨w.heap.size≤k):Inv w0 k0 X0 may (bR rs i r) (jr X i Z) w':=
 h.step [i] (q.mono fun k hk=>⟨i,by simp,hk⟩) (fun j hj=>by simp at hj;subst hj;exact⟨hi,ha⟩) (by simp) (fun j hj Oq=>by
  simp at Oq
  exact⟨by rw [aZ,if_neg (by rintro⟨e,_⟩;exact Oq e)],ic _ _ Oq⟩) (fun j hj r' Nr=>by
  have h1:=aR Nr
  simp at h1 hj
  obtain rfl:j=i:=by omega
  rw [aZ,if_pos ⟨rfl,hi⟩]at Nr
  injection Nr with Nr
  subst Nr
  rw [updX_eq];exact hr) (fun j hj k hk=>by
  simp at hj;subst hj;rw [updX_eq]at hk;exact hz k hk) (fun j h1 h2=>by simp at h2;omega) (fun j l hj hl Wx h1 h2=>by
  simp at hj hl h1 h2
  omega)
end
end
section
def PK.eq:PK→PK→Bool
 | .loc a b,.loc x y=>Nat.beq a x && Nat.beq b y
 | .obj a b c,.obj x y z=>Nat.beq a x && (Nat.beq b y && Nat.beq c z)
 | .sl a b,.sl x y=>Nat.beq a x && Nat.beq b y
 | _,_=>false
def Kn.eq:Kn→Kn→Bool
 | .p a,.p b=>a.eq b
 | _,_=>false
def Key.eq:Key→Key→Bool
 | .s a,.s b=>Nat.beq a b
 | .c a b,.c x y=>Nat.beq a x && Nat.beq b y
 | .l a b,.l x y=>Nat.beq a x && Nat.beq b y
 | _,_=>false
def cA(key:Key):List (Key×Kn)→Option Kn
 | []=>none
 | (a,k)::r=>match a.eq key with
  | true=>some k
  | false=>cA key r
def dF(f:Key→Kn→Bool):List (Key×Kn)→List (Key×Kn)
 | []=>[]
 | (a,k)::r=>match f a k with
  | true=>(a,k)::dF f r
  | false=>dF f r
def wS(key:Key)(o:Option Kn)(l:List (Key×Kn)):List (Key×Kn):=
 match o with
 | none=>dF (fun a _=>!(a.eq key)) l
 | some k=>(key,k)::dF (fun a _=>!(a.eq key)) l
def Key.pB(id off n:Nat):Key→Bool
 | .c i o=>Nat.beq i id && (Nat.ble off o && Nat.blt o (off+n))
 | _=>false
def PK.ofList(id:Nat):PK→Bool
 | .sl i _=>Nat.beq i id
 | .el i _ _ _=>Nat.beq i id
 | _=>false
def tn(id:Nat):Option PK→Bool
 | none=>false
 | some k=>k.ofList id
def ly {α:Type}(f:α→Bool):List α→Bool
 | []=>false
 | a::r=>match f a with
  | true=>true
  | false=>ly f r
def Kn.ofList(id:Nat):Kn→Bool
 | .p k=>k.ofList id
 | .t l=>ly (tn id) l
 | .ag l=>ly (tn id) l
 | .pan=>false
 | .w k _=>k.ofList id
 | .f a b=>match ly (tn id) a with
  | true=>true
  | false=>ly (tn id) b
def Ld:Option Kn→Nat→Option PK
 | some (.ag l),i=>(match nth l i with
  | some o=>o
  | none=>none)
 | _,_=>none
def uW(id:Nat):Nat→List (Option PK)→List (Key×Kn)
 | _,[]=>[]
 | o,none::r=>uW id (o+1) r
 | o,some p::r=>(.c id o,.p p)::uW id (o+1) r
def cellsOf(id off:Nat)(sc:Bool):Option Kn→List (Key×Kn)
 | none=>[]
 | some .pan=>[]
 | some (.w _ _)=>[]
 | some (.ag l)=>uW id off l
 | some (.p p)=>(match sc with
  | true=>[(.c id off,.p p)]
  | false=>[])
 | some (.t l)=>(match sc with
  | true=>[(.c id off,.t l)]
  | false=>[])
 | some (.f a b)=>(match sc with
  | true=>[(.c id off,.f a b)]
  | false=>[])
def iG:Option Kn→Option PK
 | some (.p k)=>some k
 | _=>none
def kf(kn:List (Key×Kn)):Operand→Option Kn
 | .tmp t=>cA (.s t) kn
 | _=>none
inductive CP where
 | int (k:IntKind) | bool | str | any | hdr | nsl | nil | fn (k:Nat) | ptr (j:Nat) | obj (j path:Nat) | sl (j:Nat)
def CP.T:CP→Type→Type
 | .int _,T=>Int→T
 | .bool,T=>Bool→T
 | .str,T=>ByteArray→T
 | .any,T=>Value→T
 | .hdr,T=>Option Addr→Nat→Nat→T
 | _,T=>T
def AU:List CP→Type→Type
 | [],T=>T
 | c::l,T=>c.T (AU l T)
inductive AP where
 | one (c:CP) | agg (l:List CP) | enc (tt:Nat)
def AP.T(U:Uni):AP→Type→Type
 | .one c,T=>c.T T
 | .agg l,T=>AU l T
 | .enc tt,T=>U.el tt→T
def A5(U:Uni):List AP→Type→Type
 | [],T=>T
 | a::l,T=>a.T U (A5 U l T)
inductive RP where
 | ob (t:Nat)(lk:List (Nat×Nat×Nat)) | blk (l:List CP)(T:TypeId) | lst (t:Nat)(own:Bool)(T:TypeId)
def RP.T(U:Uni):RP→Type→Type
 | .ob t _,T=>(Nat→Nat)→U.ty t→T
 | .blk l _,T=>Nat→AU l T
 | .lst t _ _,T=>Option Addr→Nat→List (U.el t)→T
def DQ(U:Uni):List RP→Type→Type
 | [],T=>T
 | p::l,T=>p.T U (DQ U l T)
inductive Upd (U:Uni) where
 | ob (t:Nat)(s:U.ty t) | blk (cs:List Value) | lst (t:Nat)(A:Option Addr)(c:Nat)(l:List (U.el t))
structure Ou(U:Uni) where
 res:Value
 kr:Option Kn
 upd:List (Upd U)
 news:List (Res U)
 kc:List (Key×Kn)
structure Ctr(U:Uni) where
 args:List AP
 imp:List (Nat×Nat)
 res:List RP
 bE:List Nat
 body:A5 U args (DQ U res ((Ou U→Prop)→Prop))
structure Tb(U:Uni) where
 c:Nat→Option (Ctr U)
 sh:Sh
 al:List (Nat×List PK×List PK)
abbrev Th:=List (Nat×Nat)
def cz:Th→Nat→Option Nat
 | [],_=>none
 | (j,i)::r,k=>match Nat.beq j k with
  | true=>some i
  | false=>cz r k
def lR(j id:Nat)(θ:Th)(F:Th→Prop):Prop:=
 match cz θ j with
 | none=>F ((j,id)::θ)
 | some i=>match Nat.beq i id with
  | true=>F θ
  | false=>False
def apC {T:Type}:(c:CP)→c.T T→Value→Option PK→Th→(T→Th→Prop)→Prop
 | .int k,J,v,_,θ,F=>match v with
  | .int k' x=>match kEq k k' with
   | true=>F (J x) θ
   | false=>False
  | _=>False
 | .bool,J,v,_,θ,F=>match v with
  | .bool x=>F (J x) θ
  | _=>False
 | .str,J,v,_,θ,F=>match v with
  | .string x=>F (J x) θ
  | _=>False
 | .any,J,v,_,θ,F=>F (J v) θ
 | .hdr,J,v,_,θ,F=>match v with
  | .slice A n c=>F (J A n c) θ
  | _=>False
 | .nsl,J,v,_,θ,F=>match v with
  | .slice none 0 0=>F J θ
  | _=>False
 | .nil,J,v,_,θ,F=>match v with
  | .pointer none=>F J θ
  | _=>False
 | .fn f,J,v,_,θ,F=>match v with
  | .func (.func f') ⟨[]⟩ ⟨[]⟩=>(match Nat.beq f f' with
   | true=>F J θ
   | false=>False)
  | _=>False
 | .ptr j,J,_,k,θ,F=>match k with
  | some (.loc id 0)=>lR j id θ (F J)
  | _=>False
 | .obj j path,J,_,k,θ,F=>match k with
  | some (.obj id p 0)=>match Nat.beq p path with
   | true=>lR j id θ (F J)
   | false=>False
  | _=>False
 | .sl j,J,_,k,θ,F=>match k with
  | some (.sl id 0)=>lR j id θ (F J)
  | _=>False
def IK {T:Type}:(l:List CP)→AU l T→List Value→(Nat→Option PK)→Nat→Th→(T→Th→Prop)→Prop
 | [],J,[],_,_,θ,F=>F J θ
 | c::l,J,v::vs,kc,i,θ,F=>apC c J v (kc i) θ fun J' θ'=>IK l J' vs kc (i+1) θ' F
 | _,_,_,_,_,_,_=>False
def apA {U:Uni} {T:Type}:(a:AP)→a.T U T→Value→Option Kn→Th→(T→Th→Prop)→Prop
 | .one c,J,v,k,θ,F=>apC c J v (iG k) θ F
 | .agg l,J,v,k,θ,F=>match v with
  | .agg cs=>IK l J cs.toList (Ld k) 0 θ F
  | _=>False
 | .enc tt,J,v,_,θ,F=>match v with
  | .agg cs=>(match U.dec tt cs.toList with
   | some x=>F (J x) θ
   | none=>False)
  | _=>False
def xN {U:Uni} {T:Type}:(l:List AP)→A5 U l T→List Value→List (Option Kn)→Th→(T→Th→Prop)→Prop
 | [],J,[],_,θ,F=>F J θ
 | a::l,J,v::vs,k::ks,θ,F=>apA a J v k θ fun J' θ'=>xN l J' vs ks θ' F
 | _,_,_,_,_,_=>False
def IJ:List (Nat×Nat×Nat)→(Nat→Option PK)→Th→(Th→Prop)→Prop
 | [],_,θ,F=>F θ
 | (p,j,q)::l,kl,θ,F=>match kl p with
  | some (.obj i q' 0)=>(match Nat.beq q' q with
   | true=>lR j i θ fun θ'=>IJ l kl θ' F
   | false=>False)
  | _=>False
def apR {U:Uni} {T:Type}:(p:RP)→p.T U T→Option (Res U)→(Nat→Option PK)→(Nat→Option PK)→Th→(T→Th→Prop)→Prop
 | .ob t lk,J,some (.ob t' r s),_,kl,θ,F=>if h:t'=t then IJ lk kl θ fun θ'=>F (J r (h▸s)) θ' else False
 | .blk l T,J,some (.blk g cs T'),kc,_,θ,F=>match Nat.beq T' T with
  | true=>IK l (J g) cs kc 0 θ F
  | false=>False
 | .lst t own T,J,some (.lst t' own' T' A c l),_,_,θ,F=>match (!own || (own' && Nat.beq T' T))with
  | true=>if h:t'=t then F (J A c (h▸l)) θ else False
  | false=>False
 | _,_,_,_,_,_,_=>False
def IG {U:Uni} {T:Type}(rs:List (Res U))(kn:List (Key×Kn)):(l:List RP)→DQ U l T→Nat→Th→(T→Th→Prop)→Prop
 | [],J,_,θ,F=>F J θ
 | p::l,J,j,θ,F=>match cz θ j with
  | some id=>apR p J (nth rs id) (fun o=>iG (cA (.c id o) kn)) (fun p=>iG (cA (.l id p) kn)) θ fun J' θ'=>IG rs kn l J' (j+1) θ' F
  | none=>False
def zQ {U:Uni}(t:Nat):List (Res U)→Nat→Option Nat
 | [],_=>none
 | .ob t' _ _::r,i=>match zQ t r (i+1)with
  | some j=>some j
  | none=>match Nat.beq t' t with
   | true=>some i
   | false=>none
 | _::r,i=>zQ t r (i+1)
def BY {U:Uni}(rs:List (Res U)):List (Nat×Nat)→Th→(Th→Prop)→Prop
 | [],θ,F=>F θ
 | (j,t)::l,θ,F=>match zQ t rs 0 with
  | some id=>lR j id θ fun θ'=>BY rs l θ' F
  | none=>False
def ke(x:Nat):List Nat→Bool
 | []=>false
 | y::r=>match Nat.beq y x with
  | true=>true
  | false=>ke x r
def nU:List Nat→Bool
 | []=>true
 | x::r=>match ke x r with
  | true=>false
  | false=>nU r
def gP {α β:Type}(f:α→Option β):List α→Option (List β)
 | []=>some []
 | a::r=>match f a,gP f r with
  | some b,some bs=>some (b::bs)
  | _,_=>none
def cQ {U:Uni}:Res U→Upd U→Option (Res U)
 | .ob t r _,.ob t' s'=>if h:t'=t then some (.ob t r (h▸s'))else none
 | .blk g cs T,.blk cs'=>match Nat.beq cs'.length cs.length with
  | true=>some (.blk g cs' T)
  | false=>none
 | .lst t own T _ _ _,.lst t' A c l=>if h:t'=t then some (.lst t own T A c (h▸l))else none
 | _,_=>none
def bJ {U:Uni}:List (Res U)→List Nat→List (Upd U)→Option (List (Res U))
 | rs,[],[]=>some rs
 | rs,i::is,u::us=>match nth rs i with
  | some r=>match cQ r u with
   | some r'=>bJ (bR rs i r') is us
   | none=>none
  | none=>none
 | _,_,_=>none
def dO:List Nat→List (Key×Kn)→List (Key×Kn)
 | [],kn=>kn
 | i::r,kn=>dO r (dF (fun a k=>!(k.ofList i) && (match a with | .c id _=>!(Nat.beq id i) | _=>true)) kn)
def Bd(θ:Th)(k n:Nat)(j:Nat):Option Nat:=
 match Nat.blt j k with
 | true=>cz θ j
 | false=>some (n+(j - k))
def PK.ren(f:Nat→Option Nat):PK→Option PK
 | .loc i o=>(f i).map (.loc · o)
 | .obj i p o=>(f i).map (.obj · p o)
 | .sl i l=>(f i).map (.sl · l)
 | .el i l x o=>(f i).map (.el · l x o)
def qo(f:Nat→Option Nat):Option PK→Option PK
 | none=>none
 | some k=>k.ren f
def Uni.ix1(U:Uni)(rs:List (Res U))(id path off:Nat):Option Nat:=match nth rs id with
 | some (.ob tt _ _)=>U.ix tt path off
 | _=>none
def aI {α β:Type}(f:α→β):List α→List β
 | []=>[]
 | a::r=>f a::aI f r
def Kn.ren(f:Nat→Option Nat):Kn→Option Kn
 | .p k=>(k.ren f).map .p
 | .t l=>some (.t (aI (qo f) l))
 | .ag l=>some (.ag (aI (qo f) l))
 | .f a b=>some (.f (aI (qo f) a) (aI (qo f) b))
 | .pan=>some .pan
 | .w k n=>(k.ren f).map (.w · n)
def BH(f:Nat→Option Nat):Option Kn→Option Kn
 | none=>none
 | some k=>k.ren f
def jQ(f:Nat→Option Nat):List (Key×Kn)→List (Key×Kn)
 | []=>[]
 | (.c i o,k)::r=>match f i,k.ren f with
  | some i',some k'=>(.c i' o,k')::jQ f r
  | _,_=>jQ f r
 | (.l i o,k)::r=>match f i,k.ren f with
  | some i',some k'=>(.l i' o,k')::jQ f r
  | _,_=>jQ f r
 | _::r=>jQ f r
section
variable (U:Uni)(P:Program)(tbl:Tb U)(may:List Nat)(k0:Nat)
abbrev dz:=Value→Option Kn→St U→Prop
def jU(i:Nat):Bool:=match Nat.ble k0 i with
 | true=>true
 | false=>ke i may
def iK {α:Type}(f:α→Bool):List α→Bool
 | []=>true
 | a::r=>match f a with
  | true=>iK f r
  | false=>false
def KO(c:Ctr U):Bool:=iK (fun j=>match nth c.res j with
 | some (.lst _ own _)=>own
 | some _=>true
 | none=>false) c.bE
def call2(f:Nat)(args:List Value)(ks:List (Option Kn))(st:St U)(K:dz U):Prop:=
 match tbl.c f with
 | none=>False
 | some c=>xN c.args c.body args ks [] fun B θ=>BY st.rs c.imp θ fun θ=>IG st.rs st.kn c.res B 0 θ fun B θ=>
  match nU (aI (·.2) θ) && (iK (fun p=>Nat.blt p.1 c.res.length) θ && KO U c),gP (cz θ) c.bE with
  | true,some M=>(match iK (jU may k0) M with
   | true=>B fun out=>match bJ st.rs M out.upd with
    | some rs'=>nmL (rs'++out.news) (M++upto rs'.length out.news.length) fun Oc=>K out.res (BH (Bd θ c.res.length st.rs.length) out.kr) ⟨Oc,jQ (Bd θ c.res.length st.rs.length) out.kc++dO M st.kn,M++st.md⟩
    | none=>False
   | false=>False)
  | _,_=>False
def eW {α:Type}:List α→Nat→List α→List α
 | cs,_,[]=>cs
 | cs,o,v::r=>eW (bR cs o v) (o+1) r
def ig {α:Type}:Nat→List α→List α
 | 0,_=>[]
 | _,[]=>[]
 | n+1,a::r=>a::ig n r
def ko {α:Type}:Nat→List α→List α
 | 0,l=>l
 | _,[]=>[]
 | n+1,_::r=>ko n r
def il(t:TypeId)(cs:List Value)(off:Nat):Option Value:=
 match qT P t (qd (cY P t)) && (hasType P t && (Nat.beq (fT (cY P t)) (aP P t) && Nat.ble (off+aP P t) cs.length))with
 | true=>(match cY P t with
  | .one _=>nth cs off
  | .agg l=>some (.agg ⟨ig l.length (ko off cs)⟩)
  | .row n=>some (.agg ⟨ig n (ko off cs)⟩))
 | false=>none
def j2(t:TypeId):Bool:=match cY P t with
 | .one _=>true
 | _=>false
def eZ {α:Type}(o:Option α)(F:α→Prop):Prop:=match o with
 | some a=>F a
 | none=>False
def fvK(kn:List (Key×Kn))(id:Nat):FV→Option Kn
 | .v _=>none
 | .o p 0=>(match cA (.l id p) kn with
  | some k=>some k
  | none=>some (.p (.obj id p 0)))
 | .o p off=>some (.p (.obj id p off))
 | .l i=>some (.p (.sl id i))
def upN:Nat→Nat→List Nat
 | _,0=>[]
 | n,k+1=>n::upN (n+1) k
def isK:Option PK→Bool
 | some _=>true
 | none=>false
def zV(id off:Nat)(kn:List (Key×Kn))(v:Value):Option Kn:=
 match v with
 | .agg cs=>(match ly isK (aI (fun j=>iG (cA (.c id (off+j)) kn)) (upN 0 cs.toList.length))with
  | true=>some (.ag (aI (fun j=>iG (cA (.c id (off+j)) kn)) (upN 0 cs.toList.length)))
  | false=>none)
 | _=>none
def hd1:List Value→Value
 | v::_=>v
 | []=>undef
def kq(tt:Nat)(l:List (U.el tt))(i n:Nat):List Value:=aI (fun j=>hd1 ((U.en tt).enc (l.getD (i+j) (U.df tt)))) (upN 0 n)
def neK(t:TypeId)(id li:Nat)(i:Int)(off:Nat):Res U→Option Kn
 | .ob tt _ _=>(match U.ne tt li && (j2 P t && Nat.beq off 0)with
  | true=>some (.p (.sl id (i.toNat+1)))
  | false=>none)
 | _=>none
def tx(t:TypeId)(k:Option Kn)(st:St U)(K:Value→Option Kn→Prop):Prop:=
 match k with
 | some (.p (.loc id off))=>(match nth st.rs id with
  | some (.blk _ cs _)=>eZ (il P t cs off) fun v=>K v (match j2 P t with
   | true=>cA (.c id off) st.kn
   | false=>zV id off st.kn v)
  | _=>False)
 | some (.p (.obj id path off))=>(match nth st.rs id with
  | some (.ob tt r s)=>(match U.fo tt r s path off with
   | some f=>eZ (fvV r (U.li tt r s) f) fun u=>eZ (il P t [u] 0) fun v=>K v (match j2 P t with
    | true=>fvK st.kn id f
    | false=>none)
   | none=>(match U.wl tt r s path off (aP P t)with
    | some (c,cs)=>c∧eZ (il P t cs 0) fun v=>K v none
    | none=>False))
  | _=>False)
 | some (.p (.el id li i off))=>(match nth st.rs id with
  | some r=>(match fg r li with
   | some L=>(match Nat.ble (off+aP P t) (U.en L.t).size,Nat.beq off 0 with
    | false,true=>(match Nat.beq (U.en L.t).size 1 with
     | true=>i.toNat+aP P t≤L.l.length∧eZ (il P t (kq U L.t L.l i.toNat (aP P t)) 0) fun v=>K v none
     | false=>False)
    | _,_=>eZ (il P t ((U.en L.t).enc (L.l.getD i.toNat (U.df L.t))) off) fun v=>K v (neK U P t id li i off r))
   | none=>False)
  | none=>False)
 | _=>False
def HY(t:TypeId):Bool:=match cY P t with
 | .row _=>true
 | _=>false
def uz(t:TypeId)(k:Option Kn)(y:Value)(st:St U)(K:dz U):Prop:=
 match cY P t,k,y with
 | .row n,some (.p (.obj id path off)),.agg cs=>(match hasType P t && (Nat.beq n (aP P t) && Nat.beq cs.toList.length n),nth st.rs id,jU may k0 id with
  | true,some (.ob tt r s),true=>lv cs.toList (match U.ws tt r s path off cs.toList with
   | some (c,s')=>c∧nmL (bR st.rs id (.ob tt r s')) [id] fun Oc=>K undef none ⟨Oc,dO [id] st.kn,id::st.md⟩
   | none=>False)
  | _,_,_=>False)
 | _,_,_=>False
def zr(t:TypeId)(k:Option Kn)(y:Value)(ky:Option Kn)(st:St U)(K:dz U):Prop:=
 match HY P t with
 | true=>uz U P may k0 t k y st K
 | false=>match !(HY P t) && (Nat.beq y.cells.toList.length (aP P t) && hasType P t)with
 | false=>False
 | true=>match k with
  | some (.p (.loc id off))=>(match nth st.rs id,jU may k0 id with
   | some (.blk g cs T),true=>(match Nat.ble (off+aP P t) cs.length with
    | true=>lv y.cells.toList (K undef none ⟨bR st.rs id (.blk g (eW cs off y.cells.toList) T),
     cellsOf id off (j2 P t && Nat.beq (aP P t) 1) ky++dF (fun a _=>!(a.pB id off (aP P t))) st.kn,id::st.md⟩)
    | false=>False)
   | _,_=>False)
  | some (.p (.el id 0 i off))=>(match nth st.rs id,jU may k0 id with
   | some (.lst tt true T A c l),true=>(match Nat.ble (off+aP P t) (U.en tt).size with
    | true=>lv y.cells.toList (eZ (U.dec tt (eW ((U.en tt).enc (l.getD i.toNat (U.df tt))) off y.cells.toList)) fun x=>
     nmL (bR st.rs id (.lst tt true T A c (l.set i.toNat x))) [id] fun Oc=>K undef none ⟨Oc,st.kn,id::st.md⟩)
    | false=>False)
   | some (.ob tt r s),true=>(match U.li tt r s 0 with
    | some L=>(match Nat.ble (off+aP P t) (U.en L.t).size with
     | true=>lv y.cells.toList (eZ (U.dec L.t (eW ((U.en L.t).enc (L.l.getD i.toNat (U.df L.t))) off y.cells.toList)) fun x=>(match U.st tt r s 0 i.toNat L.t x with
      | some (c,s')=>c∧nmL (bR st.rs id (.ob tt r s')) [id] fun Oc=>K undef none ⟨Oc,dO [id] st.kn,id::st.md⟩
      | none=>False))
     | false=>False)
    | none=>False)
   | _,_=>False)
  | some (.p (.el id (li+1) i off))=>(match nth st.rs id,jU may k0 id with
   | some (.ob tt r s),true=>(match U.li tt r s (li+1)with
    | some L=>(match Nat.ble (off+aP P t) (U.en L.t).size with
     | true=>lv y.cells.toList (eZ (U.dec L.t (eW ((U.en L.t).enc (L.l.getD i.toNat (U.df L.t))) off y.cells.toList)) fun x=>(match U.st tt r s (li+1) i.toNat L.t x with
      | some (c,s')=>c∧nmL (bR st.rs id (.ob tt r s')) [id] fun Oc=>K undef none ⟨Oc,dO [id] st.kn,id::st.md⟩
      | none=>False))
     | false=>False)
    | none=>False)
   | _,_=>False)
  | some (.p (.obj id path off))=>(match nth st.rs id,jU may k0 id,y.cells.toList with
   | some (.ob tt r s),true,[v]=>lv [v] (match U.fs tt r s path off v with
    | some (c,s')=>c∧nmL (bR st.rs id (.ob tt r s')) [id] fun Oc=>K undef none ⟨Oc,dO [id] st.kn,id::st.md⟩
    | none=>False)
   | some (.ob tt r s),true,v::v2::vs=>lv (v::v2::vs) (match U.ws tt r s path off (v::v2::vs)with
    | some (c,s')=>c∧nmL (bR st.rs id (.ob tt r s')) [id] fun Oc=>K undef none ⟨Oc,dO [id] st.kn,id::st.md⟩
    | none=>False)
   | _,_,_=>False)
  | _=>False
def PK.on(l:Nat):PK→Option PK
 | .loc id off=>some (.loc id (off+l))
 | .obj id path off=>some (.obj id path (off+l))
 | _=>none
def KS(d:Nat):Option Value→Option Nat
 | none=>some d
 | some (.int _ (.ofNat l))=>some l
 | _=>none
def J8(t:TypeId)(k:Option Kn)(lo hi:Option Value)(st:St U)(K:Value→Option Kn→Prop):Prop:=
 match P.underlying t,k,KS 0 lo with
 | some (.array n e),some (.p p),some l=>(match KS n hi,PK.on l p with
  | some h,some q=>(match den U st.rs p,den U st.rs q,hasType P e && (Nat.beq (aP P e) 1 && (Nat.blt l h && Nat.ble h n))with
   | some _,some (.pointer (some a)),true=>K (.slice (some a) (h - l) (n - l)) (some (.w q (h - l)))
   | _,_,_=>False)
  | _,_=>False)
 | _,_,_=>False
def uJ(n m:Nat):Nat:=match Nat.ble n m with
 | true=>n
 | false=>m
def Ko(k:Option Kn)(n:Nat)(st:St U)(F:List Value→Prop):Prop:=
 match k with
 | some (.w (.loc id off) m)=>(match nth st.rs id with
  | some (.blk _ cs _)=>(match Nat.ble (off+uJ n m) cs.length with
   | true=>F (ig (uJ n m) (ko off cs))
   | false=>False)
  | _=>False)
 | some (.w (.obj id path off) m)=>(match nth st.rs id with
  | some (.ob tt r s)=>(match U.wl tt r s path off (uJ n m)with
   | some (c,cs)=>c∧(match Nat.beq cs.length (uJ n m)with
    | true=>F cs
    | false=>False)
   | none=>False)
  | _=>False)
 | some (.p (.sl id li))=>(match nth st.rs id with
  | some (.ob tt r s)=>(match U.li tt r s li with
   | some L=>(match Nat.beq (U.en L.t).size 1 with
    | true=>(0<n∧n≤L.l.length)∧F (kq U L.t L.l 0 n)
    | false=>False)
   | none=>False)
  | some (.lst tt _ _ _ c l)=>(match Nat.beq (U.en tt).size 1 with
   | true=>(0<uJ n c∧l.length=c)∧F (kq U tt l 0 (uJ n c))
   | false=>False)
  | _=>False)
 | _=>False
def K1(q:PK)(vs:List Value)(st:St U)(K:dz U):Prop:=
 match q with
 | .loc id off=>(match nth st.rs id,jU may k0 id with
  | some (.blk g cs T),true=>(match Nat.ble (off+vs.length) cs.length with
   | true=>lv vs (K (.int .i64 vs.length) none ⟨bR st.rs id (.blk g (eW cs off vs) T),dF (fun a _=>!(a.pB id off vs.length)) st.kn,id::st.md⟩)
   | false=>False)
  | _,_=>False)
 | .obj id path off=>(match nth st.rs id,jU may k0 id with
  | some (.ob tt r s),true=>lv vs (match U.ws tt r s path off vs with
   | some (c,s')=>c∧nmL (bR st.rs id (.ob tt r s')) [id] fun Oc=>K (.int .i64 vs.length) none ⟨Oc,dO [id] st.kn,id::st.md⟩
   | none=>False)
  | _,_=>False)
 | _=>False
def slB(t:TypeId):Bool:=match P.underlying t with
 | some (.slice e)=>(match P.info? e with
  | some i=>Nat.beq i.size 1
  | none=>false)
 | _=>false
def F4(t:TypeId)(kx ky:Option Kn)(st:St U)(K:dz U):Prop:=
 match kx,slB P t with
 | some (.w q n),true=>Ko U ky n st fun vs=>K1 U may k0 q vs st K
 | _,_=>False
def uQ(s:TypeId)(f:Nat):Option Kn→Option Kn
 | some (.p k)=>(match P.underlying s with
  | some (.struct fields)=>(match fields[f]? with
   | some fd=>(match k with
    | .loc id off=>some (.p (.loc id (off+fd.offset)))
    | .el id li i off=>some (.p (.el id li i (off+fd.offset)))
    | .obj id path off=>some (.p (.obj id path (off+fd.offset)))
    | _=>none)
   | none=>none)
  | _=>none)
 | _=>none
def W0:World:=default
def Ih(cs:List Value)(T:TypeId)(ck:Option Kn)(st:St U)(K:dz U):Prop:=
 match U.mko T cs with
 | some ⟨t,s⟩=>∀g:Nat,nmL (st.rs++ [.ob t (fun _=>g) s]) [st.rs.length] fun Oc=>K (.pointer (some ⟨g,0,none⟩)) (some (.p (.obj st.rs.length 0 0))) ⟨Oc,st.kn,st.md⟩
 | none=>∀g:Nat,K (.pointer (some ⟨g,0,none⟩)) (some (.p (.loc st.rs.length 0))) ⟨st.rs++ [.blk g cs T],cellsOf st.rs.length 0 true ck++st.kn,st.md⟩
def FE(k:Option Kn)(i:Nat):Option Kn:=
 match k with
 | some (.t l)=>(match nth l i with
  | some (some p)=>some (.p p)
  | _=>none)
 | _=>none
def oD(o:Oper)(ρ:Operand→Value)(F:Value→Prop):Prop:=oC P none o ρ W0 F False
def MI(t:TypeId)(i:Nat):Option Nat:=
 match P.underlying t with
 | some (.struct fields)=>(match fields[i]? with
  | some fd=>some fd.offset
  | none=>none)
 | some (.array _ e)=>some (i*aP P e)
 | _=>none
def agC(o:Nat):List (Option PK)→List (Nat×PK)
 | []=>[]
 | some p::r=>(o,p)::agC (o+1) r
 | none::r=>agC (o+1) r
def uY(t:TypeId)(kn:List (Key×Kn)):List (Nat×Operand)→List (Nat×PK)
 | []=>[]
 | (i,x)::r=>match kf kn x,MI P t i with
  | some (.p p),some o=>(o,p)::uY t kn r
  | some (.ag l),some o=>agC o l++uY t kn r
  | _,_=>uY t kn r
def u4(j:Nat):List (Nat×PK)→Option PK
 | []=>none
 | (i,p)::r=>match Nat.beq i j with
  | true=>some p
  | false=>u4 j r
def KZ {U:Uni}(rs:List (Res U))(cs:List Value):List (Nat×PK)→Prop→Prop
 | [],F=>F
 | (o,p)::r,F=>den U rs p=nth cs o∧KZ rs cs r F
def F9 {U:Uni}(st:St U)(v:Value)(bl:List (Nat×PK))(K:Value→Option Kn→Prop):Prop:=
 match bl with
 | []=>K v none
 | b::r=>match v with
  | .agg cs=>KZ st.rs cs.toList (b::r) (K v (some (.ag (aI (fun j=>u4 j (b::r)) (upN 0 cs.toList.length)))))
  | _=>False
def LS:Option Kn→List Value→List Value→List (Option Kn)→List (Option Kn)
 | some (.f a b),_,_,ks=>aI (fun o=>o.map .p) a++(ks++aI (fun o=>o.map .p) b)
 | _,first,cap,ks=>aI (fun _=>none) first++(ks++aI (fun _=>none) cap)
def FW(t:TypeId):Nat:=match P.underlying t with
 | some (.slice e)=>aP P e
 | some (.array _ e)=>aP P e
 | _=>0
def Db(tt:Nat):Nat→List Value→Option (List (U.el tt))
 | 0,[]=>some []
 | n+1,cs=>match U.dec tt (ig (U.en tt).size cs),Db tt n (ko (U.en tt).size cs)with
  | some x,some r=>some (x::r)
  | _,_=>none
 | _,_=>none
def EP(t:TypeId):Option (TypeId×Nat×TypeInfo×Value):=
 match P.underlying t with
 | some (.slice e)=>(match U.cd e,P.info? e with
  | some tt,some ie=>(match ie.zero with
   | some z=>(match Nat.beq ie.size (U.en tt).size && (Nat.beq z.cells.toList.length ie.size && Nat.blt 0 ie.bytes)with
    | true=>some (e,tt,ie,z)
    | false=>none)
   | none=>none)
  | _,_=>none)
 | _=>none
def LW(ie:TypeInfo)(z:Value)(len:Nat)(parts:List (Nat×Value)):Option (Array Value):=
 Instr.fill (fun i=>some (i*ie.size,ie.size)) ((Array.range (len*ie.size)).map (z.cells[· % z.cells.size]!)) parts
def Km(tt:Nat)(v:Value)(k:Option Kn)(st:St U)(F:List (U.el tt)→Prop):Prop:=
 match k with
 | some (.p (.sl id li))=>(match nth st.rs id with
  | some r=>(match fg r li with
   | some L=>if h:L.t=tt then F (h▸L.l)else False
   | none=>False)
  | none=>False)
 | _=>match v with
  | .slice none 0 _=>F []
  | _=>False
def orL {α:Type}(F:α→Prop):List α→Prop
 | []=>False
 | [a]=>F a
 | a::r=>F a∨orL F r
def LX:Sh→(Value→Prop)→Prop
 | .int k,F=>∃x:Int,F (.int k x)
 | .bool,F=>∃x:Bool,F (.bool x)
 | .str,F=>∃x:ByteArray,F (.string x)
 | _,F=>∃x:Value,F x
def dv {U:Uni}(rs:List (Res U))(p:PK):Value:=(den U rs p).getD undef
def Da {U:Uni}(rs:List (Res U))(p:PK):Bool:=match den U rs p with
 | some _=>true
 | none=>false
def zA(k:Option Kn)(A B:Prop):Prop:=match k with
 | some .pan=>A
 | _=>B
def BW(v:Value)(args:List Value)(ks:List (Option Kn))(st:St U)(K:dz U):Prop:=
 LX tbl.sh fun r=>orL (fun a=>match iK (Da st.rs) a.2.1 && iK (Da st.rs) a.2.2 with
  | true=>v= .func (.func a.1) ⟨aI (dv st.rs) a.2.1⟩ ⟨aI (dv st.rs) a.2.2⟩∧
   call2 U tbl may k0 a.1 (aI (dv st.rs) a.2.1++(args++aI (dv st.rs) a.2.2)) (aI (fun p=>some (.p p)) a.2.1++(ks++aI (fun p=>some (.p p)) a.2.2)) st fun r' k' st'=>
    zA k' False<| match Nat.beq st'.rs.length st.rs.length && Nat.beq st'.md.length st.md.length with
    | true=>r'=r
    | false=>False
  | false=>False) tbl.al∧K r none st
def IL:Operand→List (Nat×List PK×List PK)→Bool
 | .tmp _,_::_=>true
 | _,_=>false
def mpL:List (Res U)→Option ((Nat→Nat)×List (Int×Value))
 | []=>none
 | .ob t r s::l=>(match U.mp t s with
  | some m=>some (r,m)
  | none=>mpL l)
 | _::l=>mpL l
def lkT(P:Program)(T:TypeId):Option Value:=match P.underlying T with
 | some (.map K E)=>(match P.underlying K with
  | some (.int .u32)=>(P.info? E).bind (·.zero)
  | _=>none)
 | _=>none
def lkS:List (Int×Value)→Int→Value→(Value→Bool→Prop)→Prop
 | [],_,z,F=>F z false
 | (a,v)::r,i,z,F=>split (decide (i=a)) (F v true) (lkS r i z F)
def KP(o:Oper)(ρ:Operand→Value)(st:St U)(K:dz U):Prop:=
 match o.op with
 | .panic x=>(match ρ x with
  | .iface t v=>K (.iface t v) (some .pan) st
  | _=>False)
 | .store t x y=>zr U P may k0 t (kf st.kn x) (ρ y) (kf st.kn y) st K
 | .alloc t=>(match (P.info? t).bind (·.zero)with
  | some z=>Ih U z.cells.toList t none st K
  | none=>False)
 | .box t x=>Ih U (ρ x).cells.toList t (kf st.kn x) st K
 | .call c=>(match c.callee with
  | .value f=>(match IL f tbl.al with
   | true=>BW U tbl may k0 (ρ f) (aI ρ c.args.toList) (aI (kf st.kn) c.args.toList) st K
   | false=>match ρ f with
    | .func (.func k) first cap=>call2 U tbl may k0 k (first.toList++(aI ρ c.args.toList++cap.toList)) (LS (kf st.kn f) first.toList cap.toList (aI (kf st.kn) c.args.toList)) st K
    | _=>False)
  | .invoke x name=>(match ρ x with
   | .iface t u=>(match wH P t name with
    | some k=>call2 U tbl may k0 k (u::aI ρ c.args.toList) (none::aI (kf st.kn) c.args.toList) st K
    | none=>False)
   | _=>False)
  | .builtin .append=>(match c.args.toList,c.argTypes.toList with
   | [x,y],[t,t']=>(match EP U P t,Nat.beq t t' with
    | some (e,tt,ie,_),true=>Km U tt (ρ y) (kf st.kn y) st fun l2=>(match kf st.kn x with
     | some (.p (.sl id 0))=>(match nth st.rs id,jU may k0 id with
      | some (.lst tt' true T _ _ l),true=>(match Nat.beq T e with
       | true=>if h:tt'=tt then(l.length+l2.length)*ie.bytes≤140737488355328∧∀(A:Option Addr)(c:Nat),
        nmL (bR st.rs id (.lst tt true e A c ((h▸l)++l2))) [id] fun Oc=>K (.slice A ((h▸l)++l2).length c) (some (.p (.sl id 0))) ⟨Oc,dO [id] st.kn,id::st.md⟩else False
       | false=>False)
      | _,_=>False)
     | none=>(match ρ x with
      | .slice none 0 0=>l2.length*ie.bytes≤140737488355328∧∀(A:Option Addr)(c:Nat),
       nmL (st.rs++ [.lst tt true e A c l2]) [st.rs.length] fun Oc=>K (.slice A l2.length c) (some (.p (.sl st.rs.length 0))) ⟨Oc,st.kn,st.md⟩
      | _=>False)
     | _=>False)
    | _,_=>False)
   | _,_=>False)
  | .builtin .copy=>(match c.args.toList,c.argTypes.toList with
   | [x,y],[t,t']=>F4 U P may k0 t (kf st.kn x) (kf st.kn y) st K
   | _,_=>False)
  | _=>False)
 | .buildSlice t len parts=>(match EP U P t with
  | some (e,tt,ie,z)=>(match LW ie z len (parts.map fun(i,x)=>(i,ρ x)).toList,Nat.blt 0 len && Nat.ble (len*ie.size) 16777216 with
   | some cells,true=>(match Db U tt len cells.toList with
    | some l=>∀g:Nat,nmL (st.rs++ [.lst tt true e (some ⟨g,0,none⟩) len l]) [st.rs.length] fun Oc=>K (.slice (some ⟨g,0,none⟩) len len) (some (.p (.sl st.rs.length 0))) ⟨Oc,st.kn,st.md⟩
    | none=>False)
   | _,_=>False)
  | none=>False)
 | .lookup T x ix true=>(match ρ x,ρ ix,lkT P T,mpL U st.rs with
  | .map (some g),.int .u32 i,some z,some (r,l)=>g=r 0∧lkS l i z fun v b=>K (.tuple ⟨[v,.bool b]⟩) none st
  | _,_,_,_=>False)
 | .makeSlice t l c=>(match ρ l,ρ c,EP U P t with
  | .int .i64 a,.int .i64 b,some (e,tt,ie,z)=>(match U.dec tt z.cells.toList with
   | some x=>(a=b∧0≤a∧(ie.bytes:Int)*a≤281474976710656)∧∀g:Nat,
    nmL (st.rs++ [.lst tt true e (some ⟨g,0,none⟩) a.toNat (List.replicate a.toNat x)]) [st.rs.length] fun Oc=>K (.slice (some ⟨g,0,none⟩) (List.replicate a.toNat x).length a.toNat) (some (.p (.sl st.rs.length 0))) ⟨Oc,st.kn,st.md⟩
   | none=>False)
  | _,_,_=>False)
 | _=>False
def mR(o:Oper)(ρ:Operand→Value)(st:St U)(K:Value→Option Kn→Prop):Prop:=
 match o.op with
 | .move x=>K (ρ x) (kf st.kn x)
 | .assign x=>K (ρ x) (kf st.kn x)
 | .nilCheck x=>(match ρ x with
  | .pointer (some p)=>K (.pointer (some p)) (kf st.kn x)
  | _=>False)
 | .fieldAddr s x f=>jF P s (ρ x) f fun v=>K v (uQ P s f (kf st.kn x))
 | .indexAddr t x i=>(match kf st.kn x,ρ i with
  | some (.p (.sl id li)),.int _ ix=>(match nth st.rs id,P.underlying t with
   | some r,some (.slice e)=>(match fg r li with
    | some L=>(match hasType P e && Nat.beq (aP P e) (U.en L.t).size with
     | true=>(0≤ix∧ix<L.l.length)∧K (.pointer (some (elA U L.t L.A ix 0))) (some (.p (.el id li ix 0)))
     | false=>False)
    | none=>False)
   | _,_=>False)
  | some (.p (.obj id path off)),.int _ ix=>(match nth st.rs id,U.ix1 st.rs id path off,P.underlying t with
   | some (.ob tt r s),some li,some (.array n e)=>(match U.li tt r s li with
    | some L=>(match hasType P e && Nat.beq (aP P e) (U.en L.t).size with
     | true=>((0≤ix∧ix<L.l.length)∧ix<(n:Int))∧K (.pointer (some (elA U L.t L.A ix 0))) (some (.p (.el id li ix 0)))
     | false=>(match hasType P e && (Nat.beq (U.en L.t).size 1 && Nat.blt 0 (aP P e))with
      | true=>((0≤ix∧ix<(n:Int))∧(ix.toNat+1)*aP P e≤L.l.length)∧K (.pointer (some (elA U L.t L.A (ix*(aP P e:Nat)) 0))) (some (.p (.el id li (ix*(aP P e:Nat)) 0)))
      | false=>False))
    | none=>False)
   | _,_,_=>False)
  | some (.p (.el id li i0 0)),.int _ ix=>(match nth st.rs id,P.underlying t with
   | some r,some (.array n e)=>(match fg r li with
    | some L=>(match hasType P e && (Nat.beq (aP P e) 1 && Nat.beq (U.en L.t).size 1)with
     | true=>((0≤ix∧ix<(n:Int))∧i0+ix<L.l.length)∧K (.pointer (some (elA U L.t L.A (i0+ix) 0))) (some (.p (.el id li (i0+ix) 0)))
     | false=>False)
    | none=>False)
   | _,_=>False)
  | some (.p (.loc id off)),.int _ ix=>lx P t (ρ x) (ρ i) fun v=>K v (some (.p (.loc id (off+ix.toNat *FW P t))))
  | _,_=>False)
 | .load t x=>tx U P t (kf st.kn x) st K
 | .extract x i=>(match ρ x with
  | .tuple vs=>eZ (nth vs.toList i) fun v=>K v (FE (kf st.kn x) i)
  | _=>False)
 | .makeFunc f first cap=>K (.func f ⟨aI ρ first.toList⟩ ⟨aI ρ cap.toList⟩) (some (.f (aI (fun x=>iG (kf st.kn x)) first.toList) (aI (fun x=>iG (kf st.kn x)) cap.toList)))
 | .binOp op t x y ty=>(match ρ x with
  | .slice (some _) _ _=>False
  | _=>oD P o ρ fun v=>K v none)
 | .build t ps=>oD P o ρ fun v=>F9 st v (uY P t st.kn ps.toList) K
 | .slice t x lo hi none=>(match kf st.kn x,lo,hi with
  | some (.p (.obj id path off)),none,none=>(match nth st.rs id,U.ix1 st.rs id path off,P.underlying t with
   | some (.ob tt r s),some li,some (.array n e)=>(match U.li tt r s li with
    | some L=>(match hasType P e with
     | true=>((L.l.length=n∧L.c=n)∧0<n)∧K (.slice L.A L.l.length L.c) (some (.p (.sl id li)))
     | false=>False)
    | none=>False)
   | _,_,_=>False)
  | k,lo,hi=>J8 U P t k (lo.map ρ) (hi.map ρ) st K)
 | .slice .. =>False
 | .sliceToArrayPointer arr x=>(match kf st.kn x with
  | some (.p (.sl id li))=>(match nth st.rs id,P.underlying arr with
   | some r,some (.array n _)=>(match fg r li with
    | some L=>(0<L.l.length∧n≤L.l.length)∧K (.pointer (some (elA U L.t L.A 0 0))) (some (.p (.el id li 0 0)))
    | none=>False)
   | _,_=>False)
  | some (.w q n)=>(match P.underlying arr,den U st.rs q with
   | some (.array N _),some v=>(match Nat.ble N n with
    | true=>K v (some (.p q))
    | false=>False)
   | _,_=>False)
  | _=>False)
 | _=>oD P o ρ fun v=>K v none
def FH(o:Oper):Bool:=match o.op with
 | .panic _=>true
 | .store .. =>true
 | .alloc _=>true
 | .box .. =>true
 | .buildSlice .. =>true
 | .makeSlice .. =>true
 | .lookup .. =>true
 | .call c=>(match c.callee with
  | .value _=>true
  | .invoke .. =>true
  | .builtin .append=>true
  | .builtin .copy=>true
  | _=>false)
 | _=>false
def op2(o:Oper)(ρ:Operand→Value)(st:St U)(K:dz U):Prop:=
 match FH o with
 | true=>KP U P tbl may k0 o ρ st K
 | false=>mR U P o ρ st fun v k=>K v k st
def wh(n:Nat)(N:List Nat)(fr:Fr)(dst:Option Tmp)(v:Value)(k:Option Kn)(st:St U)(F:Fr→St U→Prop):Prop:=
 iF n N fr dst v fun fr'=>F fr' (match dst with
  | some d=> {st with kn:=wS (.s d) k st.kn}
  | none=>st)
def Cl(n:Nat)(N:List Nat)(ops:Array Oper)(K:Fr→St U→Prop)(Kp:List PanicEntry→Fr→St U→Prop):List Oper→Fr→St U→Prop
 | [],fr,st=>K fr st
 | o::rest,fr,st=>fW ops o fr
  (fun fr=>op2 U P tbl may k0 o (ev fr) st fun v kv st'=>zA kv (Kp [⟨v,false,false⟩] fr st') (wh U n N fr o.dst v kv st' fun fr' st''=>Cl n N ops K Kp rest fr' st''))
  (fun fr=>wh U n N fr o.dst undef none st fun fr' st'=>Cl n N ops K Kp rest fr' st')
end
end
end Go.Proofs.YtfmcaoaaiganbaaGreatDoor.V
