/- ViewParts returns true for every input of bulk at most 1048576; each argument reads behind the call as it read before. -/
import Derived.KernelRfl
import Derived.Great.BuildSlice
import Derived.WalkKit
import Derived.OrdersHeld
import Derived.Deep.Draws
import Derived.Scope
import Derived.RangeFuncSeq
import Derived.Laws.StructEq
import Derived.ChangeKeysEq
import Derived.DeepKeys
import Derived.RangeFuncLeaves
import Derived.RangeFuncRecord
import Derived.TacticsIn
import Derived.Test.YtkbcgjfejboigaaDoorProg
set_option linter.unusedVariables false
set_option linter.unusedSimpArgs false
namespace Go.Proofs.YtkbcgjfejboigaaDoor.V
open Go Go.RowKit
open Go.IntKind (i64 u32 u64)
section
structure Kept(B:Nat→Prop)(w w':World):Prop where
 os:w'.os=w.os
 tape:w'.tape=w.tape
 output:w'.output=w.output
 size:w.heap.size≤w'.heap.size
 block:∀k,B k→w'.heap[k]? =w.heap[k]?
theorem Kept.refl(B:Nat→Prop)(w:World):Kept B w w:=⟨rfl,rfl,rfl,Nat.le_refl _,fun _ _=>rfl⟩
theorem Kept.trans {B:Nat→Prop} {a b c:World}(h:Kept B a b)(k:Kept B b c):Kept B a c:=
 ⟨k.os.trans h.os,k.tape.trans h.tape,k.output.trans h.output,Nat.le_trans h.size k.size,fun i hi=>(k.block i hi).trans (h.block i hi)⟩
theorem Kept.mono {B B':Nat→Prop} {w w':World}(h:Kept B w w')(hb:∀k,B' k→B k):Kept B' w w':=
 ⟨h.os,h.tape,h.output,h.size,fun k hk=>h.block k (hb k hk)⟩
theorem Kept.cell {B:Nat→Prop} {w w':World} {p:Addr}(h:Kept B w w')(hp:B p.block):w'.cell? p=w.cell? p:=by
 unfold World.cell?
 rw [h.block _ hp]
theorem Kept.rj {n:Nat} {w w':World}(h:Below n w w'):Kept (· <n) w w':=⟨h.os,h.tape,h.output,h.size,h.block⟩
def held(B:Option (Nat→Prop))(w:World):Nat→Prop:=
 match B with
 | none=>fun k=>k<w.heap.size
 | some b=>b
inductive Sh where
 | int (k:IntKind) | bool | str | ptr | slice | map | val
def Sh.ex:Sh→(Value→Prop)→Prop
 | .int k,F=>∃x:Int,F (.int k x)
 | .bool,F=>∃b:Bool,F (.bool b)
 | .str,F=>∃s:ByteArray,F (.string s)
 | .ptr,F=>∃a:Option Addr,F (.pointer a)
 | .slice,F=>∃(a:Option Addr)(n c:Nat),F (.slice a n c)
 | .map,F=>∃r:Option Nat,F (.map r)
 | .val,F=>∃v:Value,F v
theorem Sh.dJ {s:Sh} {F:Value→Prop}(h:s.ex F):∃v,F v:=by
 cases s<;>simp only [Sh.ex]at h
 case int=>obtain⟨x,h⟩:=h;exact⟨_,h⟩
 case bool=>obtain⟨x,h⟩:=h;exact⟨_,h⟩
 case str=>obtain⟨x,h⟩:=h;exact⟨_,h⟩
 case ptr=>obtain⟨x,h⟩:=h;exact⟨_,h⟩
 case slice=>obtain⟨x,y,z,h⟩:=h;exact⟨_,h⟩
 case map=>obtain⟨x,h⟩:=h;exact⟨_,h⟩
 case val=>exact h
def exs:List Sh→(List Value→Prop)→Prop
 | [],F=>F []
 | s::r,F=>s.ex fun v=>exs r fun vs=>F (v::vs)
theorem oM:∀ {l:List Sh} {F:List Value→Prop},exs l F→∃vs,F vs
 | [],_,h=>⟨[],h⟩
 | _::_,_,h=>by
  obtain⟨v,h⟩:=Sh.dJ h
  obtain⟨vs,h⟩:=oM h
  exact⟨_,h⟩
inductive Sh2 where
 | one (s:Sh) | agg (l:List Sh) | row (n:Nat)
def Sh2.ex:Sh2→(Value→Prop)→Prop
 | .one s,F=>s.ex F
 | .agg l,F=>exs l fun vs=>F (.agg ⟨vs⟩)
 | .row _,F=>∃cs:Array Value,F (.agg cs)
theorem Sh2.dJ {s:Sh2} {F:Value→Prop}(h:s.ex F):∃v,F v:=by
 cases s with
 | one s=>exact Sh.dJ h
 | agg l=>obtain⟨vs,h⟩:=oM h;exact⟨_,h⟩
 | row n=>obtain⟨cs,h⟩:=h;exact⟨_,h⟩
def mf:List Sh2→(List Value→Prop)→Prop
 | [],F=>F []
 | s::r,F=>s.ex fun v=>mf r fun vs=>F (v::vs)
theorem mb:∀ {l:List Sh2} {F:List Value→Prop},mf l F→∃vs,F vs
 | [],_,h=>⟨[],h⟩
 | _::_,_,h=>by
  obtain⟨v,h⟩:=Sh2.dJ h
  obtain⟨vs,h⟩:=mb h
  exact⟨_,h⟩
def vv:Value→Sh
 | .int k _=>.int k
 | .bool _=>.bool
 | .string _=>.str
 | .pointer _=>.ptr
 | .slice .. =>.slice
 | .map _=>.map
 | _=>.val
def qI:Value→Sh2
 | .agg cs=>match Nat.ble cs.size 24 with
  | true=>.agg (cs.toList.map vv)
  | false=>.row cs.size
 | v=>.one (vv v)
def gj:Nat:=1000000007
def exT(P:Program)(t:TypeId)(F:Value→Prop):Prop:=
 match (P.info? t).bind (·.zero)with
 | some (.tuple vs)=>mf (vs.toList.map qI) fun us=>F (.tuple ⟨us⟩)
 | some z=>(qI z).ex F
 | none=>∃v,F v
theorem gU {P:Program} {t:TypeId} {F:Value→Prop}(h:exT P t F):∃v,F v:=by
 unfold exT at h
 split at h
 ·obtain⟨vs,h⟩:=mb h;exact⟨_,h⟩
 ·exact Sh2.dJ h
 ·exact h
structure Fr where
 e:List (Nat×Value)
 g:Nat→Value
 ds:List Deferred
def lk(g:Nat→Value)(i:Nat):List (Nat×Value)→Value
 | []=>g i
 | (d,v)::r=>match Nat.beq i d with
  | true=>v
  | false=>lk g i r
def ev(fr:Fr):Operand→Value
 | .tmp t=>lk fr.g t fr.e
 | .const v=>v
 | .global g=>.pointer (some ⟨g,0,none⟩)
 | .func f=>.func (.func f) #[] #[]
structure Rep(n:Nat)(fr:Fr)(a:Act):Prop where
 size:a.tmps.size=n
 get:∀i,a.tmps.getD i undef=lk fr.g i fr.e
 defers:a.defers=fr.ds
theorem Rep.eval {n:Nat} {fr:Fr} {a:Act}(h:Rep n fr a):a.eval=ev fr:=by
 funext x
 cases x<;>simp [Act.eval,ev,h.get]
def tY(v:Value)(F:Value→Prop):Prop:=
 match v with
 | .int k x=>∀z:Int,z=x→F (.int k z)
 | .bool x=>∀z:Bool,z=x→F (.bool z)
 | v=>F v
theorem pM {v:Value} {F:Value→Prop}(h:tY v F):F v:=by
 cases v<;>first | exact h | exact h _ rfl
def fF(n:Nat)(N:List Nat)(fr:Fr)(dst:Option Tmp)(v:Value)(F:Fr→Prop):Prop:=
 match dst with
 | none=>F fr
 | some d=>match Nat.blt d n with
  | true=>(match N.elem d with
   | true=>tY v fun v=>F ⟨(d,v)::fr.e,fr.g,fr.ds⟩
   | false=>F ⟨(d,v)::fr.e,fr.g,fr.ds⟩)
  | false=>False
structure Agr(ws:List Nat)(a b:Act):Prop where
 tmps:∀i,i ∉ ws→b.tmps.getD i undef=a.tmps.getD i undef
 defers:gj ∉ ws→b.defers=a.defers
theorem Agr.refl(ws:List Nat)(a:Act):Agr ws a a:=⟨fun _ _=>rfl,fun _=>rfl⟩
theorem Agr.trans {ws:List Nat} {a b c:Act}(h:Agr ws a b)(k:Agr ws b c):Agr ws a c:=⟨fun i hi=>(k.tmps i hi).trans (h.tmps i hi),fun hi=>(k.defers hi).trans (h.defers hi)⟩
theorem Agr.mono {ws ws':List Nat} {a b:Act}(h:Agr ws a b)(hs:∀i,i∈ws→i∈ws'):Agr ws' a b:=⟨fun i hi=>h.tmps i (fun h'=>hi (hs i h')),fun hi=>h.defers (fun h'=>hi (hs _ h'))⟩
theorem gh(a:Act)(d:Nat)(v:Value)(i:Nat)(h:i≠d):(a.put (some d) v).tmps.getD i undef=a.tmps.getD i undef:=by
 simp only [Act.put,Array.getD_eq_getD_getElem?,Array.getElem?_setIfInBounds]
 rw [if_neg (by omega)]
theorem getD_put_eq(a:Act)(d:Nat)(v:Value)(h:d<a.tmps.size):(a.put (some d) v).tmps.getD d undef=v:=by
 simp only [Act.put,Array.getD_eq_getD_getElem?,Array.getElem?_setIfInBounds]
 simp [h]
theorem de {n:Nat} {N:List Nat} {fr:Fr} {a:Act} {dst:Option Tmp} {v:Value} {F:Fr→Prop}(hr:Rep n fr a)(h:fF n N fr dst v F):
 ∃fr',Rep n fr' (a.put dst v)∧F fr':=by
 unfold fF at h
 cases dst with
 | none=>exact⟨fr,hr,h⟩
 | some d=>
  simp only at h
  split at h
  ·rename_i hb
   have hd:d<n:=by simpa [Nat.blt_eq]using hb
   have h:F ⟨(d,v)::fr.e,fr.g,fr.ds⟩:=by
    split at h
    ·exact pM h
    ·exact h
   refine⟨_,⟨by simp [Act.put,hr.size],fun i=>?_,by simp [Act.put,hr.defers]⟩,h⟩
   simp only [lk]
   split
   ·rename_i hi
    obtain rfl:i=d:=Nat.eq_of_beq_eq_true hi
    exact getD_put_eq a i v (by rw [hr.size];exact hd)
   ·rename_i hi
    have xi:i≠d:=by rintro rfl;simp at hi
    rw [gh a d v i xi,hr.get]
  ·exact h.elim
theorem Agr.put {ws:List Nat}(a:Act)(dst:Option Tmp)(v:Value)(h:∀d,dst=some d→d∈ws):Agr ws a (a.put dst v):=by
 refine⟨fun i hi=>?_,fun _=>by cases dst<;>rfl⟩
 cases dst with
 | none=>rfl
 | some d=>exact gh a d v i (fun e=>hi (e▸h d rfl))
def split(b:Bool)(x y:Prop):Prop:=
 match b with
 | true=>x
 | false=>y
theorem aE {b:Bool} {x y:Prop}(h1:b=true→x)(h0:b=false→y):split b x y:=by
 cases b
 ·exact h0 rfl
 ·exact h1 rfl
theorem fy {b:Bool} {x y:Prop}(h:split b x y):(b=true∧x)∨(b=false∧y):=by
 cases b
 ·exact .inr ⟨rfl,h⟩
 ·exact .inl ⟨rfl,h⟩
def ay {α:Type}(a:Option α)(F:α→Prop):Prop:=
 match a with
 | some p=>F p
 | none=>False
theorem aw {α:Type} {a:Option α} {F:α→Prop}(p:α)(h:a=some p)(hp:F p):ay a F:=by
 subst h
 exact hp
theorem bD {α:Type} {a:Option α} {F:α→Prop}(h:ay a F):∃p,a=some p∧F p:=by
 cases a with
 | none=>exact h.elim
 | some p=>exact⟨p,rfl,h⟩
def kEq:IntKind→IntKind→Bool
 | .i8,.i8 | .i16,.i16 | .i32,.i32 | .i64,.i64 | .u8,.u8 | .u16,.u16 | .u32,.u32 | .u64,.u64=>true
 | _,_=>false
theorem gS {a b:IntKind}(h:kEq a b=true):a=b:=by
 cases a<;>cases b<;>simp_all [kEq]
def cK(P:Program)(t:TypeId):Bool:=
 match P.underlying t with
 | some (.struct _)=>true
 | some (.array _ _)=>true
 | _=>false
def cr:Value→Value→Bool
 | .int _ a,.int _ b=>a==b
 | .bool a,.bool b=>a==b
 | .string a,.string b=>a.toList==b.toList
 | _,_=>false
def eqL:List Value→List Value→Bool
 | a::az,b::bs=>cr a b && eqL az bs
 | _,_=>true
def aL(xs ys:Array Value):Bool:=eqL xs.toList ys.toList
def iB(P:Program)(g:TypeId→Option (List Sh)):Nat→List Field→Option (List Sh)
 | _,[]=>some []
 | off,f::r=>match Nat.beq f.offset off,f.name== "_",g f.type,P.info? f.type with
  | true,false,some l,some i=>(match Nat.beq i.size l.length,iB P g (off+l.length) r with
   | true,some l'=>some (l++l')
   | _,_=>none)
  | _,_,_,_=>none
def jl(l:List Sh):Nat→List Sh
 | 0=>[]
 | n+1=>l++jl l n
def cM(P:Program):Nat→TypeId→Option (List Sh)
 | 0,_=>none
 | m+1,t=>match P.underlying t with
  | some (.int k)=>some [.int k]
  | some .bool=>some [.bool]
  | some .string=>some [.str]
  | some (.struct fs)=>match P.stoodInHeld t with
   | true=>none
   | false=>iB P (cM P m) 0 fs.toList
  | some (.array n e)=>match cM P m e,P.info? e with
   | some l,some i=>(match Nat.beq i.size l.length with
    | true=>some (jl l n)
    | false=>none)
   | _,_=>none
  | _=>none
def aZ:List Sh→List Value→Bool
 | [],[]=>true
 | .int k::l,.int k' _::vs=>match kEq k k' with
  | true=>aZ l vs
  | false=>false
 | .bool::l,.bool _::vs=>aZ l vs
 | .str::l,.string _::vs=>aZ l vs
 | _,_=>false
def tr(l:List Sh)(xs:Array Value)(F:Prop):Prop:=
 match Nat.ble l.length 24 with
 | true=>(match aZ l xs.toList with
  | true=>F
  | false=>False)
 | false=>aZ l xs.toList=true∧F
theorem l9 {l:List Sh} {xs:Array Value} {F:Prop}(h:tr l xs F):aZ l xs.toList=true∧F:=by
 unfold tr at h
 split at h
 ·split at h
  ·rename_i hf;exact⟨hf,h⟩
  ·exact h.elim
 ·exact h
abbrev ax:=Value→World→Prop
def dK(w:World)(p:Addr):Nat→List Value→Prop
 | _,[]=>True
 | i,[v]=>w.cell? (p.add i)=some v
 | i,v::r=>w.cell? (p.add i)=some v∧dK w p (i+1) r
theorem kQ {w:World} {p:Addr} {i:Nat} {v:Value} {r:List Value}(h:dK w p i (v::r)):w.cell? (p.add i)=some v∧dK w p (i+1) r:=by
 cases r with
 | nil=>exact⟨h,trivial⟩
 | cons u r=>exact h
def dH(w:World)(p:Addr):Sh2→Value→Prop
 | .one _,v=>w.cell? p=some v
 | .agg l,.agg cs=>match Nat.beq cs.toList.length l.length with
  | true=>dK w p 0 cs.toList
  | false=>False
 | .row n,.agg cs=>cs.size=n∧∀i u,cs[i]? =some u→w.cell? (p.add i)=some u
 | _,_=>False
def dV(P:Program)(t:TypeId):Sh2:=
 match (P.info? t).bind (·.zero)with
 | some z=>qI z
 | none=>.one .val
def kd(P:Program)(t:TypeId)(b:Bool):Bool:=
 match P.underlying t with
 | some (.struct _)=>b
 | some (.array _ _)=>b
 | some _=>!b
 | none=>false
theorem ka {P:Program} {t:TypeId} {b:Bool}(h:kd P t b=true)(w:World):(isAgg t).run P w= .ok b w:=by
 unfold kd at h
 cases hu:P.underlying t with
 | none=>simp [hu]at h
 | some d=>cases d<;>simp_all [isAgg,run_underlying hu]
def jK:Sh2→Bool
 | .one _=>false
 | _=>true
def eJ:Sh2→Nat
 | .one _=>1
 | .agg l=>l.length
 | .row n=>n
def one? :Value→Prop→Prop
 | .agg _,_=>False
 | .tuple _,_=>False
 | _,p=>p
def e7(p:Addr):Nat→List Value→World→(World→Prop)→Prop
 | _,[],w,K=>K w
 | i,v::r,w,K=>one? v ((∃u,w.cell? (p.add i)=some u)∧w.frozen? (p.add i)=false∧e7 p (i+1) r (w.setCell (p.add i) v) K)
def nz(y:Int)(p:Prop):Prop:=
 match y with
 | .ofNat 0=>False
 | .ofNat (_+1)=>p
 | .negSucc _=>p
theorem rl {y:Int} {p:Prop}(h:nz y p):y≠0∧p:=by
 cases y with
 | ofNat n=>cases n with
  | zero=>exact h.elim
  | succ n=>exact⟨by simp;omega,h⟩
 | negSucc n=>exact⟨by simp,h⟩
def dF(y:Int)(F:Nat→Prop):Prop:=
 match y with
 | .ofNat n=>F n
 | .negSucc _=>False
theorem hN {y:Int} {F:Nat→Prop}(hy:0≤y)(hF:F y.toNat):dF y F:=by
 cases y with
 | ofNat n=>exact hF
 | negSucc n=>omega
theorem fY {y:Int} {F:Nat→Prop}(h:dF y F):¬y<0∧F y.toNat:=by
 cases y with
 | ofNat n=>exact⟨by simp,h⟩
 | negSucc n=>exact h.elim
def rA(op:BinOp)(k:IntKind)(x y:Int)(F:Value→Prop):Prop:=
 match op with
 | .add=>F (.int k (k.wrap (x+y)))
 | .sub=>F (.int k (k.wrap (x - y)))
 | .mul=>F (.int k (k.wrap (x*y)))
 | .quo=>nz y (F (.int k (k.wrap (x.tdiv y))))
 | .rem=>nz y (F (.int k (x.tmod y)))
 | .and=>F (.int k (k.wrap (BitVec.ofInt k.bits x &&& BitVec.ofInt k.bits y).toNat))
 | .or=>F (.int k (k.wrap (BitVec.ofInt k.bits x ||| BitVec.ofInt k.bits y).toNat))
 | .xor=>F (.int k (k.wrap (BitVec.ofInt k.bits x ^^^ BitVec.ofInt k.bits y).toNat))
 | .andNot=>F (.int k (k.wrap (BitVec.ofInt k.bits x &&& ~~~(BitVec.ofInt k.bits y)).toNat))
 | .eql=>F (.bool (x==y))
 | .neq=>F (.bool (x !=y))
 | .lss=>F (.bool (decide (x<y)))
 | .leq=>F (.bool (decide (x≤y)))
 | .gtr=>F (.bool (decide (x>y)))
 | .geq=>F (.bool (decide (x≥y)))
 | _=>False
def kC(op:BinOp)(k:IntKind)(x y:Int)(F:Value→Prop):Prop:=
 match op with
 | .shl=>dF y fun n=>F (.int k (k.wrap (x*2 ^ (min n k.bits))))
 | .shr=>dF y fun n=>F (.int k (x.fdiv (2 ^ (min n k.bits))))
 | _=>False
def kM:BinOp→Bool
 | .shl | .shr=>true
 | _=>false
def qH(op:BinOp)(x y:ByteArray)(F:Value→Prop):Prop:=
 match op with
 | .add=>x.size+y.size≤9223372036854775807∧F (.string (x++y))
 | .eql=>F (.bool (x.toList==y.toList))
 | .neq=>F (.bool (!(x.toList==y.toList)))
 | .lss=>F (.bool (Op.bytesLess x.toList y.toList))
 | .leq=>F (.bool (Op.bytesLess x.toList y.toList || x.toList==y.toList))
 | .gtr=>F (.bool (!(Op.bytesLess x.toList y.toList || x.toList==y.toList)))
 | .geq=>F (.bool (!(Op.bytesLess x.toList y.toList)))
 | _=>False
def eqB(op:BinOp)(b:Bool)(F:Value→Prop):Prop:=
 match op with
 | .eql=>F (.bool b)
 | .neq=>F (.bool (!b))
 | _=>False
def uV(P:Program)(op:BinOp)(t:TypeId)(Y:Operand)(x y:Value)(F:Value→Prop)(els:Prop):Prop:=
 match x,y with
 | .int k a,.int k' b=>match kM op with
  | true=>kC op k a b F
  | false=>match kEq k k' with
   | true=>rA op k a b F
   | false=>False
 | .string a,.string b=>qH op a b F
 | .bool a,.bool b=>match P.underlying t with
  | some .bool=>eqB op (a==b) F
  | _=>els
 | .pointer a,_=>match P.underlying t,Y with
  | some (.pointer _),.const (.pointer none)=>eqB op a.isNone F
  | _,_=>els
 | .slice a _ _,_=>match P.underlying t,Y with
  | some (.slice _),.const (.slice none _ _)=>eqB op a.isNone F
  | _,_=>els
 | .map a,_=>match P.underlying t,Y with
  | some (.map _ _),.const (.map none)=>eqB op a.isNone F
  | _,_=>els
 | .agg xs,.agg ys=>match P.eqGuardType P.depth t,cK P t,cM P 8 t with
  | false,true,some l=>tr l xs (tr l ys (eqB op (aL xs ys) F))
  | _,_,_=>els
 | _,_=>els
def unM(op:UnOp)(x:Value)(F:Value→Prop):Prop:=
 match op,x with
 | .not,.bool b=>F (.bool (!b))
 | .neg,.int k n=>F (.int k (k.wrap (0 - n)))
 | .xor,.int k n=>F (.int k (k.wrap (BitVec.ofInt k.bits (if k.signed then -1 else k.max) ^^^ BitVec.ofInt k.bits n).toNat))
 | _,_=>False
def iF(hi:Option Value)(len cap:Nat)(F:Nat→Prop):Prop:=
 match hi with
 | none=>F len
 | some (.int _ h)=>(0≤h∧h≤cap)∧F h.toNat
 | _=>False
def j4(lo:Option Value)(h:Nat)(F:Nat→Prop):Prop:=
 match lo with
 | none=>F 0
 | some (.int _ l)=>(0≤l∧l≤h)∧F l.toNat
 | _=>False
def fM(mx:Option Value)(cap:Nat)(F:Nat→Prop):Prop:=
 match mx with
 | none=>F cap
 | some (.int _ m)=>(0≤m∧m≤cap)∧F m.toNat
 | _=>False
def dN(P:Program)(t:TypeId):Nat:=
 match P.info? t with
 | some i=>i.size
 | none=>0
def hasType(P:Program)(t:TypeId):Bool:=
 match P.info? t with
 | some _=>true
 | none=>false
def nk(P:Program)(t:TypeId)(x:Value)(lo hi mx:Option Value)(F:Value→Prop)(els:Prop):Prop:=
 match P.underlying t,x with
 | some (.slice e),.slice a len cap=>match hasType P e && (mx.isNone || hi.isSome)with
  | true=>fM mx cap fun m=>iF hi len m fun h=>j4 lo h fun l=>
   ∀a',a'=(if m=l then a else a.map (·.add (l*dN P e)))→∀n',n'=h - l→∀c',c'=m - l→F (.slice a' n' c')
  | false=>False
 | some .string,.string s=>match mx with
  | none=>iF hi s.size s.size fun h=>j4 lo h fun l=>F (.string (s.extract l h))
  | some _=>False
 | some (.array n e),.pointer a=>match hasType P e && (mx.isNone || hi.isSome)with
  | true=>ay a fun p=>fM mx n fun m=>iF hi n m fun h=>j4 lo h fun l=>
   ∀a',a'=some (if m=l then p else p.add (l*dN P e))→∀n',n'=h - l→∀c',c'=m - l→F (.slice a' n' c')
  | false=>False
 | _,_=>els
def uK(P:Program)(t:TypeId)(x i:Value)(F:Value→Prop):Prop:=
 match P.underlying t,x,i with
 | some (.slice e),.slice a n _,.int _ i=>match hasType P e with
  | true=>(0≤i∧i<n)∧ay a fun p=>F (.pointer (some (p.add (i.toNat *dN P e))))
  | false=>False
 | some (.array n e),.pointer a,.int _ i=>match hasType P e with
  | true=>(0≤i∧i<n)∧ay a fun p=>F (.pointer (some (p.add (i.toNat *dN P e))))
  | false=>False
 | _,_,_=>False
def nC(P:Program)(s:TypeId)(x:Value)(f:Nat)(F:Value→Prop):Prop:=
 match P.underlying s with
 | some (.struct fields)=>match fields[f]? with
  | some fd=>match P.info? fd.type with
   | some i=>match Nat.beq i.size 0 with
    | false=>match x with
     | .pointer a=>ay a fun p=>F (.pointer (some (p.add fd.offset)))
     | _=>False
    | true=>False
   | none=>False
  | none=>False
 | _=>False
def rM(P:Program)(src dst:TypeId)(x:Value)(F:Value→Prop)(els:Prop):Prop:=
 match P.underlying src,P.underlying dst,x with
 | some _,some (.int k),.int _ n=>F (.int k (k.wrap n))
 | some _,some .string,.string s=>F (.string s)
 | _,_,_=>els
def QpP:Option (List PanicEntry→World→Prop)→List PanicEntry→World→Prop
 | none,_,_=>False
 | some q,ch,w=>q ch w
def iE(P:Program)(f:FuncId):Bool:=
 match P.funcs[f]? with
 | some fn=>fn.body.isSome && !(fn.name== "runtime.NumGoroutine")
 | none=>false
def setRow(p:Addr):Nat→List Value→World→World
 | _,[],w=>w
 | i,v::r,w=>setRow p (i+1) r (w.setCell (p.add i) v)
def Blk(w:World)(g:Nat)(cs:Array Value)(T:TypeId):Prop:=w.heap[g]? =some (.cells cs T (0,0))
def setAt(cs:Array Value)(o:Nat):List Value→Array Value
 | []=>cs
 | v::r=>setAt (cs.setIfInBounds o v) (o+1) r
structure aY(w:World)(g:Nat)(cs:Array Value)(T:TypeId)(w2:World):Prop where
 blk:Blk w2 g cs T
 kept:Kept (fun k=>k≠g) w w2
 size:w2.heap.size=w.heap.size
def aD(w:World)(p:Addr)(vs:List Value)(K:World→Prop):Prop:=
 ∃(g o:Nat)(cs:Array Value)(T:TypeId),p=⟨g,o,none⟩∧Blk w g cs T∧o+vs.length≤cs.size∧∀w2,aY w g (setAt cs o vs) T w2→K w2
def uE:List Value→Prop→Prop
 | [],F=>F
 | v::r,F=>one? v (uE r F)
def ir(K:ax)(v:Value)(w':World):Prop:=
 match v with
 | .pointer (some ⟨b,0,none⟩)=>∀(g:Nat)(w2:World),g=b→w2=w'→K (.pointer (some ⟨g,0,none⟩)) w2
 | .slice (some ⟨b,0,none⟩) n c=>∀(g:Nat)(w2:World),g=b→w2=w'→K (.slice (some ⟨g,0,none⟩) n c) w2
 | v=>K v w'
theorem jV {K:ax} {v:Value} {w':World}(h:ir K v w'):K v w':=by
 unfold ir at h
 split at h
 ·exact h _ _ rfl rfl
 ·exact h _ _ rfl rfl
 ·exact h
def mi(P:Program)(C:List Nat)(Y:Bool)(v:Value)(args:Array Value)(w:World)(R:Ending→World→Prop):Prop:=
 match v with
 | .func (.func f) first cap=>(match C.elem f with
  | true=>Calls P f (first++args++cap) w R
  | false=>False)
 | .func (.yield l) first _=>(match Y with
  | true=>YieldAt Fence.wide 0 P l (first++args) w R
  | false=>False)
 | _=>False
def rq(P:Program)(t:TypeId)(name:String):Option FuncId:=
 match P.info? t,P.underlying t with
 | some _,some (.pointer _)=>none
 | some i,some _=>(match i.methods.find? (·.name==name)with
  | some m=>(match m.func,m.path.toList with
   | some (f,false),[]=>some f
   | _,_=>none)
  | none=>none)
 | _,_=>none
theorem pN {P:Program} {t:TypeId} {name:String} {f:FuncId} {u:Value}(h:rq P t name=some f)(w:World):(method (P.types.size+Made.depth) t u name).run P w= .ok (f,u) w:=by
 obtain⟨n,hn⟩:∃n,P.types.size+Made.depth=n+1:=⟨P.types.size+Made.depth - 1,by unfold Made.depth;omega⟩
 rw [hn]
 unfold rq at h
 split at h
 ·cases h
 ·rename_i i d hi hu hd
  split at h
  ·rename_i m hm
   split at h
   ·rename_i f' hf hp
    injection h with h
    subst h
    have hm':i.methods.find? (fun m=>m.name==name)=some m:=hm
    cases d<;>simp_all [method,typeInfo,follow,receiverAt,underlying,Place.get]
   ·cases h
  ·cases h
 ·cases h
def vP(P:Program)(C:List Nat)(v:Value)(name:String)(args:Array Value)(w:World)(R:Ending→World→Prop):Prop:=
 ∃(t:TypeId)(u:Value)(f:Nat),v= .iface t u∧rq P t name=some f∧C.elem f=true∧Calls P f (#[u]++args) w R
def oS(P:Program)(t:TypeId)(K:ax)(Qp:Option (List PanicEntry→World→Prop)):Ending→World→Prop:=
 match Qp with
 | none=>fun e w'=>exT P t fun v=>e= .returned v∧K v w'
 | some q=>fun e w'=>(exT P t fun v=>e= .returned v∧K v w')∨∃ch,e= .panicked ch∧q ch w'
theorem fL {P:Program} {t:TypeId} {K:ax} {Qp:Option (List PanicEntry→World→Prop)} {e:Ending} {w':World}(h:oS P t K Qp e w'):(∃v,e= .returned v∧K v w')∨∃ch,e= .panicked ch∧QpP Qp ch w':=by
 unfold oS at h
 cases Qp with
 | none=>exact .inl (gU h)
 | some q=>exact h.imp gU id
def bZ(P:Program) {α:Type}:Sem α→Option α
 | .pure a=>some a
 | .program k=>bZ P (k P)
 | .mark _ k=>bZ P k
 | _=>none
theorem lQ {P:Program} {α:Type} {s:Sem α} {v:α}(h:bZ P s=some v)(w:World):s.run P w= .ok v w:=by
 induction s with
 | pure a=>simp only [bZ,Option.some.injEq]at h;subst h;rfl
 | program k ih=>exact ih _ h
 | mark m k ih=>exact ih h
 | _=>simp [bZ]at h
def gu(F:Value→Prop)(els:Prop):Option Next→Prop
 | some (.value v)=>F v
 | _=>els
def nA(P:Program)(t:TypeId)(x i:Value)(F:Value→Prop):Prop:=
 match P.underlying t,x,i with
 | some .string,.string s,.int _ i=>ay (if 0≤i then s[i.toNat]? else none) fun b=>F (.int .u8 b.toNat)
 | some (.array n e),.agg cs,.int _ i=>match kd P e false,hasType P e with
  | true,true=>(0≤i∧i<n)∧(dV P e).ex fun v=>cs[i.toNat *dN P e]? =some v∧F v
  | _,_=>False
 | _,_,_=>False
def vB(B:Option (Nat→Prop))(p:Addr)(F:Prop):Prop:=
 match B with
 | none=>F
 | some b=>b p.block∧F
def oH(P:Program)(B:Option (Nat→Prop))(o:Oper)(ρ:Operand→Value)(w:World)(F:Value→Prop)(els:Prop):Prop:=
 match o.op with
 | .move x=>F (ρ x)
 | .assign x=>F (ρ x)
 | .pick c a b=>match ρ c with
  | .bool t=>split t (F (ρ a)) (F (ρ b))
  | _=>False
 | .load t x=>match ρ x with
  | .pointer a=>match dV P t,kd P t (jK (dV P t)) && hasType P t && Nat.beq (eJ (dV P t)) (dN P t)with
   | s,true=>ay a fun p=>vB B p (s.ex fun v=>dH w p s v∧F v)
   | _,false=>False
  | _=>False
 | .nilCheck x=>match ρ x with
  | .pointer a=>ay a fun p=>F (.pointer (some p))
  | _=>els
 | .fieldAddr s x f=>nC P s (ρ x) f F
 | .indexAddr t x i=>uK P t (ρ x) (ρ i) F
 | .index t x i=>nA P t (ρ x) (ρ i) F
 | .binOp op t x y _=>uV P op t y (ρ x) (ρ y) F els
 | .unOp op _ x=>unM op (ρ x) F
 | .convert src dst x=>rM P src dst (ρ x) F els
 | .slice t x lo hi mx=>nk P t (ρ x) (lo.map ρ) (hi.map ρ) (mx.map ρ) F els
 | .build .. =>gu F els (bZ P (execOp ρ o))
 | .field .. =>gu F els (bZ P (execOp ρ o))
 | .extract .. =>gu F els (bZ P (execOp ρ o))
 | .makeInterface .. =>gu F els (bZ P (execOp ρ o))
 | .typeAssert .. =>gu F els (bZ P (execOp ρ o))
 | .makeFunc .. =>gu F els (bZ P (execOp ρ o))
 | .sliceToArrayPointer arr x=>match P.underlying arr,ρ x with
  | some (.array n _),.slice a len _=>n≤len∧F (.pointer a)
  | _,_=>els
 | .call c=>match c.callee,c.args.toList,c.argTypes.toList with
  | .builtin .len,[x],[t]=>match P.underlying t with
   | some (.slice _)=>(match ρ x with
    | .slice _ n _=>F (.int .i64 n)
    | _=>els)
   | some .string=>(match ρ x with
    | .string s=>F (.int .i64 s.size)
    | _=>els)
   | _=>els
  | .builtin .min,[x,y],_=>match ρ x,ρ y with
   | .int k a,.int _ b=>F (.int k (if b<a then b else a))
   | _,_=>els
  | .builtin .max,[x,y],_=>match ρ x,ρ y with
   | .int k a,.int _ b=>F (.int k (if b>a then b else a))
   | _,_=>els
  | _,_,_=>els
 | _=>els
def runM(P:Program)(s:Sem Next)(w:World)(K:ax):Prop:=
 match s.run P w with
 | .ok (.value v) w'=>K v w'
 | _=>False
def pq(o:Oper)(ρ:Operand→Value):Option (Sem Value):=
 match o.op with
 | .binOp op t x y _=>some (do eqGuard op t x y (ρ x) (ρ y);binOp op t (ρ x) (ρ y))
 | .convert src dst x=>some (convert src dst (ρ x))
 | .sliceToArrayPointer arr x=>some (Instr.arrayAt arr (ρ x))
 | .makeMap t r=>some (Instr.makeMap t (r.map ρ))
 | .makeSlice t l c=>some (Instr.makeSlice t (ρ l) (ρ c))
 | .lookup t x ix ok=>some (Instr.lookup t (ρ x) (ρ ix) ok)
 | .typeAssert x a b ok=>some (Instr.typeAssert (ρ x) a b ok)
 | .range t x=>some (Instr.range t (ρ x))
 | .next it s=>some (Instr.next (ρ it) s o.type)
 | .call c=>match c.callee with
  | .builtin .append=>some (Builtin.append_ c.argTypes o.type (c.args.map ρ))
  | .builtin .copy=>some (Builtin.copy_ c.argTypes o.type (c.args.map ρ))
  | .builtin .cap=>some (Builtin.cap_ c.argTypes o.type (c.args.map ρ))
  | .builtin .clear=>some (Builtin.clear_ c.argTypes o.type (c.args.map ρ))
  | .builtin .delete=>some (Builtin.delete_ c.argTypes o.type (c.args.map ρ))
  | .builtin .len=>some (Builtin.len_ c.argTypes o.type (c.args.map ρ))
  | .builtin .min=>some (Builtin.min_ c.argTypes o.type (c.args.map ρ))
  | .builtin .max=>some (Builtin.max_ c.argTypes o.type (c.args.map ρ))
  | _=>none
 | _=>none
def lK(P:Program)(o:Oper)(ρ:Operand→Value)(w:World)(K:ax):Prop:=
 match pq o ρ with
 | some s=>exT P o.type fun v=>∃w',s.run P w= .ok v w'∧K v w'
 | none=>exT P o.type fun v=>∃w',(execOp ρ o).run P w= .ok (.value v) w'∧K v w'
def rD(P:Program)(t:TypeId):Option TypeId:=
 match P.underlying t with
 | some (.slice e)=>(match P.info? e with
  | some i=>(match i.zero,Nat.beq i.size 1 with
   | some .nilIface,true=>some e
   | _,_=>none)
  | none=>none)
 | _=>none
theorem pS {P:Program} {t e:TypeId} {v:Value}(h:rD P t=some e)(h1:v.oneCell'=true)(w:World):(Instr.buildSlice t 1 #[(0,v)]).run P w= .ok (.slice (some ⟨w.heap.size,0,none⟩) 1 1) (w.alloc (.cells #[v] e)):=by
 unfold rD at h
 split at h
 ·rename_i e' hu
  split at h
  ·rename_i i hi
   split at h
   ·rename_i hz hs
    injection h with h
    subst h
    have hs:=Nat.eq_of_beq_eq_true hs
    have hc:v.cells= #[v]:=by cases v<;>first | rfl | cases h1
    have e1:(Array.range (1*1)).map (Value.nilIface.cells[· % Value.nilIface.cells.size]!)= #[.nilIface]:=by kernel_rfl
    exact run_buildSlice (P:=P) w t e' 1 #[(0,v)] #[v] i .nilIface hu hi hz (by omega) (by omega) (by rw [hs,e1];simp only [Instr.fill,hc];simp)
   ·cases h
  ·cases h
 ·cases h
def opM(P:Program)(C:List Nat)(Y:Bool)(o:Oper)(ρ:Operand→Value)(w:World)(K:ax)(Qp:Option (List PanicEntry→World→Prop)):Prop:=
 oH P none o ρ w (fun v=>K v w)<|
 match o.op with
 | .store t x y=>match ρ x with
  | .pointer a=>match dV P t with
   | .row n=>(match hasType P t && Nat.beq n (dN P t),ρ y with
    | true,.agg cs=>ay a fun p=>cs.size=n∧(∀v∈cs.toList,one? v True)∧aD w p cs.toList fun w'=>K undef w'
    | _,_=>False)
   | _=>match Nat.beq (ρ y).cells.toList.length (dN P t) && hasType P t with
    | true=>ay a fun p=>uE (ρ y).cells.toList (aD w p (ρ y).cells.toList fun w'=>K undef w')
    | false=>False
  | _=>False
 | .alloc _=>runM P (execOp ρ o) w (ir K)
 | .box .. =>runM P (execOp ρ o) w (ir K)
 | .buildSlice t n parts=>(match rD P t,n,parts.toList with
  | some e,1,[(0,x)]=>(ρ x).oneCell'=true∧ir K (.slice (some ⟨w.heap.size,0,none⟩) 1 1) (w.alloc (.cells #[ρ x] e))
  | _,_,_=>runM P (execOp ρ o) w (ir K))
 | .call c=>match c.callee with
  | .builtin _=>lK P o ρ w K
  | .value f=>mi P C Y (ρ f) (c.args.map ρ) w (oS P o.type K Qp)
  | .invoke x name=>vP P C (ρ x) name (c.args.map ρ) w (oS P o.type K Qp)
 | .mapUpdate t m k x=>∃w',(Instr.mapUpdate t (ρ m) (ρ k) (ρ x):Sem Unit).run P w= .ok () w'∧K undef w'
 | .insert t m k x=>∃w',(Instr.mapUpdate t (ρ m) (ρ k) (ρ x):Sem Unit).run P w= .ok () w'∧K undef w'
 | .go _=>False
 | .defer _=>False
 | _=>lK P o ρ w K
def Out(P:Program)(Y:Bool)(K:ax)(Qp:List PanicEntry→World→Prop):Result Next→Prop
 | .ok (.value v) w'=>K v w'
 | .ok .skip w'=>K undef w'
 | .ok (.enter f args) w'=>Calls P f args w' fun e w''=>(∃v,e= .returned v∧K v w'')∨∃ch,e= .panicked ch∧Qp ch w''
 | .ok (.round l f tmps assign body) w'=>Y=true∧RoundIn Fence.wide 0 P l f tmps assign body w' fun e w''=>(∃v,e= .returned v∧K v w'')∨∃ch,e= .panicked ch∧Qp ch w''
 | .halt (.panic v) w'=>Qp [{v,recovered:=false}] w'
 | _=>False
section
variable {P:Program} {o:Oper} {ρ:Operand→Value} {w:World} {F:Value→Prop} {els:Prop}
theorem bG {t:TypeId}(h:hasType P t=true):∃i,P.info? t=some i∧dN P t=i.size:=by
 unfold hasType at h
 unfold dN
 cases hi:P.info? t with
 | none=>simp [hi]at h
 | some i=>exact⟨i,rfl,rfl⟩
theorem pR {op:BinOp} {k:IntKind} {x y:Int}(hs:kM op=false)(h:rA op k x y F)(t:TypeId):∃v,F v∧∀w,(binOp op t (.int k x) (.int k y)).run P w= .ok v w:=by
 cases op<;>simp only [rA,kM]at h hs
 case quo=>obtain⟨h0,h⟩:=rl h;exact⟨_,h,fun w=>by simp [binOp,Op.intDiv,h0]⟩
 case rem=>obtain⟨h0,h⟩:=rl h;exact⟨_,h,fun w=>by simp [binOp,Op.intDiv,h0]⟩
 all_goals exact⟨_,h,fun w=>by simp only [binOp,ne_eq,not_true_eq_false,if_false];rfl⟩
theorem lB {op:BinOp} {k k':IntKind} {x y:Int}(h:kC op k x y F)(t:TypeId):∃v,F v∧∀w,(binOp op t (.int k x) (.int k' y)).run P w= .ok v w:=by
 cases op<;>simp only [kC]at h
 case shl=>obtain⟨h0,h⟩:=fY h;exact⟨_,h,fun w=>by simp [binOp,Op.shift,h0]⟩
 case shr=>obtain⟨h0,h⟩:=fY h;exact⟨_,h,fun w=>by simp [binOp,Op.shift,h0]⟩
theorem pw {op:BinOp} {x y:ByteArray}(h:qH op x y F)(t:TypeId):∃v,F v∧∀w,(binOp op t (.string x) (.string y)).run P w= .ok v w:=by
 cases op<;>simp only [qH]at h
 case add=>
  obtain⟨h0,h⟩:=h
  refine⟨_,h,fun w=>?_⟩
  have:¬(((x.size+y.size:Nat):Int)>i64.max):=by simp [IntKind.max,IntKind.bits,IntKind.signed];omega
  simp only [binOp,Op.stringOp,this,if_false]
  rfl
 all_goals exact⟨_,h,fun w=>rfl⟩
theorem bS(op:BinOp)(t:TypeId)(x y:Operand)(a b:Value)(w:World)(h:a≠ .nilIface)(h':∀u,a≠ .agg u):
 (eqGuard op t x y a b).run P w= .ok () w:=by
 have key:∀f g:Sem Unit,(match a,b with
  | .nilIface,.nilIface=>f
  | .agg _,.agg _=>g
  | _,_=>pure ())=pure ():=by
  intro f g
  split
  ·exact absurd rfl h
  ·exact absurd rfl (h' _)
  ·rfl
 cases op<;>first | rfl | (unfold eqGuard;exact congrArg (fun s:Sem Unit=>s.run P w) (key _ _))
theorem fj {op:BinOp} {b:Bool}(h:eqB op b F):∃v,F v∧((op= .eql∧v= .bool b)∨(op= .neq∧v= .bool (!b))):=by
 cases op<;>simp only [eqB]at h
 ·exact⟨_,h,.inl ⟨rfl,rfl⟩⟩
 ·exact⟨_,h,.inr ⟨rfl,rfl⟩⟩
theorem run_equalIn_bool'(d:Nat)(t:TypeId)(a b:Bool)(h:P.underlying t=some .bool)(w:World):(Op.equalIn (d+1) t (.bool a) (.bool b)).run P w= .ok (a==b) w:=by
 simp [Op.equalIn,run_underlying h]
theorem gH(t:TypeId)(a b:Bool)(h:P.underlying t=some .bool)(w:World):(Op.equal t (.bool a) (.bool b)).run P w= .ok (a==b) w:=run_equalIn_bool' 9999 t a b h w
theorem fC(d:Nat)(t e:TypeId)(a:Option Addr)(h:P.underlying t=some (.pointer e))(w:World):(Op.equalIn (d+1) t (.pointer a) (.pointer none)).run P w= .ok a.isNone w:=by
 cases a<;>simp [Op.equalIn,run_underlying h]
theorem ia(t e:TypeId)(a:Option Addr)(h:P.underlying t=some (.pointer e))(w:World):(Op.equal t (.pointer a) (.pointer none)).run P w= .ok a.isNone w:=fC 9999 t e a h w
theorem eK(d:Nat)(t e:TypeId)(a:Option Addr)(n c n' c':Nat)(h:P.underlying t=some (.slice e))(w:World):(Op.equalIn (d+1) t (.slice a n c) (.slice none n' c')).run P w= .ok a.isNone w:=by
 cases a<;>simp [Op.equalIn,run_underlying h]
theorem fB(t e:TypeId)(a:Option Addr)(n c n' c':Nat)(h:P.underlying t=some (.slice e))(w:World):(Op.equal t (.slice a n c) (.slice none n' c')).run P w= .ok a.isNone w:=eK 9999 t e a n c n' c' h w
theorem fD(d:Nat)(t k e:TypeId)(a:Option Nat)(h:P.underlying t=some (.map k e))(w:World):(Op.equalIn (d+1) t (.map a) (.map none)).run P w= .ok a.isNone w:=by
 cases a<;>simp [Op.equalIn,run_underlying h]
theorem ib(t k e:TypeId)(a:Option Nat)(h:P.underlying t=some (.map k e))(w:World):(Op.equal t (.map a) (.map none)).run P w= .ok a.isNone w:=fD 9999 t k e a h w
theorem eQ:∀ {a b c d:List Value},a.length=b.length→eqL (a++c) (b++d)=(eqL a b && eqL c d)
 | [],[],_,_,_=>by simp [eqL]
 | x::a,y::b,c,d,h=>by
  have:=eQ (a:=a) (b:=b) (c:=c) (d:=d) (by simpa using h)
  simp [eqL,this,Bool.and_assoc]
 | [],_::_,_,_,h=>by simp at h
 | _::_,[],_,_,h=>by simp at h
theorem aQ:∀ {l:List Sh} {vs:List Value},aZ l vs=true→vs.length=l.length
 | [],[],_=>rfl
 | .int k::l,.int k' x::vs,h=>by
  unfold aZ at h
  split at h
  ·simp [aQ h]
  ·cases h
 | .bool::l,.bool _::vs,h=>by simp [aQ (show aZ l vs=true from h)]
 | .str::l,.string _::vs,h=>by simp [aQ (show aZ l vs=true from h)]
 | [],_::_,h=>by simp [aZ]at h
 | s::l,[],h=>by cases s<;>simp [aZ]at h
 | .int k::l,.bool _::vs,h | .int k::l,.float _ _::vs,h | .int k::l,.complex _ _ _::vs,h | .int k::l,.string _::vs,h | .int k::l,.pointer _::vs,h | .int k::l,.slice _ _ _::vs,h | .int k::l,.map _::vs,h | .int k::l,.chan _::vs,h | .int k::l,.func _ _ _::vs,h | .int k::l,.nilFunc::vs,h | .int k::l,.iface _ _::vs,h | .int k::l,.nilIface::vs,h | .int k::l,.agg _::vs,h | .int k::l,.tuple _::vs,h=>by simp [aZ]at h
 | .bool::l,.int _ _::vs,h | .bool::l,.float _ _::vs,h | .bool::l,.complex _ _ _::vs,h | .bool::l,.string _::vs,h | .bool::l,.pointer _::vs,h | .bool::l,.slice _ _ _::vs,h | .bool::l,.map _::vs,h | .bool::l,.chan _::vs,h | .bool::l,.func _ _ _::vs,h | .bool::l,.nilFunc::vs,h | .bool::l,.iface _ _::vs,h | .bool::l,.nilIface::vs,h | .bool::l,.agg _::vs,h | .bool::l,.tuple _::vs,h=>by simp [aZ]at h
 | .str::l,.bool _::vs,h | .str::l,.float _ _::vs,h | .str::l,.complex _ _ _::vs,h | .str::l,.int _ _::vs,h | .str::l,.pointer _::vs,h | .str::l,.slice _ _ _::vs,h | .str::l,.map _::vs,h | .str::l,.chan _::vs,h | .str::l,.func _ _ _::vs,h | .str::l,.nilFunc::vs,h | .str::l,.iface _ _::vs,h | .str::l,.nilIface::vs,h | .str::l,.agg _::vs,h | .str::l,.tuple _::vs,h=>by simp [aZ]at h
 | .ptr::l,_::vs,h | .slice::l,_::vs,h | .map::l,_::vs,h | .val::l,_::vs,h=>by simp [aZ]at h
theorem cG:∀ {l l':List Sh} {vs:List Value},aZ (l++l') vs=true→aZ l (vs.take l.length)=true∧aZ l' (vs.drop l.length)=true
 | [],l',vs,h=>by simpa [aZ]using h
 | s::l,l',[],h=>by cases s<;>simp [aZ]at h
 | s::l,l',v::vs,h=>by
  have key:aZ (l++l') vs=true∧(∀r,aZ (s::r) (v::vs.take l.length)=aZ r (vs.take l.length)):=by
   cases s<;>cases v<;>simp only [List.cons_append,aZ,Bool.false_eq_true]at h
   all_goals first
    | exact⟨h,fun r=>by simp [aZ]⟩
    | (split at h
       ·rename_i hk;exact⟨h,fun r=>by simp [aZ,hk]⟩
       ·cases h)
  obtain⟨h1,h2⟩:=cG key.1
  refine⟨?_,by simpa using h2⟩
  have:=key.2 l
  simp only [List.length_cons,List.take_succ_cons]
  rw [this]
  exact h1
def asV(P:Program)(t:TypeId)(l:List Value):Value:=
 match cK P t with
 | true=>.agg ⟨l⟩
 | false=>l.headD undef
theorem kO {m:Nat} {t:TypeId} {l:List Sh}(h:cM P (m+1) t=some l)(ha:cK P t=false):(isAgg t).run P w= .ok false w∧∃s,l= [s]:=by
 unfold cM at h
 unfold cK at ha
 cases hu:P.underlying t with
 | none=>simp [hu]at h
 | some d=>cases d<;>simp_all [isAgg,run_underlying hu]<;>exact⟨_,h.symm⟩
theorem cC {m:Nat} {t:TypeId} {l:List Sh} {i:TypeInfo}(h:cM P (m+1) t=some l)(hi:P.info? t=some i)(hs:i.size=l.length)(xs:Array Value)(off:Nat)
 (hf:aZ l ((xs.toList.drop off).take l.length)=true):(part t xs off).run P w= .ok (asV P t ((xs.toList.drop off).take l.length)) w:=by
 have hlen:=aQ hf
 cases ha:cK P t with
 | true=>
  have yj:(isAgg t).run P w= .ok true w:=by
   unfold cK at ha
   cases hu:P.underlying t with
   | none=>simp [hu]at ha
   | some d=>cases d<;>simp_all [isAgg,run_underlying hu]
  have hex:xs.extract off (off+l.length)=⟨(xs.toList.drop off).take l.length⟩:=by
   apply Array.ext'
   rw [Array.toList_extract]
   simp [List.extract]
  simp [part,yj,sizeOf,typeInfo,hi,hs,asV,ha,hex]
 | false=>
  obtain⟨yj,s,rfl⟩:=kO (w:=w) h ha
  have hx:∃v,xs[off]? =some v∧(xs.toList.drop off).take [s].length= [v]:=by
   cases hd:xs.toList.drop off with
   | nil=>rw [hd]at hlen;simp at hlen
   | cons v r=>
    refine⟨v,?_,by simp⟩
    have:=congrArg (·[0]?) hd
    simp at this
    exact this
  obtain⟨v,hv,ht⟩:=hx
  rw [ht]
  simp [part,yj,asV,ha,hv]
theorem dt {m d:Nat}(IH:∀(t:TypeId)(l:List Sh),cM P m t=some l→∀(w:World)(xs ys:List Value),aZ l xs=true→aZ l ys=true→(Op.equalIn d t (asV P t xs) (asV P t ys)).run P w= .ok (eqL xs ys) w)
 (w:World)(xs ys:Array Value):∀(fs:List Field)(off:Nat)(l:List Sh),iB P (cM P m) off fs=some l→aZ l (xs.toList.drop off)=true→aZ l (ys.toList.drop off)=true→
  (Op.eqFields d xs ys fs).run P w= .ok (eqL (xs.toList.drop off) (ys.toList.drop off)) w
 | [],off,l,h,hx,hy=>by
  simp only [iB,Option.some.injEq]at h
  subst h
  have e1:=aQ hx
  have e2:=aQ hy
  have e1:=List.eq_nil_of_length_eq_zero e1
  have e2:=List.eq_nil_of_length_eq_zero e2
  rw [e1,e2]
  rfl
 | f::fs,off,l,h,hx,hy=>by
  simp only [iB]at h
  split at h
  ·rename_i l1 i zR Md MY hi
   split at h
   ·rename_i l2 xS Ma
    simp only [Option.some.injEq]at h
    subst h
    have Mb:f.offset=off:=Nat.eq_of_beq_eq_true zR
    have B9:i.size=l1.length:=Nat.eq_of_beq_eq_true xS
    obtain⟨x1,x2⟩:=cG hx
    obtain⟨y1,y2⟩:=cG hy
    rw [List.drop_drop]at x2 y2
    have hm:∃m',m=m'+1:=by
     cases m with
     | zero=>simp [cM]at MY
     | succ m'=>exact⟨m',rfl⟩
    obtain⟨m',rfl⟩:=hm
    have p1:=cC (w:=w) MY hi B9 xs off x1
    have p2:=cC (w:=w) MY hi B9 ys off y1
    have p3:=IH f.type l1 MY w _ _ x1 y1
    have p4:=dt IH w xs ys fs (off+l1.length) l2 Ma x2 y2
    have hn:f.name≠ "_" :=by simpa using Md
    have Gv:eqL (xs.toList.drop off) (ys.toList.drop off)=(eqL ((xs.toList.drop off).take l1.length) ((ys.toList.drop off).take l1.length) && eqL (xs.toList.drop (off+l1.length)) (ys.toList.drop (off+l1.length))):=by
     have e1:xs.toList.drop off=(xs.toList.drop off).take l1.length++xs.toList.drop (off+l1.length):=by rw [← List.drop_drop,List.take_append_drop]
     have e2:ys.toList.drop off=(ys.toList.drop off).take l1.length++ys.toList.drop (off+l1.length):=by rw [← List.drop_drop,List.take_append_drop]
     have:=eQ (c:=xs.toList.drop (off+l1.length)) (d:=ys.toList.drop (off+l1.length)) ((aQ x1).trans (aQ y1).symm)
     rw [← e1,← e2]at this
     exact this
    rw [Gv]
    simp only [Op.eqFields,hn,ne_eq,not_false_eq_true,if_true,Sem.run_bind,Mb,p1,p2,p3,Result.andThen_ok]
    cases eqL ((xs.toList.drop off).take l1.length) ((ys.toList.drop off).take l1.length)
    ·simp
    ·simpa using p4
   ·cases h
  ·cases h
theorem dB {m d:Nat} {e:TypeId} {l1:List Sh} {i:TypeInfo}(IH:∀(t:TypeId)(l:List Sh),cM P m t=some l→∀(w:World)(xs ys:List Value),aZ l xs=true→aZ l ys=true→(Op.equalIn d t (asV P t xs) (asV P t ys)).run P w= .ok (eqL xs ys) w)
 (w:World)(xs ys:Array Value)(he:cM P m e=some l1)(hi:P.info? e=some i)(hs:i.size=l1.length):∀(n k:Nat),aZ (jl l1 n) (xs.toList.drop (k*l1.length))=true→aZ (jl l1 n) (ys.toList.drop (k*l1.length))=true→
  (Op.eqItems d e (P.cellsOf e) xs ys (List.range' k n)).run P w= .ok (eqL (xs.toList.drop (k*l1.length)) (ys.toList.drop (k*l1.length))) w
 | 0,k,hx,hy=>by
  have e1:=List.eq_nil_of_length_eq_zero (aQ hx)
  have e2:=List.eq_nil_of_length_eq_zero (aQ hy)
  rw [e1,e2]
  rfl
 | n+1,k,hx,hy=>by
  have hc:P.cellsOf e=l1.length:=by simp [Program.cellsOf,hi,hs]
  obtain⟨x1,x2⟩:=cG (l:=l1) (l':=jl l1 n) hx
  obtain⟨y1,y2⟩:=cG (l:=l1) (l':=jl l1 n) hy
  have hk:k*l1.length+l1.length=(k+1)*l1.length:=by rw [Nat.add_mul,Nat.one_mul]
  rw [List.drop_drop,hk]at x2 y2
  have hm:∃m',m=m'+1:=by
   cases m with
   | zero=>simp [cM]at he
   | succ m'=>exact⟨m',rfl⟩
  obtain⟨m',rfl⟩:=hm
  have p1:=cC (w:=w) he hi hs xs _ x1
  have p2:=cC (w:=w) he hi hs ys _ y1
  have p3:=IH e l1 he w _ _ x1 y1
  have p4:=dB IH w xs ys he hi hs n (k+1) x2 y2
  rw [hc]at p4
  have Gv:eqL (xs.toList.drop (k*l1.length)) (ys.toList.drop (k*l1.length))=(eqL ((xs.toList.drop (k*l1.length)).take l1.length) ((ys.toList.drop (k*l1.length)).take l1.length) && eqL (xs.toList.drop ((k+1)*l1.length)) (ys.toList.drop ((k+1)*l1.length))):=by
   have e1:xs.toList.drop (k*l1.length)=(xs.toList.drop (k*l1.length)).take l1.length++xs.toList.drop ((k+1)*l1.length):=by rw [← hk,← List.drop_drop,List.take_append_drop]
   have e2:ys.toList.drop (k*l1.length)=(ys.toList.drop (k*l1.length)).take l1.length++ys.toList.drop ((k+1)*l1.length):=by rw [← hk,← List.drop_drop,List.take_append_drop]
   have:=eQ (c:=xs.toList.drop ((k+1)*l1.length)) (d:=ys.toList.drop ((k+1)*l1.length)) ((aQ x1).trans (aQ y1).symm)
   rw [← e1,← e2]at this
   exact this
  rw [Gv]
  simp only [List.range'_succ,Op.eqItems,Sem.run_bind,hc,p1,p2,p3,Result.andThen_ok]
  cases eqL ((xs.toList.drop (k*l1.length)).take l1.length) ((ys.toList.drop (k*l1.length)).take l1.length)
  ·simp
  ·simpa using p4
theorem da(d:Nat):∀(m:Nat)(t:TypeId)(l:List Sh),cM P m t=some l→∀(w:World)(xs ys:List Value),aZ l xs=true→aZ l ys=true→(Op.equalIn (d+m) t (asV P t xs) (asV P t ys)).run P w= .ok (eqL xs ys) w
 | 0,t,l,h,_,_,_,_,_=>by simp [cM]at h
 | m+1,t,l,h,w,xs,ys,hx,hy=>by
  have h0:=h
  unfold cM at h
  cases hu:P.underlying t with
  | none=>simp [hu]at h
  | some dd=>
   simp only [hu]at h
   cases dd<;>simp only [reduceCtorEq]at h
   case bool=>
    simp only [Option.some.injEq]at h
    subst h
    obtain⟨v,rfl⟩:=List.length_eq_one_iff.1 (aQ hx)
    obtain⟨u,rfl⟩:=List.length_eq_one_iff.1 (aQ hy)
    cases v<;>first | (simp [aZ]at hx;done) | skip
    cases u<;>first | (simp [aZ]at hy;done) | skip
    simp only [asV,cK,hu,eqL,cr,Bool.and_true,List.headD_cons]
    exact run_equalIn_bool' (d+m) t _ _ hu w
   case int k=>
    simp only [Option.some.injEq]at h
    subst h
    obtain⟨v,rfl⟩:=List.length_eq_one_iff.1 (aQ hx)
    obtain⟨u,rfl⟩:=List.length_eq_one_iff.1 (aQ hy)
    cases v<;>first | (simp [aZ]at hx;done) | skip
    cases u<;>first | (simp [aZ]at hy;done) | skip
    rename_i k1 a k2 b
    have e1:kEq k k1=true:=by
     cases h:kEq k k1
     ·simp [aZ,h]at hx
     ·rfl
    have e2:kEq k k2=true:=by
     cases h:kEq k k2
     ·simp [aZ,h]at hy
     ·rfl
    obtain rfl:=gS e1
    obtain rfl:=gS e2
    simp only [asV,cK,hu,eqL,cr,Bool.and_true,List.headD_cons]
    exact run_equalIn_int w (d+m) t _ _ a b hu
   case string=>
    simp only [Option.some.injEq]at h
    subst h
    obtain⟨v,rfl⟩:=List.length_eq_one_iff.1 (aQ hx)
    obtain⟨u,rfl⟩:=List.length_eq_one_iff.1 (aQ hy)
    cases v<;>first | (simp [aZ]at hx;done) | skip
    cases u<;>first | (simp [aZ]at hy;done) | skip
    simp only [asV,cK,hu,eqL,cr,Bool.and_true,List.headD_cons]
    exact run_equalIn_string w (d+m) t _ _ hu
   case struct fs=>
    split at h
    ·cases h
    ·rename_i hst
     have hfo:P.fieldsOf t=fs:=by simp [Program.fieldsOf,hu]
     have:=dt (d:=d+m) (fun t l ht w xs ys=>da d m t l ht w xs ys) w ⟨xs⟩ ⟨ys⟩ fs.toList 0 l h (by simpa using hx) (by simpa using hy)
     simp only [asV,cK,hu]
     rw [show d+(m+1)=d+m+1 from rfl,run_equalIn_struct w (d+m) t ⟨xs⟩ ⟨ys⟩ (by rw [hfo];exact hu) hst,hfo]
     simpa using this
   case array n e=>
    split at h
    ·rename_i l1 i Mg hi
     split at h
     ·rename_i hs
      simp only [Option.some.injEq]at h
      subst h
      have hs':i.size=l1.length:=Nat.eq_of_beq_eq_true hs
      have:=dB (d:=d+m) (fun t l ht w xs ys=>da d m t l ht w xs ys) w ⟨xs⟩ ⟨ys⟩ Mg hi hs' n 0 (by simpa using hx) (by simpa using hy)
      simp only [asV,cK,hu]
      rw [show d+(m+1)=d+m+1 from rfl,run_equalIn_array w (d+m) ⟨xs⟩ ⟨ys⟩ hu hi,List.range_eq_range']
      simpa using this
     ·cases h
    ·cases h
theorem pT {m:Nat} {t:TypeId} {l:List Sh} {op:BinOp} {xs ys:Array Value} {X Y:Operand}(hg:P.eqGuardType P.depth t=false)(h:cM P m t=some l)(hm:m≤10000)(yj:cK P t=true)(hx:aZ l xs.toList=true)(hy:aZ l ys.toList=true)(ho:op= .eql∨op= .neq)(w:World):
 (do eqGuard op t X Y (.agg xs) (.agg ys);binOp op t (.agg xs) (.agg ys):Sem Value).run P w= .ok (.bool (if op= .eql then aL xs ys else !(aL xs ys))) w:=by
 have he:=da (10000 - m) m t l h w xs.toList ys.toList hx hy
 rw [show 10000 - m+m=10000 by omega]at he
 simp only [asV,yj]at he
 rw [Sem.run_bind,run_eqGuard_agg w op t X Y xs ys hg]
 rcases ho with rfl | rfl
 ·rw [Result.andThen_ok,run_eql_struct w t xs ys,he]
  rfl
 ·rw [Result.andThen_ok,run_neq_struct w t xs ys,he]
  rfl
theorem rQ {op:BinOp} {t:TypeId} {X Y:Operand} {ρ:Operand→Value}(hc:∀v,ρ (.const v)=v)(h:uV P op t Y (ρ X) (ρ Y) F els):
 (∃v,F v∧∀w,(do eqGuard op t X Y (ρ X) (ρ Y);binOp op t (ρ X) (ρ Y):Sem Value).run P w= .ok v w)∨els:=by
 unfold uV at h
 split at h
 ·rename_i k a k' b hx hy
  rw [hx,hy]
  split at h
  ·obtain⟨v,hv,hr⟩:=lB h t
   exact .inl ⟨v,hv,fun w=>by rw [Sem.run_bind,bS _ _ _ _ _ _ _ (by simp) (by simp)];exact hr w⟩
  ·rename_i hs
   split at h
   ·rename_i hk
    obtain rfl:=gS hk
    obtain⟨v,hv,hr⟩:=pR hs h t
    exact .inl ⟨v,hv,fun w=>by rw [Sem.run_bind,bS _ _ _ _ _ _ _ (by simp) (by simp)];exact hr w⟩
   ·exact h.elim
 ·rename_i a b hx hy
  rw [hx,hy]
  obtain⟨v,hv,hr⟩:=pw h t
  exact .inl ⟨v,hv,fun w=>by rw [Sem.run_bind,bS _ _ _ _ _ _ _ (by simp) (by simp)];exact hr w⟩
 ·rename_i a b hx hy
  rw [hx,hy]
  split at h
  ·rename_i ht
   obtain⟨v,hv,ho⟩:=fj h
   refine .inl ⟨v,hv,fun w=>?_⟩
   rw [Sem.run_bind,bS _ _ _ _ _ _ _ (by simp) (by simp)]
   rcases ho with⟨rfl,rfl⟩ | ⟨rfl,rfl⟩<;>simp [binOp,gH t a b ht]
  ·exact .inr h
 ·rename_i a hx
  split at h
  ·rename_i ht
   obtain⟨v,hv,ho⟩:=fj h
   refine .inl ⟨v,hv,fun w=>?_⟩
   rw [hx,hc,Sem.run_bind,bS _ _ _ _ _ _ _ (by simp) (by simp)]
   rcases ho with⟨rfl,rfl⟩ | ⟨rfl,rfl⟩<;>simp [binOp,ia t _ a ht]
  ·exact .inr h
 ·rename_i a n c hx
  split at h
  ·rename_i ht
   obtain⟨v,hv,ho⟩:=fj h
   refine .inl ⟨v,hv,fun w=>?_⟩
   rw [hx,hc,Sem.run_bind,bS _ _ _ _ _ _ _ (by simp) (by simp)]
   rcases ho with⟨rfl,rfl⟩ | ⟨rfl,rfl⟩<;>simp [binOp,fB t _ a _ _ _ _ ht]
  ·exact .inr h
 ·rename_i a hx
  split at h
  ·rename_i ht
   obtain⟨v,hv,ho⟩:=fj h
   refine .inl ⟨v,hv,fun w=>?_⟩
   rw [hx,hc,Sem.run_bind,bS _ _ _ _ _ _ _ (by simp) (by simp)]
   rcases ho with⟨rfl,rfl⟩ | ⟨rfl,rfl⟩<;>simp [binOp,ib t _ _ a ht]
  ·exact .inr h
 ·rename_i xs ys hx hy
  rw [hx,hy]
  split at h
  ·rename_i l hg yj hl
   obtain⟨f1,h⟩:=l9 h
   obtain⟨f2,h⟩:=l9 h
   obtain⟨v,hv,ho⟩:=fj h
   refine .inl ⟨v,hv,fun w=>?_⟩
   rw [pT hg hl (by omega) yj f1 f2 (ho.imp And.left And.left) w]
   rcases ho with⟨rfl,rfl⟩ | ⟨rfl,rfl⟩<;>rfl
  ·exact .inr h
 ·exact .inr h
theorem lR {s:Sem Next}(h:gu F els (bZ P s)):(∃v,F v∧∀w,s.run P w= .ok (.value v) w)∨els:=by
 unfold gu at h
 split at h
 ·rename_i v hv
  exact .inl ⟨v,h,fun w=>lQ hv w⟩
 ·exact .inr h
theorem sH {op:UnOp} {x:Value}(h:unM op x F):∃v,F v∧∀w,(Op.unary op x).run P w= .ok v w:=by
 unfold unM at h
 split at h
 ·exact⟨_,h,fun w=>rfl⟩
 ·exact⟨_,h,fun w=>rfl⟩
 ·exact⟨_,h,fun w=>rfl⟩
 ·exact h.elim
theorem rE {t:TypeId} {x i:Value}(h:uK P t x i F):∃v,F v∧∀w,(Instr.indexAt t x i).run P w= .ok v w:=by
 unfold uK at h
 split at h
 ·rename_i e a n c k j ht
  split at h
  ·rename_i he
   obtain⟨ti,hi,hs⟩:=bG he
   obtain⟨hb,h⟩:=h
   obtain⟨p,rfl,h⟩:=bD h
   refine⟨_,h,fun w=>?_⟩
   simp [Instr.indexAt,asIntOf,run_underlying ht,hb,sizeOf,typeInfo,hi,hs]
  ·exact h.elim
 ·rename_i n e a k j ht
  split at h
  ·rename_i he
   obtain⟨ti,hi,hs⟩:=bG he
   obtain⟨hb,h⟩:=h
   obtain⟨p,rfl,h⟩:=bD h
   refine⟨_,h,fun w=>?_⟩
   simp [Instr.indexAt,asIntOf,run_underlying ht,hb,sizeOf,typeInfo,hi,hs,Instr.sureAddr]
  ·exact h.elim
 ·exact h.elim
theorem nB {s:TypeId} {x:Value} {f:Nat}(h:nC P s x f F):∃v,F v∧∀w,(Instr.fieldAt s x f).run P w= .ok v w:=by
 unfold nC at h
 split at h
 ·rename_i fields hs
  split at h
  ·rename_i fd hf
   split at h
   ·rename_i i hi
    split at h
    ·rename_i hz
     split at h
     ·obtain⟨p,rfl,h⟩:=bD h
      have ND:¬i.size=0:=by intro e;rw [e]at hz;simp at hz
      refine⟨_,h,fun w=>?_⟩
      simp [Instr.fieldAt,run_underlying hs,hf,Instr.sureAddr,fieldPlace,sizeOf,typeInfo,hi,ND]
     ·exact h.elim
    ·exact h.elim
   ·exact h.elim
  ·exact h.elim
 ·exact h.elim
theorem pV {src dst:TypeId} {x:Value}(h:rM P src dst x F els):(∃v,F v∧∀w,(convert src dst x).run P w= .ok v w)∨els:=by
 unfold rM at h
 split at h
 ·rename_i a k n hs hd
  exact .inl ⟨_,h,fun w=>by unfold convert;simp [run_underlying hs,run_underlying hd,Conv.intToInt]⟩
 ·rename_i a s hs hd
  exact .inl ⟨_,h,fun w=>by unfold convert;simp [run_underlying hs,run_underlying hd]⟩
 ·exact .inr h
theorem ny {t:TypeId} {x i:Value}(h:nA P t x i F):∃v,F v∧∀w,(Instr.index t x i).run P w= .ok v w:=by
 unfold nA at h
 split at h
 ·rename_i s k j ht
  obtain⟨b,hb,h⟩:=bD h
  exact⟨_,h,fun w=>by simp [Instr.index,asIntOf,run_underlying ht,hb]⟩
 ·rename_i n e cs k j ht
  split at h
  ·rename_i ha he
   obtain⟨ti,hi,hs⟩:=bG he
   obtain⟨hb,h⟩:=h
   obtain⟨v,hv,h⟩:=Sh2.dJ h
   refine⟨_,h,fun w=>?_⟩
   have yj:=ka ha w
   simp [Instr.index,asIntOf,run_underlying ht,hb,part,yj,sizeOf,typeInfo,hi,← hs,hv]
  ·exact h.elim
 ·exact h.elim
theorem run_sliceBound {k:IntKind} {i:Int} {y:Nat} {code:BoundsCode}(h:0≤i∧i≤y)(w:World):(Instr.sliceBound (.int k i) y code).run P w= .ok i.toNat w:=by
 unfold Instr.sliceBound
 show((if 0≤i∧i≤(y:Int)then pure i.toNat else boundsPanic k i y code:Sem Nat)).run P w=_
 rw [if_pos h]
 rfl
theorem fN {lo:Option Value} {H:Nat} {G:Nat→Prop} {code:BoundsCode}(h:j4 lo H G):∃l,G l∧
 ∀w,(match lo with | some v=>Instr.sliceBound v H code | none=>pure 0:Sem Nat).run P w= .ok l w:=by
 unfold j4 at h
 split at h
 ·exact⟨_,h,fun w=>rfl⟩
 ·obtain⟨hb,h⟩:=h
  exact⟨_,h,fun w=>run_sliceBound hb w⟩
 ·exact h.elim
theorem eR {isSlice:Bool} {len cap:Nat} {lo hi mx:Option Value} {G:Nat→Nat→Nat→Prop}(zd:mx=none∨hi≠none)
 (h:fM mx cap fun m=>iF hi len m fun h=>j4 lo h fun l=>G l h m):∃l h m,G l h m∧∀w,(Instr.sliceBounds isSlice len cap lo hi mx).run P w= .ok (l,h,m) w:=by
 unfold Instr.sliceBounds
 cases mx with
 | none=>
  simp only [fM]at h
  cases hi with
  | none=>
   simp only [iF]at h
   obtain⟨l,hG,hl⟩:=fN (P:=P) (code:= .sliceB) h
   refine⟨l,_,_,hG,fun w=>?_⟩
   have:=hl w
   cases lo with
   | none=>simp at this ⊢;exact this
   | some v=>simp at this ⊢;simp [this]
  | some hv=>
   simp only [iF]at h
   split at h
   ·cases ‹some hv=none›
   ·rename_i k H heq
    obtain rfl:hv= .int k H:=by injection heq
    obtain⟨hb,h⟩:=h
    obtain⟨l,hG,hl⟩:=fN (P:=P) (code:= .sliceB) h
    refine⟨l,_,_,hG,fun w=>?_⟩
    have:=hl w
    have e2:=fun c=>run_sliceBound (P:=P) (k:=k) (code:=c) hb w
    cases lo with
    | none=>simp [e2];simpa using this
    | some v=>simp at this ⊢;simp [e2,this]
   ·exact h.elim
 | some mv=>
  rcases zd with zd | zd
  ·cases zd
  cases hi with
  | none=>exact absurd rfl zd
  | some hv=>
  simp only [fM]at h
  split at h
  ·cases ‹some mv=none›
  ·rename_i k M heq
   obtain rfl:mv= .int k M:=by injection heq
   obtain⟨hm,h⟩:=h
   simp only [iF]at h
   split at h
   ·cases ‹some hv=none›
   ·rename_i k' H heq
    obtain rfl:hv= .int k' H:=by injection heq
    obtain⟨hb,h⟩:=h
    obtain⟨l,hG,hl⟩:=fN (P:=P) (code:= .slice3C) h
    refine⟨l,_,_,hG,fun w=>?_⟩
    have:=hl w
    have e1:=fun c=>run_sliceBound (P:=P) (k:=k) (code:=c) hm w
    have e2:=fun c=>run_sliceBound (P:=P) (k:=k') (code:=c) hb w
    cases lo with
    | none=>simp [e1,e2];simpa using this
    | some v=>simp [e1,e2];simp at this;simp [this]
   ·exact h.elim
  ·exact h.elim
theorem vJ {mx hi:Option Value}(h:(mx.isNone || hi.isSome)=true):mx=none∨hi≠none:=by
 cases mx<;>cases hi<;>simp_all
theorem nj {t:TypeId} {x:Value} {lo hi mx:Option Value}(h:nk P t x lo hi mx F els):(∃v,F v∧∀w,(Instr.sliceAt t x lo hi mx).run P w= .ok v w)∨els:=by
 unfold nk at h
 split at h
 ·rename_i e a len cap ht
  split at h
  ·rename_i he
   simp only [Bool.and_eq_true]at he
   obtain⟨ti,zT,hs⟩:=bG he.1
   obtain⟨l,hh,m,hF,hr⟩:=eR (P:=P) (isSlice:=true) (vJ he.2) h
   refine .inl ⟨_,hF _ rfl _ rfl _ rfl,fun w=>?_⟩
   simp [Instr.sliceAt,Instr.slice,run_underlying ht,hr,sizeOf,typeInfo,zT,hs]
  ·exact h.elim
 ·rename_i s ht
  split at h
  ·obtain⟨l,hh,m,hF,hr⟩:=eR (P:=P) (isSlice:=false) (len:=s.size) (cap:=s.size) (mx:=none) (G:=fun l h _=>F (.string (s.extract l h))) (.inl rfl) (by simpa [fM]using h)
   refine .inl ⟨_,hF,fun w=>?_⟩
   simp [Instr.sliceAt,Instr.slice,run_underlying ht,hr]
  ·exact h.elim
 ·rename_i n e a ht
  split at h
  ·rename_i he
   simp only [Bool.and_eq_true]at he
   obtain⟨ti,zT,hs⟩:=bG he.1
   obtain⟨p,rfl,h2⟩:=bD h
   obtain⟨l,hh,m,hF,hr⟩:=eR (P:=P) (isSlice:=false) (vJ he.2) h2
   refine .inl ⟨_,hF _ rfl _ rfl _ rfl,fun w=>?_⟩
   simp [Instr.sliceAt,Instr.sureAddr,run_underlying ht,hr,sizeOf,typeInfo,zT,hs]
  ·exact h.elim
 ·exact .inr h
theorem dG {p:Addr}:∀(vs:List Value)(i:Nat)(acc:Array Value),(∀j u,vs[j]? =some u→w.cell? (p.add (i+j))=some u)→
 (loadCellsFrom p i vs.length acc).run P w= .ok (acc++⟨vs⟩) w
 | [],i,acc,_=>by simp [loadCellsFrom]
 | v::r,i,acc,h=>by
  have h0:=h 0 v rfl
  simp only [Nat.add_zero]at h0
  have ih:=dG r (i+1) (acc.push v) (fun j u hu=>by
   have:=h (j+1) u (by simpa using hu)
   rwa [Nat.add_right_comm,Nat.add_assoc])
  simp only [List.length_cons,loadCellsFrom,load]
  simp only [Sem.run_bind]
  rw [show(Sem.load .plain (p.add i) Sem.pure).run P w= .ok v w by simp [Sem.run,h0]]
  simp only [Result.andThen_ok,ih]
  simp
theorem gn {p:Addr}:∀(vs:List Value)(i:Nat),dK w p i vs→∀j u,vs[j]? =some u→w.cell? (p.add (i+j))=some u
 | [],_,_,j,u,hu=>by simp at hu
 | v::r,i,h,j,u,hu=>by
  obtain⟨h0,h1⟩:=kQ h
  cases j with
  | zero=>simp at hu;subst hu;simpa using h0
  | succ j=>
   have:=gn r (i+1) h1 j u (by simpa using hu)
   rwa [show i+(j+1)=i+1+j by omega]
theorem fl {w':World} {p:Addr}(dQ:∀(i:Nat)(u:Value),w.cell? (p.add i)=some u→w'.cell? (p.add i)=some u):∀(vs:List Value)(i:Nat),dK w p i vs→dK w' p i vs
 | [],_,_=>trivial
 | [_],_,h=>dQ _ _ h
 | _::u::r,i,h=>⟨dQ _ _ h.1,fl dQ (u::r) (i+1) h.2⟩
theorem ra {B:Option (Nat→Prop)} {p:Addr} {F:Prop}(h:vB B p F):(∀b,B=some b→b p.block)∧F:=by
 cases B with
 | none=>exact⟨by simp,h⟩
 | some b=>exact⟨fun b' hb=>by cases hb;exact h.1,h.2⟩
theorem block_add(p:Addr)(i:Nat):(p.add i).block=p.block:=by unfold Addr.add;split<;>rfl
theorem kJ {B:Option (Nat→Prop)} {w':World} {p:Addr} {s:Sh2} {v:Value}(hB:∀b,B=some b→b p.block)(hb:Kept (held B w) w w')(h:dH w p s v):dH w' p s v:=by
 have dQ:∀(q:Addr)(u:Value),q.block=p.block→w.cell? q=some u→w'.cell? q=some u:=fun q u hq hu=>by
  refine(hb.cell (p:=q) ?_).trans hu
  cases B with
  | none=>exact World.block_lt_of_cell? w q hu
  | some b=>rw [hq];exact hB b rfl
 cases s with
 | one s=>exact dQ _ _ rfl h
 | agg l=>
  cases v<;>first | exact h.elim | skip
  rename_i cs
  simp only [dH]at h ⊢
  split at h
  ·exact fl (fun i u hu=>dQ _ u (block_add p i) hu) _ _ h
  ·exact h.elim
 | row n=>
  cases v<;>first | exact h.elim | skip
  exact⟨h.1,fun i u hu=>dQ _ _ (block_add p i) (h.2 i u hu)⟩
theorem fZ {p:Addr} {t:TypeId} {s:Sh2} {v:Value}(yj:kd P t (jK s)=true)(hi:hasType P t=true)(xS:Nat.beq (eJ s) (dN P t)=true)(h:dH w p s v):
 (Instr.loadAt t (.pointer (some p))).run P w= .ok v w:=by
 obtain⟨ti,L7,hs⟩:=bG hi
 have B9:ti.size=eJ s:=by rw [← hs];exact(Nat.eq_of_beq_eq_true xS).symm
 have Gw:=ka yj w
 have FM:(sizeOf t).run P w= .ok (eJ s) w:=by simp [sizeOf,typeInfo,L7,B9]
 cases s with
 | one s=>simp [Instr.loadAt,Instr.sureAddr,loadVar,Gw,jK,load,Sem.run,show w.cell? p=some v from h]
 | agg l=>
  cases v<;>first | exact h.elim | skip
  rename_i cs
  simp only [dH]at h
  split at h
  ·rename_i hn
   have BU:cs.toList.length=l.length:=Nat.eq_of_beq_eq_true hn
   have hr:=dG (P:=P) (p:=p) cs.toList 0 #[] (gn _ _ h)
   rw [BU]at hr
   simp [Instr.loadAt,Instr.sureAddr,loadVar,Gw,jK,FM,eJ,loadCells,hr]
  ·exact h.elim
 | row n=>
  cases v<;>first | exact h.elim | skip
  rename_i cs
  have hr:=dG (P:=P) (p:=p) cs.toList 0 #[] (fun j u hu=>by simpa using h.2 j u (by simpa using hu))
  have hn:cs.toList.length=n:=by simpa using h.1
  rw [hn]at hr
  simp [Instr.loadAt,Instr.sureAddr,loadVar,Gw,jK,FM,eJ,loadCells,hr]
theorem kG {v:Value} {p:Prop}(h:one? v p):p∧(∀u,v≠ .agg u)∧(∀u,v≠ .tuple u):=by
 cases v<;>simp_all [one?]
theorem dW {p:Addr} {K:World→Prop}:∀(vs:List Value)(i:Nat)(w:World),e7 p i vs w K→∃w',(storeCells p vs i).run P w= .ok () w'∧K w'
 | [],i,w,h=>⟨w,rfl,h⟩
 | v::r,i,w,h=>by
  obtain⟨⟨⟨u,hu⟩,hf,h⟩,h1,h2⟩:=kG h
  obtain⟨w',hr,hK⟩:=dW r (i+1) _ h
  refine⟨w',?_,hK⟩
  have hs:(store (p.add i) v).run P w= .ok () (w.setCell (p.add i) v):=by
   unfold store
   cases v<;>first | exact absurd rfl (h1 _) | exact absurd rfl (h2 _) | simp [Sem.run,hu,hf]
  simp [storeCells,hs,hr]
theorem iA(w:World)(q p:Addr)(v:Value):(w.setCell q v).frozen? p=w.frozen? p:=by
 unfold World.frozen? World.setCell
 simp only [Array.getElem?_modify]
 by_cases h:q.block=p.block
 ·simp only [h,if_true]
  cases hw:w.heap[p.block]? with
  | none=>rfl
  | some o=>cases o<;>rfl
 ·simp only [h,if_false]
theorem fm {w:World} {p:Addr} {u:Value}(q:Addr)(v:Value)(h:w.cell? p=some u):∃u',(w.setCell q v).cell? p=some u':=by
 unfold World.cell? World.setCell at *
 simp only [Array.getElem?_modify]
 by_cases hb:q.block=p.block
 ·simp only [hb,if_true]
  cases hw:w.heap[p.block]? with
  | none=>rw [hw]at h;cases h
  | some o=>
   rw [hw]at h
   cases o<;>simp only [reduceCtorEq]at h
   rename_i c e f
   simp only [Option.map_some]
   cases hs:p.spot.isSome
   ·simp only [hs,Bool.false_eq_true,if_false]at h ⊢
    have yQ:=(Array.getElem?_eq_some_iff.1 h).1
    cases q.spot.isSome
    ·simp only [Bool.false_eq_true,if_false]
     exact⟨_,Array.getElem?_eq_getElem (by simpa using yQ)⟩
    ·simp only [if_true]
     exact⟨_,h⟩
   ·simp only [hs,if_true,reduceCtorEq]at h
 ·simp only [hb,if_false]
  exact⟨u,h⟩
theorem eZ {p:Addr} {K:World→Prop}:∀(vs:List Value)(i:Nat)(w:World),(∀j,j<vs.length→(∃u,w.cell? (p.add (i+j))=some u)∧w.frozen? (p.add (i+j))=false)→(∀v∈vs,one? v True)→
 K (setRow p i vs w)→e7 p i vs w K
 | [],i,w,_,_,hK=>hK
 | v::r,i,w,h,h1,hK=>by
  have ih:=eZ r (i+1) (w.setCell (p.add i) v) (fun j hj=>by
   obtain⟨⟨u,hu⟩,hf⟩:=h (j+1) (by simp;omega)
   rw [show i+(j+1)=i+1+j by omega]at hu hf
   exact⟨fm _ _ hu,by rw [iA];exact hf⟩) (fun x hx=>h1 x (List.mem_cons_of_mem _ hx)) hK
  have h0:=h 0 (by simp)
  have hv:=(kG (h1 v (List.mem_cons_self ..))).2
  simp only [e7]
  cases v<;>first | exact absurd rfl (hv.1 _) | exact absurd rfl (hv.2 _) | exact⟨h0.1,h0.2,ih⟩
theorem bB(g o n:Nat):Addr.add ⟨g,o,none⟩ n=⟨g,o+n,none⟩:=by
 unfold Addr.add
 split
 ·rename_i h;rw [h,Nat.add_zero]
 ·rfl
theorem dE:∀(vs:List Value)(cs:Array Value)(o:Nat),(setAt cs o vs).size=cs.size
 | [],cs,o=>rfl
 | v::r,cs,o=>by rw [setAt,dE r];simp
theorem Blk.set {w:World} {g:Nat} {cs:Array Value} {T:TypeId}(h:Blk w g cs T)(o:Nat)(v:Value):aY w g (cs.setIfInBounds o v) T (w.setCell ⟨g,o,none⟩ v):=by
 refine⟨?_,⟨rfl,rfl,rfl,by simp [World.setCell],fun k hk=>?_⟩,by simp [World.setCell]⟩
 ·unfold Blk at *
  simp [World.setCell,Array.getElem?_modify,h]
 ·simp only [World.setCell,Array.getElem?_modify]
  rw [if_neg (fun e=>hk e.symm)]
theorem aY.trans {w w2 w3:World} {g:Nat} {cs cs':Array Value} {T T':TypeId}(h:aY w g cs T w2)(k:aY w2 g cs' T' w3):aY w g cs' T' w3:=
 ⟨k.blk,h.kept.trans k.kept,k.size.trans h.size⟩
theorem eA(g o:Nat)(T:TypeId):∀(vs:List Value)(i:Nat)(w:World)(cs:Array Value),Blk w g cs T→aY w g (setAt cs (o+i) vs) T (setRow ⟨g,o,none⟩ i vs w)
 | [],i,w,cs,h=>⟨h,Kept.refl _ _,rfl⟩
 | v::r,i,w,cs,h=>by
  have h1:=h.set (o+i) v
  have h2:=eA g o T r (i+1) (w.setCell ⟨g,o+i,none⟩ v) _ h1.blk
  simp only [setRow,setAt,bB]
  exact h1.trans h2
theorem lW:∀ {vs:List Value} {F:Prop},uE vs F→F∧∀v∈vs,one? v True
 | [],F,h=>⟨h,by simp⟩
 | v::r,F,h=>by
  have h1:=kG h
  obtain⟨h2,h3⟩:=lW h1.1
  refine⟨h2,fun u hu=>?_⟩
  rcases List.mem_cons.1 hu with rfl | hu
  ·cases u<;>first | exact absurd rfl (h1.2.1 _) | exact absurd rfl (h1.2.2 _) | exact trivial
  ·exact h3 u hu
theorem hY {p:Addr} {vs:List Value} {K:World→Prop}(h1:∀v∈vs,one? v True)(h:aD w p vs K):∃w',(storeCells p vs 0).run P w= .ok () w'∧K w':=by
 obtain⟨g,o,cs,T,rfl,hb,hs,hK⟩:=h
 refine dW (P:=P) _ _ _ (eZ _ _ _ (fun j hj=>?_) h1 (hK _ (by simpa using eA g o T vs 0 w cs hb)))
 rw [Nat.zero_add,bB]
 unfold Blk at hb
 refine⟨?_,by simp [World.frozen?,hb]⟩
 unfold World.cell?
 simp only [hb]
 exact⟨_,Array.getElem?_eq_getElem (by omega)⟩
theorem jQ {B:Option (Nat→Prop)}(hc:∀v,ρ (.const v)=v)(h:oH P B o ρ w F els):(∃v,F v∧∀w',Kept (held B w) w w'→(execOp ρ o).run P w'= .ok (.value v) w')∨els:=by
 obtain⟨dst,op,type,pos,after,guard⟩:=o
 cases op
 all_goals first | exact .inr h | (simp only [oH]at h)
 case move=>exact .inl ⟨_,h,fun _ _=>rfl⟩
 case assign=>exact .inl ⟨_,h,fun _ _=>rfl⟩
 case pick x y z=>
  split at h
  ·rename_i t ht
   rcases fy h with⟨rfl,h⟩ | ⟨rfl,h⟩
   ·exact .inl ⟨_,h,fun _ _=>by simp [execOp,ht,asBool]⟩
   ·exact .inl ⟨_,h,fun _ _=>by simp [execOp,ht,asBool]⟩
  ·exact h.elim
 case load t x=>
  split at h
  ·rename_i a ha
   split at h
   ·rename_i s hs Ba
    simp only [Bool.and_eq_true]at Ba
    obtain⟨p,rfl,h⟩:=bD h
    obtain⟨E7,h⟩:=ra h
    obtain⟨v,hl,hF⟩:=Sh2.dJ h
    refine .inl ⟨v,hF,fun w' hb=>?_⟩
    have:=fZ (P:=P) Ba.1.1 Ba.1.2 Ba.2 (kJ (fun b hB=>E7 b hB) hb hl)
    simp [execOp,ha,this]
   ·exact h.elim
  ·exact h.elim
 case nilCheck x=>
  split at h
  ·rename_i a ha
   obtain⟨p,rfl,h⟩:=bD h
   exact .inl ⟨_,h,fun _ _=>by simp [execOp,ha]⟩
  ·exact .inr h
 case fieldAddr s x f=>
  obtain⟨v,hF,hr⟩:=nB h
  exact .inl ⟨v,hF,fun w' _=>by simp [execOp,hr w']⟩
 case indexAddr t x i=>
  obtain⟨v,hF,hr⟩:=rE h
  exact .inl ⟨v,hF,fun w' _=>by simp [execOp,hr w']⟩
 case index t x i=>
  obtain⟨v,hF,hr⟩:=ny h
  exact .inl ⟨v,hF,fun w' _=>by simp [execOp,hr w']⟩
 case binOp op t x y yt=>
  rcases rQ hc (X:=x) h with⟨v,hF,hr⟩ | h
  ·exact .inl ⟨v,hF,fun w' _=>by simp only [execOp];rw [Sem.run_bind,hr w'];rfl⟩
  ·exact .inr h
 case unOp op t x=>
  obtain⟨v,hF,hr⟩:=sH (P:=P) h
  exact .inl ⟨v,hF,fun w' _=>by simp [execOp,hr w']⟩
 case convert s d x=>
  rcases pV h with⟨v,hF,hr⟩ | h
  ·exact .inl ⟨v,hF,fun w' _=>by simp [execOp,hr w']⟩
  ·exact .inr h
 case slice t x lo hi mx=>
  rcases nj h with⟨v,hF,hr⟩ | h
  ·exact .inl ⟨v,hF,fun w' _=>by simp [execOp,hr w']⟩
  ·exact .inr h
 case sliceToArrayPointer arr x=>
  split at h
  ·rename_i n e a len cap hu hx
   obtain⟨hle,h⟩:=h
   refine .inl ⟨_,h,fun w' _=>?_⟩
   have:¬len<n:=by omega
   simp [execOp,Instr.arrayAt,run_underlying hu,hx,this]
  ·exact .inr h
 case call c=>
  obtain⟨cal,args,ats⟩:=c
  simp only at h
  split at h
  ·rename_i x t ha ht
   obtain rfl:args= #[x]:=by rw [← ha]
   obtain rfl:ats= #[t]:=by rw [← ht]
   split at h
   ·rename_i e hu
    split at h
    ·rename_i a n k hx
     exact .inl ⟨_,h,fun w' _=>by simp [execOp,resolve,invoke,builtin,Builtin.len_,run_underlying hu,hx,goInt]⟩
    ·exact .inr h
   ·rename_i hu
    split at h
    ·rename_i s hx
     exact .inl ⟨_,h,fun w' _=>by simp [execOp,resolve,invoke,builtin,Builtin.len_,run_underlying hu,hx,goInt]⟩
    ·exact .inr h
   ·exact .inr h
  ·rename_i x y ha
   obtain rfl:args= #[x,y]:=by rw [← ha]
   split at h
   ·rename_i k a k' b hx hy
    exact .inl ⟨_,h,fun w' _=>by simp [execOp,resolve,invoke,builtin,Builtin.min_,Builtin.min2,hx,hy]⟩
   ·exact .inr h
  ·rename_i x y ha
   obtain rfl:args= #[x,y]:=by rw [← ha]
   split at h
   ·rename_i k a k' b hx hy
    exact .inl ⟨_,h,fun w' _=>by simp [execOp,resolve,invoke,builtin,Builtin.max_,Builtin.max2,hx,hy]⟩
   ·exact .inr h
  ·exact .inr h
 all_goals
  rcases lR h with⟨v,hF,hr⟩ | h
  ·exact .inl ⟨v,hF,fun w' _=>hr w'⟩
  ·exact .inr h
theorem qU {s:Sem Next} {K:ax}(h:runM P s w K):∃v w',s.run P w= .ok (.value v) w'∧K v w':=by
 unfold runM at h
 split at h
 ·rename_i v w' hr;exact⟨v,w',hr,h⟩
 ·exact h.elim
def cy(P:Program)(C:List Nat):Bool:=C.all (iE P)
theorem di {C:List Nat} {f:FuncId}(hC:cy P C=true)(h:C.elem f=true)(args:Array Value)(w:World):(callFunc f args).run P w= .ok (.enter f args) w:=by
 have hf:iE P f=true:=by
  unfold cy at hC
  exact List.all_eq_true.1 hC f (List.elem_iff.1 h)
 unfold iE at hf
 split at hf
 ·rename_i fn EG
  simp only [Bool.and_eq_true,Bool.not_eq_true']at hf
  obtain⟨hb,hn⟩:=hf
  have MZ:¬fn.body=none:=by intro e;rw [e]at hb;cases hb
  have BU:¬fn.name= "runtime.NumGoroutine" :=by intro e;rw [e]at hn;simp at hn
  simp [callFunc,EG,BU,MZ,program,Sem.run]
 ·cases hf
theorem qG {s:Sem Value}(h:pq o ρ=some s)(w:World) {v:Value} {w':World}(hr:s.run P w= .ok v w'):(execOp ρ o).run P w= .ok (.value v) w':=by
 obtain⟨dst,op,type,pos,after,guard⟩:=o
 have key:execOp ρ ⟨dst,op,type,pos,after,guard⟩=(do pure (.value (← s)))→(execOp ρ ⟨dst,op,type,pos,after,guard⟩).run P w= .ok (.value v) w':=by
  intro e
  rw [e,Sem.run_bind,hr]
  rfl
 cases op
 case call c=>
  obtain⟨cal,args,ats⟩:=c
  cases cal with
  | builtin b=>cases b<;>simp only [pq,Option.some.injEq,reduceCtorEq]at h<;>(subst h;exact key rfl)
  | _=>simp [pq]at h
 all_goals first | (simp only [pq,reduceCtorEq]at h;done) | (simp only [pq,Option.some.injEq]at h;subst h;exact key rfl)
theorem pD {K:ax}(h:lK P o ρ w K):∃v w',(execOp ρ o).run P w= .ok (.value v) w'∧K v w':=by
 unfold lK at h
 split at h
 ·rename_i s hs
  obtain⟨v,w',hr,hK⟩:=gU h
  exact⟨v,w',qG hs w hr,hK⟩
 ·obtain⟨v,w',hr,hK⟩:=gU h
  exact⟨v,w',hr,hK⟩
theorem sZ {C:List Nat} {Y:Bool} {K:ax} {Qp:Option (List PanicEntry→World→Prop)}(hC:cy P C=true)(hc:∀v,ρ (.const v)=v)(h:opM P C Y o ρ w K Qp):Out P Y K (QpP Qp) ((execOp ρ o).run P w):=by
 unfold opM at h
 have h0:=jQ hc h
 clear h
 rcases h0 with⟨v,hF,hr⟩ | h
 ·rw [hr w (Kept.refl _ _)]
  exact hF
 ·clear hc
  have gen:lK P o ρ w K→Out P Y K (QpP Qp) ((execOp ρ o).run P w):=by
   intro h
   obtain⟨v,w',hr,hK⟩:=pD h
   rw [hr]
   exact hK
  have gen':runM P (execOp ρ o) w (ir K)→Out P Y K (QpP Qp) ((execOp ρ o).run P w):=by
   intro h
   obtain⟨v,w',hr,hK⟩:=qU h
   rw [hr]
   exact jV hK
  have gen'':(∃w',(execOp ρ o).run P w= .ok .skip w'∧K undef w')→Out P Y K (QpP Qp) ((execOp ρ o).run P w):=by
   rintro⟨w',hr,hK⟩
   rw [hr]
   exact hK
  obtain⟨dst,op,type,pos,after,guard⟩:=o
  cases op
  all_goals first | exact gen h | exact gen' h | (simp only at h;done) | skip
  case mapUpdate t m k x=>
   obtain⟨w',hr,hK⟩:=h
   have:(execOp ρ {dst:=dst,op:= .mapUpdate t m k x,type:=type,pos:=pos,after:=after,guard:=guard}).run P w= .ok .skip w':=by
    simp only [execOp]
    rw [Sem.run_bind,hr]
    rfl
   rw [this]
   exact hK
  case insert t m k x=>
   obtain⟨w',hr,hK⟩:=h
   have:(execOp ρ {dst:=dst,op:= .insert t m k x,type:=type,pos:=pos,after:=after,guard:=guard}).run P w= .ok .skip w':=by
    simp only [execOp]
    rw [Sem.run_bind,hr]
    rfl
   rw [this]
   exact hK
  case buildSlice t n parts=>
   dsimp only at h
   split at h
   ·rename_i e x he hp
    obtain⟨h1,hK⟩:=h
    have hpa:parts= #[(0,x)]:=by apply Array.ext';exact hp
    subst hpa
    have hr:(execOp ρ {dst:=dst,op:= .buildSlice t 1 #[(0,x)],type:=type,pos:=pos,after:=after,guard:=guard}).run P w= .ok (.value (.slice (some ⟨w.heap.size,0,none⟩) 1 1)) (w.alloc (.cells #[ρ x] e)):=by
     have:=pS he h1 w
     simp only [execOp]
     rw [Sem.run_bind]
     have e1:(#[(0,x)]:Array (Nat×Operand)).map (fun(i,x)=>(i,ρ x))= #[(0,ρ x)]:=by simp
     rw [e1,this]
     rfl
    rw [hr]
    exact jV hK
   ·exact gen' h
  case store t x y=>
   simp only at h
   split at h
   ·rename_i a ha
    split at h
    ·rename_i n hrow
     split at h
     ·rename_i cs Ba hy
      simp only [Bool.and_eq_true]at Ba
      obtain⟨ti,L7,hs⟩:=bG Ba.1
      obtain⟨p,rfl,h⟩:=bD h
      obtain⟨w',hr,hK⟩:=hY (P:=P) h.2.1 h.2.2
      have hn:cs.size=ti.size:=by rw [← hs,← Nat.eq_of_beq_eq_true Ba.2];exact h.1
      have:(execOp ρ {dst:=dst,op:= .store t x y,type:=type,pos:=pos,after:=after,guard:=guard}).run P w= .ok .skip w':=by
       simp [execOp,ha,hy,Value.cells,Instr.storeAt,Instr.sureAddr,storeVar,sizeOf,typeInfo,L7,hn,hr]
      rw [this]
      exact hK
     ·exact h.elim
    split at h
    ·rename_i Ba
     simp only [Bool.and_eq_true]at Ba
     obtain⟨ti,L7,hs⟩:=bG Ba.2
     obtain⟨p,rfl,h⟩:=bD h
     obtain⟨h,h1⟩:=lW h
     obtain⟨w',hr,hK⟩:=hY (P:=P) h1 h
     have hn:(ρ y).cells.size=ti.size:=by rw [← hs,← Nat.eq_of_beq_eq_true Ba.1];simp
     have:(execOp ρ {dst:=dst,op:= .store t x y,type:=type,pos:=pos,after:=after,guard:=guard}).run P w= .ok .skip w':=by
      simp [execOp,ha,Instr.storeAt,Instr.sureAddr,storeVar,sizeOf,typeInfo,L7,hn,hr]
     rw [this]
     exact hK
    ·exact h.elim
   ·exact h.elim
  case call c=>
   obtain⟨cal,args,ats⟩:=c
   simp only at h
   split at h
   ·exact gen h
   ·rename_i f
    unfold mi at h
    split at h
    ·rename_i fn first cap hf
     split at h
     ·rename_i he
      have h1:=di (P:=P) hC he (first++args.map ρ++cap) w
      have:(execOp ρ {dst:=dst,op:= .call {callee:= .value f,args:=args,argTypes:=ats},type:=type,pos:=pos,after:=after,guard:=guard}).run P w= .ok (.enter fn (first++args.map ρ++cap)) w:=by
       simp only [execOp,resolve,hf,Deferred.ofValue]
       rw [Sem.run_bind]
       exact h1
      rw [this]
      exact Calls.mono h fun e w' he=>fL he
     ·exact h.elim
    ·rename_i l first _ hf
     cases Y with
     | false=>exact h.elim
     | true=>
      obtain⟨fn,tmps,assign,body,hy,NL⟩:=h
      have:(execOp ρ {dst:=dst,op:= .call {callee:= .value f,args:=args,argTypes:=ats},type:=type,pos:=pos,after:=after,guard:=guard}).run P w= .ok (.round l fn tmps assign body) w:=by
       simp only [execOp,resolve,hf,Deferred.ofValue]
       rw [Sem.run_bind]
       exact hy
      rw [this]
      exact⟨rfl,NL.mono fun e w' he=>fL he⟩
    ·exact h.elim
   ·rename_i x name
    obtain⟨t,u,f',hx,hm,he,h⟩:=h
    have h1:=di (P:=P) hC he (#[u]++args.map ρ) w
    have he2:(#[ρ x]++args.map ρ).extract 1 (#[ρ x]++args.map ρ).size=args.map ρ:=by
     apply Array.ext'
     simp
     exact List.take_of_length_le (by simp)
    have hr:(execOp ρ {dst:=dst,op:= .call {callee:= .invoke x name,args:=args,argTypes:=ats},type:=type,pos:=pos,after:=after,guard:=guard}).run P w= .ok (.enter f' (#[u]++args.map ρ)) w:=by
     simp only [execOp,resolve]
     rw [Sem.run_bind]
     show(invoke (.fn (.method name) #[]) (#[ρ x]++args.map ρ)).run P w=_
     have e0:(#[ρ x]++args.map ρ)[0]? =some (.iface t u):=by rw [hx,Array.getElem?_append_left (by simp)];rfl
     simp only [invoke,e0,he2]
     simp only [callMethod]
     rw [Sem.run_bind]
     have hp:(program:Sem Program).run P w= .ok P w:=rfl
     rw [hp]
     change Sem.run P (method (P.types.size+Made.depth) t u name>>=fun p=>callFunc p.1 (#[p.2]++Array.map ρ args)) w=_
     rw [Sem.run_bind,pN hm]
     exact h1
    rw [hr]
    exact Calls.mono h fun e w' he=>fL he
end
attribute [irreducible] split ay nz dF one?
end
section
def iy(ops:Array Oper)(o:Oper)(fr:Fr)(yes no:Fr→Prop):Prop:=
 match o.guard with
 | none=>yes fr
 | some (j,want)=>match (ops[j]?).bind (·.dst)with
  | some d=>match lk fr.g d fr.e with
   | .bool b=>split b
    (match want with
     | true=>yes ⟨(d,.bool true)::fr.e,fr.g,fr.ds⟩
     | false=>no ⟨(d,.bool true)::fr.e,fr.g,fr.ds⟩)
    (match want with
     | true=>no ⟨(d,.bool false)::fr.e,fr.g,fr.ds⟩
     | false=>yes ⟨(d,.bool false)::fr.e,fr.g,fr.ds⟩)
   | .tuple _=>no fr
   | _=>False
  | none=>False
abbrev OpT:=Oper→(Operand→Value)→World→ax→Prop
def qF(M:OpT)(n:Nat)(N:List Nat)(ops:Array Oper)(K:Fr→World→Prop):List Oper→Fr→World→Prop
 | [],fr,w=>K fr w
 | o::rest,fr,w=>iy ops o fr
  (fun fr=>M o (ev fr) w (fun v w'=>fF n N fr o.dst v fun fr'=>qF M n N ops K rest fr' w'))
  (fun fr=>fF n N fr o.dst undef fun fr'=>qF M n N ops K rest fr' w)
abbrev vcL(P:Program)(C:List Nat)(n:Nat)(N:List Nat)(ops:Array Oper)(Qp:Option (List PanicEntry→World→Prop))(K:Fr→World→Prop):List Oper→Fr→World→Prop:=
 qF (fun o ρ w K=>opM P C true o ρ w K Qp) n N ops K
section
variable {P:Program} {C:List Nat} {n:Nat} {N:List Nat} {r:Option Nat} {ops:Array Oper} {fr:Fr} {a:Act} {w:World}
theorem oF {d:Nat} {v:Value}(hr:Rep n fr a)(h:lk fr.g d fr.e=v):Rep n ⟨(d,v)::fr.e,fr.g,fr.ds⟩ a:=by
 refine⟨hr.size,fun i=>?_,hr.defers⟩
 simp only [lk]
 split
 ·rename_i hi
  obtain rfl:i=d:=Nat.eq_of_beq_eq_true hi
  rw [hr.get,h]
 ·exact hr.get i
theorem eP {o:Oper} {yes no:Fr→Prop}(hr:Rep n fr a)(h:iy ops o fr yes no):
 ∃fr',Rep n fr' a∧((Region.wanted o (yielded ops a.tmps)=true∧yes fr')∨(Region.wanted o (yielded ops a.tmps)=false∧no fr')):=by
 unfold iy at h
 unfold Region.wanted
 split at h
 ·rename_i hg
  exact⟨fr,hr,.inl ⟨by rw [hg],h⟩⟩
 ·rename_i j want hg
  rw [hg]
  split at h
  ·rename_i d hd
   split at h
   ·rename_i b hb
    have hy:yielded ops a.tmps j=some b:=by
     unfold yielded
     rw [hd]
     have yK:a.tmps.getD d undef= .bool b:=by rw [hr.get,hb]
     have:a.tmps[d]? =some (.bool b):=by
      rw [Array.getD_eq_getD_getElem?]at yK
      cases he:a.tmps[d]? with
      | none=>rw [he]at yK;simp [undef]at yK
      | some u=>rw [he]at yK;simp at yK;rw [yK]
     simp [this]
    simp only [hy]
    rcases fy h with⟨rfl,h2⟩ | ⟨rfl,h2⟩
    ·refine⟨_,oF hr hb,?_⟩
     cases want
     ·exact .inr ⟨rfl,h2⟩
     ·exact .inl ⟨rfl,h2⟩
    ·refine⟨_,oF hr hb,?_⟩
     cases want
     ·exact .inl ⟨rfl,h2⟩
     ·exact .inr ⟨rfl,h2⟩
   ·rename_i us hb
    have hy:yielded ops a.tmps j=none:=by
     unfold yielded
     rw [hd]
     have yK:a.tmps.getD d undef= .tuple us:=by rw [hr.get,hb]
     rw [Array.getD_eq_getD_getElem?]at yK
     cases he:a.tmps[d]? with
     | none=>simp [he]
     | some u=>rw [he]at yK;simp at yK;rw [yK]at he;simp [he]
    exact⟨fr,hr,.inr ⟨by simp [hy],h⟩⟩
   ·exact h.elim
  ·exact h.elim
abbrev QF:=Exit→Fr→World→Prop
def Real(n:Nat)(ws:List Nat)(a0:Act)(Qp:Option (List PanicEntry→World→Prop))(Q:QF):Exit→Act→World→Prop
 | .panic ch,a,w=>QpP Qp ch w∧Agr ws a0 a
 | .outgrown,_,_=>False
 | x,a,w=>∃fr,Rep n fr a∧Q x fr w∧Agr ws a0 a
theorem Rep.mg(fr:Fr)(v:Value):ev fr (.const v)=v:=rfl
def WF(r:Option Nat):Fence:= {Fence.wide with round:=r}
theorem iL {P:Program} {f:FuncId} {args:Array Value} {w:World} {R:Ending→World→Prop}(h:Calls P f args w R):CallsIn (WF r) 0 P f args w R:=
 (callsIn_wide (n:=0)).2 h
theorem tE {P:Program} {row:String} {args:Array Value} {w:World} {R:Value→World→Prop}(h:Rows P row args w R):RowsIn (WF r) 0 P row args w R:=fun c cs _=>
 let ⟨v,w',hR,hs⟩:=h c cs
 ⟨v,w',hR,stepsIn_wide.2 hs⟩
def cq(o:Oper):Bool:=
 match o.op with
 | .defer _=>false
 | _=>true
theorem eB {o:Oper}(h:cq o=true):∀c,o.op≠ .defer c:=by
 intro c hc
 unfold cq at h
 rw [hc]at h
 cases h
theorem lV {Y:Bool} {o:Oper} {ρ:Operand→Value} {K:ax} {Qp:Option (List PanicEntry→World→Prop)}(h:opM P C Y o ρ w K Qp):cq o=true:=by
 obtain⟨dst,op,type,pos,after,guard⟩:=o
 cases op<;>first | rfl | exact h.elim
def opW(P:Program)(Y:Bool)(Qp:Option (List PanicEntry→World→Prop))(o:Oper)(ρ:Operand→Value)(w:World)(K:ax):Prop:=
 cq o=true∧Out P Y K (QpP Qp) ((execOp ρ o).run P w)
theorem tV {Y:Bool} {o:Oper} {K:ax} {Qp:Option (List PanicEntry→World→Prop)}(hC:cy P C=true)(h:opM P C Y o (ev fr) w K Qp):opW P Y Qp o (ev fr) w K:=
 ⟨lV h,sZ hC (Rep.mg fr) h⟩
theorem vC {o:Oper} {K:Fr→World→Prop} {next:Act→World→Prop} {Q:Exit→Act→World→Prop} {Qp:Option (List PanicEntry→World→Prop)} {ws:List Nat} {a0:Act}(hr:Rep n fr a)(ha:Agr ws a0 a)
 (hd:∀d,o.dst=some d→d∈ws)
 (h:opW P false Qp o (ev fr) w (fun v w'=>fF n N fr o.dst v fun fr'=>K fr' w'))
 (hn:∀fr' a' w',Rep n fr' a'→Agr ws a0 a'→K fr' w'→next a' w')(hp:∀ch w',QpP Qp ch w'→Q (.panic ch) a w'):o.wp P a w next Q:=by
 have h1:=h.2
 rw [← hr.eval]at h1
 unfold Oper.wp
 have key:∀v w',(fF n N fr o.dst v fun fr'=>K fr' w')→next (a.put o.dst v) w':=by
  intro v w' hk
  obtain⟨fr',xT,hK⟩:=de hr hk
  exact hn _ _ _ xT (ha.trans (Agr.put a o.dst v hd)) hK
 generalize (execOp a.eval o).run P w=r at h1
 cases r with
 | ok nx w'=>
  cases nx<;>simp only [Out,Bool.false_eq_true,false_and]at h1<;>simp only [Oper.upon]
  case value v=>exact key _ _ h1
  case skip=>exact key _ _ h1
  case enter f args=>
   refine h1.mono fun e w'' he=>?_
   rcases he with⟨v,rfl,hk⟩ | ⟨ch,rfl,hk⟩
   ·exact key _ _ hk
   ·exact hp _ _ hk
 | halt x w'=>
  cases x<;>simp only [Out]at h1<;>simp only [Oper.upon]
  exact hp _ _ h1
theorem sX {o:Oper} {K:Fr→World→Prop} {next:Act→World→Prop} {Q:Exit→Act→World→Prop} {Qp:Option (List PanicEntry→World→Prop)} {ws:List Nat} {a0:Act}(hr:Rep n fr a)(ha:Agr ws a0 a)
 (hd:∀d,o.dst=some d→d∈ws)
 (h:opW P true Qp o (ev fr) w (fun v w'=>fF n N fr o.dst v fun fr'=>K fr' w'))
 (hn:∀fr' a' w',Rep n fr' a'→Agr ws a0 a'→K fr' w'→next a' w')(hp:∀ch w',QpP Qp ch w'→Q (.panic ch) a w'):o.wpIn (WF r) 0 P a w next Q:=by
 have BT:=h.1
 have h1:=h.2
 rw [← hr.eval]at h1
 have key:∀v w',(fF n N fr o.dst v fun fr'=>K fr' w')→next (a.put o.dst v) w':=by
  intro v w' hk
  obtain⟨fr',xT,hK⟩:=de hr hk
  exact hn _ _ _ xT (ha.trans (Agr.put a o.dst v hd)) hK
 refine⟨fun _ _=>trivial,?_⟩
 rw [Oper.semAt_eq _ _ _ (eB BT)]
 have BB:((WF r).depth.isSome=true→1≤0):=by intro h;cases h
 generalize (execOp a.eval o).run P w=rr at h1
 cases rr with
 | ok nx w'=>
  cases nx<;>simp only [Out]at h1<;>simp only [Oper.uponIn]
  case value v=>exact key _ _ h1
  case skip=>exact key _ _ h1
  case enter f args=>
   refine⟨BB,iL (h1.mono fun e w'' he=>?_)⟩
   rcases he with⟨v,rfl,hk⟩ | ⟨ch,rfl,hk⟩
   ·exact key _ _ hk
   ·exact hp _ _ hk
  case round l f tmps assign body=>
   refine⟨BB,?_⟩
   refine RoundIn.mono (F:=WF r) (show RoundIn (WF r) 0 P l f tmps assign body w' _ from h1.2) fun e w'' he=>?_
   rcases he with⟨v,rfl,hk⟩ | ⟨ch,rfl,hk⟩
   ·exact key _ _ hk
   ·exact hp _ _ hk
 | halt x w'=>
  cases x<;>simp only [Out]at h1<;>simp only [Oper.uponIn]
  exact hp _ _ h1
theorem eT {o:Oper} {ρ:Operand→Value}:∀f,o.about P w ρ=some f→(WF r).fn f:=fun _ _=>trivial
theorem eH {Qp:Option (List PanicEntry→World→Prop)} {M:OpT} {K:Fr→World→Prop} {ws:List Nat} {a0:Act}(hM:∀o fr w K,M o (ev fr) w K→opW P true Qp o (ev fr) w K):
 ∀(l:List Oper),(∀o∈l,∀d,o.dst=some d→d∈ws)→∀(fr:Fr)(a:Act)(w:World),Rep n fr a→Agr ws a0 a→qF M n N ops K l fr w→
  wpListIn (WF r) 0 P ops (Real n ws a0 Qp (fun x fr w=>match x with | .normal=>K fr w | _=>False)) l a w
 | [],_,fr,a,w,hr,ha,h=>⟨fr,hr,h,ha⟩
 | o::rest,hd,fr,a,w,hr,ha,h=>by
  obtain⟨fr',xT,hh⟩:=eP hr h
  simp only [wpListIn]
  rcases hh with⟨hw,hh⟩ | ⟨hw,hh⟩
  ·rw [if_pos hw]
   refine sX (K:=fun fr' w'=>qF M n N ops K rest fr' w') xT ha (hd o (List.mem_cons_self ..)) (hM _ _ _ _ hh) ?_ ?_
   ·intro zU a2 w2 h2 h3 h4
    exact eH hM rest (fun o' E8=>hd o' (List.mem_cons_of_mem _ E8)) zU a2 w2 h2 h3 h4
   ·intro ch w' hq
    exact⟨hq,ha⟩
  ·rw [if_neg (by rw [hw];simp)]
   obtain⟨zU,h2,h3⟩:=de xT hh
   exact⟨eT,eH hM rest (fun o' E8=>hd o' (List.mem_cons_of_mem _ E8)) zU _ w h2 (ha.trans (Agr.put a o.dst undef (hd o (List.mem_cons_self ..)))) h3⟩
theorem pn {Qp:Option (List PanicEntry→World→Prop)} {K:Fr→World→Prop} {ws:List Nat} {a0:Act}(hC:cy P C=true)
 (l:List Oper)(hd:∀o∈l,∀d,o.dst=some d→d∈ws)(fr:Fr)(a:Act)(w:World)(hr:Rep n fr a)(ha:Agr ws a0 a)(h:vcL P C n N ops Qp K l fr w):
  wpListIn (WF r) 0 P ops (Real n ws a0 Qp (fun x fr w=>match x with | .normal=>K fr w | _=>False)) l a w:=
 eH (fun _ _ _ _ h=>tV hC h) l hd fr a w hr ha h
theorem bO {Q:Exit→Act→World→Prop}(hL:¬LetsOut Q)(BT:∀o∈ops,cq o=true):∀(l:List Nat)(a:Act)(w:World),wpOps P ops Q l a w→wpOpsIn (WF r) 0 P ops Q l a w
 | [],_,_,h=>h
 | i::rest,a,w,h=>by
  simp only [wpOps]at h
  simp only [wpOpsIn]
  cases ho:ops[i]? with
  | none=>
   simp only [ho]at h
   exact bO hL BT rest a w h
  | some o=>
   simp only [ho]at h
   have BA:o∈ops:=Array.mem_of_getElem? ho
   simp only
   split
   ·rename_i hw
    rw [if_pos hw]at h
    rcases h with h | ⟨_,h⟩
    ·refine⟨eT,?_⟩
     rw [Oper.semAt_eq _ _ _ (eB (BT o BA))]
     unfold Oper.wp at h
     have BB:((WF r).depth.isSome=true→1≤0):=by intro h;cases h
     generalize (execOp a.eval o).run P w=rr at h
     cases rr with
     | ok nx w'=>
      cases nx<;>simp only [Oper.upon]at h<;>simp only [Oper.uponIn]
      case value v=>exact bO hL BT rest _ _ h
      case skip=>exact bO hL BT rest _ _ h
      case defer d=>exact bO hL BT rest _ _ h
      case enter f args=>
       refine⟨BB,iL (h.mono fun e w'' he=>?_)⟩
       cases e with
       | returned v=>exact bO hL BT rest _ _ he
       | panicked ch=>exact he
       | outgrown=>exact he
      case row row args=>exact⟨BB,tE (h.mono fun v w'' he=>bO hL BT rest _ _ he)⟩
     | halt x w'=>
      cases x<;>simp only [Oper.upon]at h<;>simp only [Oper.uponIn]
      exact h
    ·exact absurd h hL
   ·rename_i hw
    rw [if_neg hw]at h
    exact⟨eT,bO hL BT rest _ _ h⟩
end
def j1(ops:Array Oper):Nat→Nat→Nat→Bool
 | 0,_,_=>false
 | fuel+1,j,k=>match ops[j]? with
  | some o=>o.after.toList.any fun e=>Region.binds .any e && (Nat.beq e.on k || j1 ops fuel e.on k)
  | none=>false
def behind(ops:Array Oper)(listed:Array Bool)(j:Nat):List Nat:=
 (List.range ops.size).filter fun i=>listed.getD i false && !(Nat.beq i j) && !(j1 ops 3 j i)
def dk(ops:Array Oper)(listed:Array Bool):Prop:=
 ∀(k:Nat)(o:Oper),ops[k]? =some o→listed.getD k false=true→∀e∈o.after,Region.binds .any e=true→listed.getD e.on false=true
theorem jZ {ops:Array Oper} {listed:Array Bool}(hc:dk ops listed):∀(fuel j k:Nat),j1 ops fuel j k=true→
 (∀o,ops[j]? =some o→∀e∈o.after,Region.binds .any e=true→listed.getD e.on false=true)→listed.getD k false=true
 | 0,_,_,h,_=>by cases h
 | fuel+1,j,k,h,hj=>by
  simp only [j1]at h
  split at h
  ·rename_i o ho
   simp only [List.any_eq_true,Bool.and_eq_true,Bool.or_eq_true]at h
   obtain⟨e,he,hb,h⟩:=h
   have hl:=hj o ho e (Array.mem_toList_iff.1 he) hb
   rcases h with h | h
   ·rw [← Nat.eq_of_beq_eq_true h];exact hl
   ·exact jZ hc fuel e.on k h fun o' E8=>hc e.on o' E8 hl
  ·cases h
theorem dk.none(ops:Array Oper)(n:Nat):dk ops (Array.replicate n false):=fun k o _ h=>by
 rw [Array.getD_eq_getD_getElem?,Array.getElem?_replicate]at h
 split at h<;>cases h
theorem dk.set {ops:Array Oper} {listed:Array Bool} {j:Nat}(hc:dk ops listed)(hj:j∈Region.ready .any ops listed):dk ops (listed.setIfInBounds j true):=by
 intro k o ho hk e he hb
 obtain⟨_,oj,GV,Bc⟩:=mem_ready.1 hj
 by_cases Gr:j=k
 ·subst Gr
  rw [GV]at ho
  injection ho with ho
  subst ho
  exact getD_set_true (Bc e he hb)
 ·rw [getD_set_ne false Gr]at hk
  exact getD_set_true (hc k o ho hk e he hb)
section
variable {P:Program} {ops:Array Oper} {Q:Exit→Act→World→Prop} {S:World→Prop}
def cX(C:Nat→World→World→Prop)(i:Nat)(R:World→World→Prop):Nat→World→World→Prop:=
 fun k=>if k=i then R else C k
theorem pt(C:Nat→World→World→Prop) {i j:Nat}(R R':World→World→Prop)(h:i≠j):cX (cX C i R) j R'=cX (cX C j R') i R:=by
 funext k
 unfold cX
 by_cases h1:k=i<;>by_cases h2:k=j
 ·omega
 ·simp [h1,h]
 ·simp [h2,Ne.symm h]
 ·simp [h1,h2]
def bV(P:Program)(ops:Array Oper)(Q:Exit→Act→World→Prop):Nat→(Nat→World→World→Prop)→Array Bool→Act→World→Prop
 | 0,_,listed,a,w=>Region.ready .any ops listed= []∧Q .normal a w
 | fuel+1,C,listed,a,w=>
  (Region.ready .any ops listed= []→Q .normal a w)∧
  ∀j∈Region.ready .any ops listed,wpOp P ops Q j (fun a' w'=>(∀i∈behind ops listed j,C i w w')∧bV P ops Q fuel (cX C j fun _ _=>True) (listed.setIfInBounds j true) a' w') a w
theorem gX:∀(fuel:Nat)(C:Nat→World→World→Prop)(listed:Array Bool)(a:Act)(w:World),bV P ops Q fuel C listed a w→wpAny P .any ops Q fuel listed a w
 | 0,_,_,_,_,h=>h
 | fuel+1,_,_,_,_,h=>⟨h.1,fun i hi=>wpOp_mono (fun a' w' h'=>gX fuel _ _ a' w' h'.2) (h.2 i hi)⟩
theorem ky {i:Nat} {oi:Oper} {v:Value} {R:World→World→Prop}(hR:∀x y z,R x y→R y z→R x z)(MR:∀x,R x x)(hi:ops[i]? =some oi)(L8:∀(j:Nat)(o:Oper) cs b,ops[j]? =some o→o.op≠ .select cs b)
 (hQ:∀c a w,Q (.panic c) (a.put oi.dst v) w→Q (.panic c) a w):
 ∀(fuel:Nat)(C:Nat→World→World→Prop)(listed:Array Bool)(a:Act)(w:World),
  (∀k x,listed.getD k false=true→C k x x)→
  (∀j oj,ops[j]? =some oj→j≠i→listed.getD j true=false→(∀e∈oj.after,Region.binds .any e=true→e.on≠i)→oi.apart ops oj=true)→
  dk ops listed→i∈Region.ready .any ops listed→YieldsIf P ops (fun x=>R w x) oi v a→
  bV P ops Q fuel (cX C i R) (listed.setIfInBounds i true) (a.put oi.dst v) w→bV P ops Q (fuel+1) C listed a w:=by
 have key:∀(fuel:Nat)(C:Nat→World→World→Prop)(listed:Array Bool)(a:Act)(w:World),(∀k x,listed.getD k false=true→C k x x)→i∈Region.ready .any ops listed→
  bV P ops Q fuel (cX C i R) (listed.setIfInBounds i true) a w→(∀k∈behind ops listed i,C k w w)∧bV P ops Q fuel (cX C i fun _ _=>True) (listed.setIfInBounds i true) a w:=by
  intro fuel C listed a w hrefl hr H
  refine⟨fun k hk=>?_,?_⟩
  ·unfold behind at hk
   simp only [List.mem_filter,Bool.and_eq_true]at hk
   exact hrefl k w hk.2.1.1
  ·have weak:∀(fuel:Nat)(C C':Nat→World→World→Prop)(listed:Array Bool)(a:Act)(w:World),(∀k x y,C k x y→C' k x y)→bV P ops Q fuel C listed a w→bV P ops Q fuel C' listed a w:=by
    intro fuel
    induction fuel with
    | zero=>intro C C' listed a w _ h;exact h
    | succ fuel ih=>
     intro C C' listed a w hc h
     refine⟨h.1,fun j hj=>wpOp_mono (fun a' w' h'=>⟨fun k hk=>hc k _ _ (h'.1 k hk),ih _ _ _ a' w' (fun k x y hx=>?_) h'.2⟩) (h.2 j hj)⟩
     unfold cX at hx ⊢
     split
     ·trivial
     ·rename_i xi;rw [if_neg xi]at hx;exact hc k x y hx
   refine weak fuel _ _ _ a w (fun k x y hx=>?_) H
   unfold cX at hx ⊢
   split
   ·trivial
   ·rename_i xi;rw [if_neg xi]at hx;exact hx
 intro fuel
 induction fuel with
 | zero=>
  intro C listed a w hrefl _ Bk hr hy H
  refine⟨fun h=>(by rw [h]at hr;cases hr),fun j hj=>?_⟩
  by_cases Cf:j=i
  ·subst Cf;exact hy.wpOp hi (MR w) (key 0 C listed _ w hrefl hr H)
  ·have:=ready_mono hj Cf
   rw [H.1]at this
   cases this
 | succ fuel ih=>
  intro C listed a w hrefl AZ Bk hr hy H
  refine⟨fun h=>(by rw [h]at hr;cases hr),fun j hj=>?_⟩
  by_cases Cf:j=i
  ·subst Cf;exact hy.wpOp hi (MR w) (key (fuel+1) C listed _ w hrefl hr H)
  ·have h1:=H.2 j (ready_mono hj Cf)
   obtain⟨Mk,oj,GV,Bc⟩:=mem_ready.1 hj
   have GZ:=(mem_ready.1 hr).1
   have NU:∀e∈oj.after,Region.binds .any e=true→e.on≠i:=fun e he hb heq=>by
    have h1:=Bc e he hb
    have h0:=GZ
    rw [heq]at h1
    rcases Nat.lt_or_ge i listed.size with h' | h'
    ·simp [h']at h0 h1;rw [h0]at h1;cases h1
    ·simp [Array.getElem?_eq_none h']at h1
   have BB:j1 ops 3 j i=false:=by
    cases hd:j1 ops 3 j i with
    | false=>rfl
    | true=>
     have h3:=jZ Bk 3 j i hd fun o ho=>by rw [GV]at ho;injection ho with ho;subst ho;exact Bc
     rcases Nat.lt_or_ge i listed.size with h' | h'
     ·simp [h']at GZ h3;rw [GZ]at h3;cases h3
     ·simp [Array.getElem?_eq_none h']at h3
   have Mm:i<listed.size:=by
    rcases Nat.lt_or_ge i listed.size with h' | h'
    ·exact h'
    ·simp [Array.getElem?_eq_none h']at GZ
   have BA:i∈behind ops (listed.setIfInBounds i true) j:=by
    unfold behind
    simp only [List.mem_filter,List.mem_range,Bool.and_eq_true,Bool.not_eq_true']
    refine⟨(Array.getElem?_eq_some_iff.1 hi).1,⟨?_,?_⟩,BB⟩
    ·simp [Mm]
    ·cases hb:Nat.beq i j with
     | false=>rfl
     | true=>exact absurd (Nat.eq_of_beq_eq_true hb).symm Cf
   have NK:∀k∈behind ops listed j,k∈behind ops (listed.setIfInBounds i true) j:=fun k hk=>by
    unfold behind at hk ⊢
    simp only [List.mem_filter,Bool.and_eq_true]at hk ⊢
    exact⟨hk.1,⟨getD_set_true hk.2.1.1,hk.2.1.2⟩,hk.2.2⟩
   have NZ:∀k∈behind ops listed j,k≠i:=fun k hk e=>by
    unfold behind at hk
    simp only [List.mem_filter,Bool.and_eq_true]at hk
    subst e
    have:=hk.2.1.1
    simp [Mm]at GZ this;rw [GZ]at this;cases this
   have h2:=wpOp_putIf GV (AZ j oj GV Cf Mk NU) (fun cs b=>L8 i oi cs b hi) (fun cs b=>L8 j oj cs b GV) hQ hy h1
   have Gt:∀k ok,ops[k]? =some ok→k≠i→(listed.setIfInBounds j true).getD k true=false→
    (∀e∈ok.after,Region.binds .any e=true→e.on≠i)→oi.apart ops ok=true:=fun k ok hk hki hun hno=>by
    refine AZ k ok hk hki ?_ hno
    by_cases Gr:j=k
    ·subst Gr;exact Mk
    ·rw [getD_set_ne true Gr]at hun;exact hun
   refine wpOp_mono (fun a' w' h3=>?_) h2
   obtain⟨hy3,FT,FJ⟩:=h3
   have hRw:R w w':=by have:=FT i BA;unfold cX at this;rwa [if_pos rfl]at this
   refine⟨fun k hk=>?_,ih (cX C j fun _ _=>True) (listed.setIfInBounds j true) a' w' (fun k x hk=>?_) Gt (Bk.set hj) (ready_mono hr (Ne.symm Cf)) ?_ ?_⟩
   ·have:=FT k (NK k hk)
    unfold cX at this
    rwa [if_neg (NZ k hk)]at this
   ·unfold cX
    split
    ·trivial
    ·rename_i xi
     rw [getD_set_ne false (Ne.symm xi)]at hk
     exact hrefl k x hk
   ·exact hy3.imp (fun⟨h5,h6⟩=>⟨h5,fun x hx=>h6 x (hR _ _ _ hRw hx)⟩) id
   ·rw [pt _ _ _ Cf,Array.setIfInBounds_comm _ _ Cf]
    exact FJ
theorem fX {i:Nat} {oi:Oper} {v:Value} {R:World→World→Prop} {fuel:Nat} {C:Nat→World→World→Prop} {listed:Array Bool} {a:Act} {w:World}(hR:∀x y z,R x y→R y z→R x z)(MR:∀x,R x x)(hrefl:∀k x,listed.getD k false=true→C k x x)(hi:ops[i]? =some oi)
 (hs:Region.noSelect ops=true)(hf:Region.free .any ops listed i=true)(Bk:dk ops listed)(hr:(Region.ready .any ops listed).contains i=true)
 (hQ:∀c a w,Q (.panic c) (a.put oi.dst v) w→Q (.panic c) a w)(hy:YieldsIf P ops (fun x=>R w x) oi v a)
 (h:bV P ops Q fuel (cX C i R) (listed.setIfInBounds i true) (a.put oi.dst v) w):bV P ops Q (fuel+1) C listed a w:=
 ky hR MR hi (Region.noSelect_spec hs) hQ fuel C listed a w hrefl (Region.free_spec hi hf) Bk (by simpa using hr) hy h
theorem nc {rs:List Nat} {fuel:Nat} {C:Nat→World→World→Prop} {listed:Array Bool} {a:Act} {w:World}(hr:Region.ready .any ops listed=rs)(xi:rs≠ [])
 (h:∀j∈rs,wpOp P ops Q j (fun a' w'=>(∀i∈behind ops listed j,C i w w')∧bV P ops Q fuel (cX C j fun _ _=>True) (listed.setIfInBounds j true) a' w') a w):bV P ops Q (fuel+1) C listed a w:=
 ⟨fun h0=>absurd (hr▸h0) xi,hr▸h⟩
theorem lx {C:Nat→World→World→Prop} {listed:Array Bool} {a:Act} {w:World}(hr:Region.ready .any ops listed= [])(h:Q .normal a w):
 ∀fuel,bV P ops Q fuel C listed a w
 | 0=>⟨hr,h⟩
 | _+1=>⟨fun _=>h,by rw [hr];simp⟩
end
def ahead(P:Program)(o:Oper):Bool:=
 match o.op with
 | .move _ | .assign _ | .pick .. | .load .. | .nilCheck _ | .fieldAddr .. | .indexAddr .. | .index .. | .binOp .. | .unOp .. | .slice .. | .build .. | .field .. | .extract .. | .makeInterface .. | .makeFunc .. | .sliceToArrayPointer .. =>true
 | .convert src dst _=>match P.underlying src,P.underlying dst with
  | some (.int _),some (.int _)=>true
  | some (.slice _),some .string=>true
  | _,_=>false
 | .call c=>match c.callee with
  | .builtin .len | .builtin .min | .builtin .max=>true
  | _=>false
 | _=>false
def opS(P:Program)(B:Option (Nat→Prop))(o:Oper)(ρ:Operand→Value)(w:World)(F:Value→Prop):Prop:=
 oH P B o ρ w F<|
 match o.op with
 | .convert src dst x=>∃s:ByteArray,(∀w',Kept (held B w) w w'→(convert src dst (ρ x)).run P w'= .ok (.string s) w')∧F (.string s)
 | _=>False
def dI(P:Program)(ops:Array Oper)(listed:Array Bool):List Nat→Option Nat
 | []=>none
 | i::r=>match (match ops[i]? with | some o=>ahead P o && Region.free .any ops listed i | none=>false)with
  | true=>some i
  | false=>dI P ops listed r
def tD(F:Nat→Prop):List Nat→Prop
 | []=>True
 | [i]=>F i
 | i::r=>F i∧tD F r
theorem iG {F:Nat→Prop}:∀ {l:List Nat},tD F l→∀i∈l,F i
 | [],_,i,hi=>by cases hi
 | [j],h,i,hi=>by simp at hi;subst hi;exact h
 | j::k::r,h,i,hi=>by
  rcases List.mem_cons.1 hi with rfl | hi
  ·exact h.1
  ·exact iG h.2 i hi
def aX(b:Nat→Nat→Prop):List Nat→Nat→Prop
 | [],_=>False
 | [i],k=>b i k
 | i::r,k=>b i k∨aX b r k
def rn(l:List Nat)(B:Option (Nat→Nat→Prop))(w w':World)(F:Option (Nat→Nat→Prop)→Prop):Prop:=
 match B with
 | none=>False
 | some b=>match l with
  | []=>∃b':Nat→Nat→Prop,(∀i k,b i k→b' i k)∧F (some b')
  | l=>Kept (aX b l) w w'∧∃b':Nat→Nat→Prop,(∀i k,b i k→b' i k)∧F (some b')
abbrev vU:=Option (Nat→Prop)→Oper→(Operand→Value)→World→(Value→Prop)→Prop
def kB(P:Program)(M:OpT)(MS:vU)(n:Nat)(N:List Nat)(ops:Array Oper)(K:Fr→World→Prop):Nat→Option (Nat→Nat→Prop)→Array Bool→Fr→World→Prop
 | 0,_,listed,fr,w=>match Region.ready .any ops listed with
  | []=>K fr w
  | _=>False
 | fuel+1,B,listed,fr,w=>match Region.ready .any ops listed with
  | []=>K fr w
  | i0::r0=>match dI P ops listed (i0::r0)with
   | some i=>match ops[i]? with
    | some o=>iy ops o fr
     (fun fr=>MS (B.map fun b=>b i) o (ev fr) w fun v=>fF n N fr o.dst v fun fr'=>kB P M MS n N ops K fuel B (listed.setIfInBounds i true) fr' w)
     (fun fr=>fF n N fr o.dst undef fun fr'=>kB P M MS n N ops K fuel B (listed.setIfInBounds i true) fr' w)
    | none=>False
   | none=>tD (fun i=>match ops[i]? with
    | some o=>iy ops o fr
     (fun fr=>M o (ev fr) w (fun v w'=>fF n N fr o.dst v fun fr'=>rn (behind ops listed i) B w w' fun B'=>kB P M MS n N ops K fuel B' (listed.setIfInBounds i true) fr' w'))
     (fun fr=>fF n N fr o.dst undef fun fr'=>kB P M MS n N ops K fuel B (listed.setIfInBounds i true) fr' w)
    | none=>False) (i0::r0)
abbrev vcD(P:Program)(C:List Nat)(n:Nat)(N:List Nat)(ops:Array Oper)(Qp:Option (List PanicEntry→World→Prop))(K:Fr→World→Prop):Nat→Option (Nat→Nat→Prop)→Array Bool→Fr→World→Prop:=
 kB P (fun o ρ w K=>opM P C false o ρ w K Qp) (fun B o ρ w F=>opS P B o ρ w F) n N ops K
section
variable {P:Program} {C:List Nat} {n:Nat} {N:List Nat} {r:Option Nat} {ops:Array Oper}
theorem ej {listed:Array Bool} {i:Nat}:∀ {l:List Nat},dI P ops listed l=some i→i∈l∧Region.free .any ops listed i=true
 | [],h=>by cases h
 | j::r,h=>by
  unfold dI at h
  split at h
  ·rename_i hj
   injection h with h
   subst h
   refine⟨List.mem_cons_self ..,?_⟩
   split at hj
   ·simp only [Bool.and_eq_true]at hj;exact hj.2
   ·cases hj
  ·have:=ej h
   exact⟨List.mem_cons_of_mem _ this.1,this.2⟩
theorem sY {B:Option (Nat→Prop)} {o:Oper} {ρ:Operand→Value} {w:World} {F:Value→Prop}(hc:∀v,ρ (.const v)=v)(h:opS P B o ρ w F):
 ∃v,F v∧∀w',Kept (held B w) w w'→(execOp ρ o).run P w'= .ok (.value v) w':=by
 unfold opS at h
 have h0:=jQ hc h
 clear h
 rcases h0 with h | h
 ·exact h
 ·split at h
  ·rename_i src dst x hop
   obtain⟨s,hr,hF⟩:=h
   exact⟨_,hF,fun w' hb=>by unfold execOp;rw [hop];simp [hr w' hb]⟩
  ·exact h.elim
theorem mo {b:Nat→Nat→Prop}:∀ {l:List Nat} {i k:Nat},i∈l→b i k→aX b l k
 | [j],i,k,hi,h=>by simp at hi;subst hi;exact h
 | j::m::r,i,k,hi,h=>by
  rcases List.mem_cons.1 hi with rfl | hi
  ·exact .inl h
  ·exact .inr (mo hi h)
def fv(B:Option (Nat→Nat→Prop))(C:Nat→World→World→Prop)(listed:Array Bool):Prop:=
 match B with
 | none=>∀i,listed.getD i false=true→∀x y,Kept (fun k=>k<x.heap.size) x y→C i x y
 | some b=>∀i,listed.getD i false=true→∀x y,Kept (b i) x y→C i x y
theorem fv.refl {B:Option (Nat→Nat→Prop)} {C:Nat→World→World→Prop} {listed:Array Bool}(h:fv B C listed):∀k x,listed.getD k false=true→C k x x:=by
 intro k x hk
 cases B with
 | none=>exact h k hk x x (Kept.refl _ _)
 | some b=>exact h k hk x x (Kept.refl _ _)
theorem fv.none(B:Option (Nat→Nat→Prop))(l:Array Bool):fv B (fun _ _ _=>True) l:=by
 cases B<;>exact fun _ _ _ _ _=>trivial
def pF(B:Option (Nat→Prop))(x y:World):Prop:=
 match B with
 | none=>Kept (fun k=>k<x.heap.size) x y
 | some b=>Kept b x y
theorem ij(B:Option (Nat→Prop))(x y z:World)(h:pF B x y)(h':pF B y z):pF B x z:=by
 cases B with
 | none=>
  have h1:Kept (fun k=>k<x.heap.size) x y:=h
  have h2:Kept (fun k=>k<y.heap.size) y z:=h'
  exact h1.trans (h2.mono fun k hk=>Nat.lt_of_lt_of_le hk h1.size)
 | some b=>
  have h1:Kept b x y:=h
  have h2:Kept b y z:=h'
  exact h1.trans h2
theorem jO(B:Option (Nat→Prop))(x:World):pF B x x:=by cases B<;>exact Kept.refl _ _
theorem pE {B:Option (Nat→Prop)} {x y:World}(h:pF B x y):Kept (held B x) x y:=by cases B<;>exact h
theorem nh {Qp:Option (List PanicEntry→World→Prop)} {M:OpT} {MS:vU} {K:Fr→World→Prop} {ws:List Nat} {a0:Act}(hM:∀o fr w K,M o (ev fr) w K→opW P false Qp o (ev fr) w K)
 (hMS:∀B o fr w F,MS B o (ev fr) w F→∃v,F v∧∀w',Kept (held B w) w w'→(execOp (ev fr) o).run P w'= .ok (.value v) w')(hs:Region.noSelect ops=true)
 (hd:∀(i:Nat)(o:Oper),ops[i]? =some o→∀d,o.dst=some d→d∈ws):
 ∀(fuel:Nat)(B:Option (Nat→Nat→Prop))(G:Nat→World→World→Prop)(listed:Array Bool)(fr:Fr)(a:Act)(w:World),dk ops listed→fv B G listed→Rep n fr a→Agr ws a0 a→kB P M MS n N ops K fuel B listed fr w→
  bV P ops (Real n ws a0 Qp (fun x fr w=>match x with | .normal=>K fr w | _=>False)) fuel G listed a w:=by
 intro fuel
 induction fuel with
 | zero=>
  intro B G listed fr a w Bk EE hr ha h
  simp only [kB]at h
  split at h
  ·rename_i E5
   exact⟨E5,fr,hr,h,ha⟩
  ·exact h.elim
 | succ fuel ih=>
  intro B G listed fr a w Bk EE hr ha h
  have hQ:∀o:Oper,(∀d,o.dst=some d→d∈ws)→∀v,∀c a w,Real n ws a0 Qp (fun x fr w=>match x with | .normal=>K fr w | _=>False) (.panic c) (a.put o.dst v) w→
   Real n ws a0 Qp (fun x fr w=>match x with | .normal=>K fr w | _=>False) (.panic c) a w:=by
   intro o hd v c a w h
   have hp:=Agr.put a o.dst v hd
   exact⟨h.1,⟨fun i hi=>(hp.tmps i hi).symm.trans (h.2.tmps i hi),fun hi=>(hp.defers hi).symm.trans (h.2.defers hi)⟩⟩
  have yM:∀i,fv B (cX G i (pF (B.map fun b=>b i))) (listed.setIfInBounds i true):=by
   intro i
   cases B with
   | none=>
    intro k hk x y zP
    unfold cX
    split
    ·exact zP
    ·rename_i xi
     rw [getD_set_ne false (Ne.symm xi)]at hk
     exact EE k hk x y zP
   | some b=>
    intro k hk x y zP
    unfold cX
    split
    ·rename_i he;subst he;exact zP
    ·rename_i xi
     rw [getD_set_ne false (Ne.symm xi)]at hk
     exact EE k hk x y zP
  have EB:∀i,fv B (cX G i fun _ _=>True) (listed.setIfInBounds i true):=by
   intro i
   cases B with
   | none=>
    intro k hk x y zP
    unfold cX
    split
    ·trivial
    ·rename_i xi
     rw [getD_set_ne false (Ne.symm xi)]at hk
     exact EE k hk x y zP
   | some b=>
    intro k hk x y zP
    unfold cX
    split
    ·trivial
    ·rename_i xi
     rw [getD_set_ne false (Ne.symm xi)]at hk
     exact EE k hk x y zP
  simp only [kB]at h
  split at h
  ·rename_i E5
   exact lx E5 ⟨fr,hr,h,ha⟩ _
  ·rename_i i0 r0 E5
   split at h
   ·rename_i i hfa
    obtain⟨BA,AZ⟩:=ej hfa
    split at h
    ·rename_i o ho
     obtain⟨fr',xT,hh⟩:=eP hr h
     have FV:(Region.ready .any ops listed).contains i=true:=by rw [E5];simpa using BA
     rcases hh with⟨hw,hh⟩ | ⟨hw,hh⟩
     ·obtain⟨v,hk,L9⟩:=hMS _ _ _ _ _ hh
      obtain⟨zU,h2,h3⟩:=de xT hk
      rw [← xT.eval]at L9
      exact fX (ij _) (jO _) EE.refl ho hs AZ Bk FV (hQ o (hd i o ho) v) (.inl ⟨hw,fun w' hb=>L9 w' (pE hb)⟩)
       (ih _ _ _ zU _ w (Bk.set (by rw [E5];exact BA)) (yM i) h2 (ha.trans (Agr.put a o.dst v (hd i o ho))) h3)
     ·obtain⟨zU,h2,h3⟩:=de xT hh
      exact fX (ij _) (jO _) EE.refl ho hs AZ Bk FV (hQ o (hd i o ho) undef) (.inr ⟨hw,rfl⟩)
       (ih _ _ _ zU _ w (Bk.set (by rw [E5];exact BA)) (yM i) h2 (ha.trans (Agr.put a o.dst undef (hd i o ho))) h3)
    ·exact h.elim
   ·refine nc E5 (by simp) fun i hi=>?_
    have zT:=iG h i hi
    have Gm:i∈Region.ready .any ops listed:=by rw [E5];exact hi
    split at zT
    ·rename_i o ho
     obtain⟨fr',xT,hh⟩:=eP hr zT
     unfold wpOp
     simp only [ho]
     rcases hh with⟨hw,hh⟩ | ⟨hw,hh⟩
     ·rw [if_pos hw]
      refine .inl (vC (Qp:=Qp) (N:=N) (K:=fun fr' w'=>rn (behind ops listed i) B w w' fun B'=>kB P M MS n N ops K fuel B' (listed.setIfInBounds i true) fr' w') xT ha (hd i o ho) ?_ ?_ ?_)
      ·exact hM _ _ _ _ hh
      ·intro zU a2 w2 h2 h3 h4
       cases B with
       | none=>exact h4.elim
       | some b=>
        simp only [rn]at h4
        split at h4
        ·rename_i hbe
         obtain⟨b',yS,h4⟩:=h4
         refine⟨fun k hk=>(by rw [hbe]at hk;cases hk),ih (some b') _ _ zU a2 w2 (Bk.set Gm) ?_ h2 h3 h4⟩
         intro k hk x y zP
         exact EB i k hk x y (Kept.mono zP fun m hm=>yS k m hm)
        ·obtain⟨hb4,b',yS,h4⟩:=h4
         refine⟨fun k hk=>?_,ih (some b') _ _ zU a2 w2 (Bk.set Gm) ?_ h2 h3 h4⟩
         ·have hl:listed.getD k false=true:=by
           unfold behind at hk
           simp only [List.mem_filter,Bool.and_eq_true]at hk
           exact hk.2.1.1
          exact EE k hl w w2 (hb4.mono fun m hm=>mo hk hm)
         ·intro k hk x y zP
          exact EB i k hk x y (Kept.mono zP fun m hm=>yS k m hm)
      ·intro ch w' hq
       exact⟨hq,ha⟩
     ·rw [if_neg (by rw [hw];simp)]
      obtain⟨zU,h2,h3⟩:=de xT hh
      exact⟨fun k hk=>(by
       unfold behind at hk
       simp only [List.mem_filter,Bool.and_eq_true]at hk
       exact EE.refl k w hk.2.1.1),ih _ _ _ zU _ w (Bk.set Gm) (EB i) h2 (ha.trans (Agr.put a o.dst undef (hd i o ho))) h3⟩
    ·exact zT.elim
theorem po {Qp:Option (List PanicEntry→World→Prop)} {K:Fr→World→Prop} {ws:List Nat} {a0:Act}(hC:cy P C=true)(hs:Region.noSelect ops=true)
 (hd:∀(i:Nat)(o:Oper),ops[i]? =some o→∀d,o.dst=some d→d∈ws)
 (fuel:Nat)(B:Option (Nat→Nat→Prop))(G:Nat→World→World→Prop)(listed:Array Bool)(fr:Fr)(a:Act)(w:World)(Bk:dk ops listed)(EE:fv B G listed)(hr:Rep n fr a)(ha:Agr ws a0 a)(h:vcD P C n N ops Qp K fuel B listed fr w):
  bV P ops (Real n ws a0 Qp (fun x fr w=>match x with | .normal=>K fr w | _=>False)) fuel G listed a w:=
 nh (fun _ _ _ _ h=>tV hC h) (fun _ _ fr _ _ h=>sY (Rep.mg fr) h) hs hd fuel B G listed fr a w Bk EE hr ha h
end
def ShT:Sh→Type→Type
 | .int _,T=>Int→T
 | .bool,T=>Bool→T
 | .str,T=>ByteArray→T
 | .ptr,T=>Option Addr→T
 | .slice,T=>Option Addr→Nat→Nat→T
 | .map,T=>Option Nat→T
 | .val,T=>Value→T
def sj:List Sh→Type→Type
 | [],T=>T
 | s::l,T=>ShT s (sj l T)
def tG:Sh2→Type→Type
 | .one s,T=>ShT s T
 | .agg l,T=>sj l T
 | .row _,T=>Array Value→T
def JT:List (Nat×Sh2)→Type
 | []=>World→Prop
 | (_,s)::r=>tG s (JT r)
def tC {T:Type}:(s:Sh)→ShT s T→Value→(T→Prop)→Prop
 | .int k,J,v,F=>match v with
  | .int k' x=>match kEq k k' with
   | true=>F (J x)
   | false=>False
  | _=>False
 | .bool,J,v,F=>match v with
  | .bool x=>F (J x)
  | _=>False
 | .str,J,v,F=>match v with
  | .string x=>F (J x)
  | _=>False
 | .ptr,J,v,F=>match v with
  | .pointer x=>F (J x)
  | _=>False
 | .slice,J,v,F=>match v with
  | .slice a n c=>F (J a n c)
  | _=>False
 | .map,J,v,F=>match v with
  | .map x=>F (J x)
  | _=>False
 | .val,J,v,F=>F (J v)
def rT {T:Type}:(l:List Sh)→sj l T→List Value→(T→Prop)→Prop
 | [],J,[],F=>F J
 | s::l,J,v::vs,F=>tC s J v fun J'=>rT l J' vs F
 | _,_,_,_=>False
def oU {T:Type}:(s:Sh2)→tG s T→Value→(T→Prop)→Prop
 | .one s,J,v,F=>tC s J v F
 | .agg l,J,v,F=>match v with
  | .agg cs=>rT l J cs.toList F
  | _=>False
 | .row _,J,v,F=>match v with
  | .agg cs=>F (J cs)
  | _=>False
def pr:(l:List (Nat×Sh2))→JT l→Fr→World→Prop
 | [],J,_,w=>J w
 | (s,sh)::r,J,fr,w=>oU sh J (lk fr.g s fr.e) fun J'=>pr r J' fr w
def rY {T:Type}:(s:Sh)→ShT s T→(T→Value→Prop)→Prop
 | .int k,J,F=>∀x:Int,F (J x) (.int k x)
 | .bool,J,F=>∀x:Bool,F (J x) (.bool x)
 | .str,J,F=>∀x:ByteArray,F (J x) (.string x)
 | .ptr,J,F=>∀x:Option Addr,F (J x) (.pointer x)
 | .slice,J,F=>∀(a:Option Addr)(n c:Nat),F (J a n c) (.slice a n c)
 | .map,J,F=>∀x:Option Nat,F (J x) (.map x)
 | .val,J,F=>∀x:Value,F (J x) x
def kS {T:Type}:(l:List Sh)→sj l T→(T→List Value→Prop)→Prop
 | [],J,F=>F J []
 | s::l,J,F=>rY s J fun J' v=>kS l J' fun J'' vs=>F J'' (v::vs)
def rX {T:Type}:(s:Sh2)→tG s T→(T→Value→Prop)→Prop
 | .one s,J,F=>rY s J F
 | .agg l,J,F=>kS l J fun J' vs=>F J' (.agg ⟨vs⟩)
 | .row _,J,F=>∀cs:Array Value,F (J cs) (.agg cs)
def si:(l:List (Nat×Sh2))→JT l→(List (Nat×Value)→World→Prop)→Prop
 | [],J,F=>∀w,J w→F [] w
 | (s,sh)::r,J,F=>rX sh J fun J' v=>si r J' fun vs w=>F ((s,v)::vs) w
theorem mm {T:Type} {s:Sh} {J:ShT s T} {v:Value} {F:T→Prop}(h:tC s J v F):∃J',F J'∧∀G:T→Value→Prop,rY s J G→G J' v:=by
 cases s<;>simp only [tC]at h
 case int k=>
  split at h
  ·split at h
   ·rename_i hk
    obtain rfl:=gS hk
    exact⟨_,h,fun G hG=>hG _⟩
   ·exact h.elim
  ·exact h.elim
 case slice=>
  split at h
  ·exact⟨_,h,fun G hG=>hG _ _ _⟩
  ·exact h.elim
 case val=>exact⟨_,h,fun G hG=>hG _⟩
 all_goals
  split at h
  ·exact⟨_,h,fun G hG=>hG _⟩
  ·exact h.elim
theorem j5 {T:Type}:∀ {l:List Sh} {J:sj l T} {vs:List Value} {F:T→Prop},rT l J vs F→∃J',F J'∧∀G:T→List Value→Prop,kS l J G→G J' vs
 | [],J,[],F,h=>⟨_,h,fun G hG=>hG⟩
 | s::l,J,v::vs,F,h=>by
  obtain⟨J',h1,h2⟩:=mm h
  obtain⟨J'',h3,h4⟩:=j5 h1
  exact⟨J'',h3,fun G hG=>h4 (fun J'' vs=>G J'' (v::vs)) (h2 (fun J' v=>kS l J' fun J'' vs=>G J'' (v::vs)) hG)⟩
 | [],_,_::_,_,h=>h.elim
 | _::_,_,[],_,h=>h.elim
theorem pX {T:Type} {s:Sh2} {J:tG s T} {v:Value} {F:T→Prop}(h:oU s J v F):∃J',F J'∧∀G:T→Value→Prop,rX s J G→G J' v:=by
 cases s with
 | one s=>exact mm h
 | agg l=>
  simp only [oU]at h
  split at h
  ·obtain⟨J',h1,h2⟩:=j5 h
   exact⟨J',h1,fun G hG=>h2 (fun J' vs=>G J' (.agg ⟨vs⟩)) hG⟩
  ·exact h.elim
 | row n=>
  simp only [oU]at h
  split at h
  ·exact⟨_,h,fun G hG=>hG _⟩
  ·exact h.elim
theorem gZ:∀(l:List (Nat×Sh2))(J:JT l)(fr:Fr)(w:World),pr l J fr w→
 ∃vs:List (Nat×Value),(∀s v,(s,v)∈vs→lk fr.g s fr.e=v)∧∀F,si l J F→F vs w
 | [],J,fr,w,h=>⟨[],by simp,fun F hF=>hF w h⟩
 | (s,sh)::r,J,fr,w,h=>by
  obtain⟨J',h1,h2⟩:=pX h
  obtain⟨vs,h3,h4⟩:=gZ r J' fr w h1
  refine⟨(s,lk fr.g s fr.e)::vs,fun s' v' hm=>?_,fun F hF=>h4 _ (h2 (fun J' v=>si r J' fun vs w=>F ((s,v)::vs) w) hF)⟩
  rcases List.mem_cons.1 hm with e | hm
  ·cases e;rfl
  ·exact h3 _ _ hm
def rZ:Sh→(Value→Prop)→Prop
 | .int k,F=>∀x:Int,F (.int k x)
 | .bool,F=>∀x:Bool,F (.bool x)
 | .str,F=>∀x:ByteArray,F (.string x)
 | .ptr,F=>∀x:Option Addr,F (.pointer x)
 | .slice,F=>∀(a:Option Addr)(n c:Nat),F (.slice a n c)
 | .map,F=>∀x:Option Nat,F (.map x)
 | .val,F=>∀x:Value,F x
def rW:List Sh→(List Value→Prop)→Prop
 | [],F=>F []
 | s::l,F=>rZ s fun v=>rW l fun vs=>F (v::vs)
def uh:Sh2→(Value→Prop)→Prop
 | .one s,F=>rZ s F
 | .agg l,F=>rW l fun vs=>F (.agg ⟨vs⟩)
 | .row _,F=>∀cs:Array Value,F (.agg cs)
def u5:List Sh2→(List Value→Prop)→Prop
 | [],F=>F []
 | s::l,F=>uh s fun v=>u5 l fun vs=>F (v::vs)
theorem j8 {s:Sh} {F G:Value→Prop}(h:s.ex F)(hG:rZ s G):∃v,F v∧G v:=by
 cases s<;>simp only [Sh.ex]at h
 case slice=>obtain⟨a,n,c,h⟩:=h;exact⟨_,h,hG _ _ _⟩
 all_goals obtain⟨x,h⟩:=h;exact⟨_,h,hG _⟩
theorem j6:∀ {l:List Sh} {F G:List Value→Prop},exs l F→rW l G→∃vs,F vs∧G vs
 | [],_,_,h,hG=>⟨[],h,hG⟩
 | s::l,F,G,h,hG=>by
  obtain⟨v,h1,h2⟩:=j8 h hG
  obtain⟨vs,h3,h4⟩:=j6 h1 h2
  exact⟨_,h3,h4⟩
theorem pY {s:Sh2} {F G:Value→Prop}(h:s.ex F)(hG:uh s G):∃v,F v∧G v:=by
 cases s with
 | one s=>exact j8 h hG
 | agg l=>obtain⟨vs,h1,h2⟩:=j6 h hG;exact⟨_,h1,h2⟩
 | row n=>obtain⟨cs,h⟩:=h;exact⟨_,h,hG _⟩
theorem mq:∀ {l:List Sh2} {F G:List Value→Prop},mf l F→u5 l G→∃vs,F vs∧G vs
 | [],_,_,h,hG=>⟨[],h,hG⟩
 | s::l,F,G,h,hG=>by
  obtain⟨v,h1,h2⟩:=pY h hG
  obtain⟨vs,h3,h4⟩:=mq h1 h2
  exact⟨_,h3,h4⟩
theorem me:∀ {l:List Sh2} {x:List Value},mf l (fun vs=>x=vs)→x.length=l.length:=by
 have key:∀(l:List Sh2)(pre:List Value)(x:List Value),mf l (fun vs=>x=pre++vs)→x.length=pre.length+l.length:=by
  intro l
  induction l with
  | nil=>intro pre x h;have:x=pre++ []:=h;rw [this];simp
  | cons s l ih=>
   intro pre x h
   obtain⟨v,h⟩:=Sh2.dJ h
   have:=ih (pre++ [v]) x (by simpa using h)
   rw [this]
   simp;omega
 intro l x h
 simpa using key l [] x (by simpa using h)
def writes:Code→List Nat
 | .region _ ops _=>ops.toList.filterMap (·.dst)
 | .seq x y=>writes x++writes y
 | .cond _ x y=>writes x++writes y
 | .block _ c=>writes c
 | .loop c=>writes c
 | .scope c=>writes c
 | .rangeFunc _ _ _ _=>[gj]
 | _=>[]
def oW(ws:List Nat):List Nat→Bool
 | []=>true
 | d::r=>match ws.elem d with
  | true=>oW ws r
  | false=>false
theorem j9 {ws:List Nat}:∀ {l:List Nat},oW ws l=true→∀d∈l,d∈ws
 | [],_,d,hd=>by cases hd
 | e::r,h,d,hd=>by
  unfold oW at h
  split at h
  ·rename_i he
   rcases List.mem_cons.1 hd with rfl | hd
   ·exact List.elem_iff.1 he
   ·exact j9 h d hd
  ·cases h
structure Cut where
 live:List (Nat×Sh2)
 wr:List Nat
inductive Ann where
 | leaf
 | node (cut:Option Cut)(l r:Ann)
def Ann.cut:Ann→Option Cut
 | .leaf=>none
 | .node c _ _=>c
def Ann.l:Ann→Ann
 | .leaf=>.leaf
 | .node _ l _=>l
def Ann.r:Ann→Ann
 | .leaf=>.leaf
 | .node _ _ r=>r
def forget(wr:List Nat):List (Nat×Value)→List (Nat×Value)
 | []=>[]
 | (d,v)::r=>match wr.elem d with
  | true=>forget wr r
  | false=>(d,v)::forget wr r
def oR(wr ws:List Nat):Bool:=
 match oW wr ws with
 | true=>!(wr.elem gj)
 | false=>false
theorem j2 {wr ws:List Nat}(h:oR wr ws=true):(∀d∈ws,d∈wr)∧gj ∉ wr:=by
 unfold oR at h
 split at h
 ·rename_i E9
  refine⟨j9 E9,fun hm=>?_⟩
  rw [List.elem_iff.2 hm]at h
  cases h
 ·cases h
def dm(c:Code)(a:Ann)(Q:QF)(fr:Fr)(F:QF→Prop):Prop:=
 match a.cut with
 | none=>F Q
 | some ⟨live,wr⟩=>match oR wr (writes c)with
  | true=>∃J:JT live,F (fun x fr' w'=>match x with | .normal=>pr live J fr' w' | x=>Q x fr' w')∧
   ∀g:Nat→Value,si live J fun vs w'=>Q .normal ⟨vs++forget wr fr.e,g,fr.ds⟩ w'
  | false=>False
def iH(P:Program):List Oper→Bool
 | []=>true
 | o::r=>match ahead P o with
  | true=>iH P r
  | false=>false
def df(l:List Oper):Bool:=
 match l with
 | []=>true
 | o::r=>match cq o with
  | true=>df r
  | false=>false
theorem ef:∀ {l:List Oper},df l=true→∀o∈l,cq o=true
 | [],_,o,ho=>by cases ho
 | e::r,h,o,ho=>by
  unfold df at h
  split at h
  ·rename_i he
   rcases List.mem_cons.1 ho with rfl | ho
   ·exact he
   ·exact ef h o ho
  ·cases h
structure Ys where
 n:Nat
 is:Nat→List Value→World→Prop
@[reducible] def Ys.of(xs:List (List Value)):Ys:=⟨xs.length,fun i x _=>xs[i]? =some x⟩
def Iter(P:Program)(gf:Nat)(cap:Array Value)(xs:Ys)(X:Nat→Prop)(D:Nat→World→Prop):Prop:=
 (∀i A B,D i A→Kept X A B→D i B)∧
 ∀(l:Nat)(J Jx:Nat→World→Prop)(W:World),
  (∀i A B,J i A→Kept (fun k=>k<A.heap.size∧¬X k) A B→J i B)→(∀i A B,Jx i A→Kept (fun k=>k<A.heap.size∧¬X k) A B→Jx i B)→
  J 0 W→D 0 W→
  (∀i x A,xs.is i x A→J i A→D i A→YieldAt Fence.wide 0 P l ⟨x⟩ A fun e B=>(e= .returned (.bool true)∧J (i+1) B∧Kept X A B)∨(e= .returned (.bool false)∧Jx (i+1) B∧Kept X A B))→
  Calls P gf (#[.func (.yield l) #[] #[]]++cap) W fun e B=>(∃v,e= .returned v)∧((J xs.n B∧D xs.n B)∨∃i,Jx i B∧D i B)
def mu(X:Nat→Prop)(l:Nat)(J:Nat→World→Prop):Prop:=
 ∀i A B,J i A→Kept (fun k=>k<A.heap.size∧¬X k∧k≠l) A B→J i B
def oG:List Tmp→List Value→List (Nat×Value)→List (Nat×Value)
 | p::ps,v::vs,e=>oG ps vs ((p,v)::e)
 | _,_,e=>e
def mark(dl:Nat):Deferred:= {target:= .collected dl,args:= #[]}
def sS(ps:List Tmp)(n:Nat):Bool:=
 match ps with
 | []=>true
 | p::r=>match Nat.blt p n with
  | true=>sS r n
  | false=>false
def vcC(P:Program)(C:List Nat)(n:Nat)(N:List Nat):Bool→Option (List PanicEntry→World→Prop)→Code→Ann→QF→Fr→World→Prop
 | _,_,.skip,_,Q,fr,w=>Q .normal fr w
 | _,Qp,.region id ops false,a,Q,fr,w=>dm (.region id ops false) a Q fr fun Q=>vcL P C n N ops Qp (Q .normal) ops.toList fr w
 | _,Qp,.region id ops true,a,Q,fr,w=>dm (.region id ops true) a Q fr fun Q=>match Region.noSelect ops,df ops.toList with
  | true,true=>(match iH P ops.toList with
   | true=>vcD P C n N ops Qp (Q .normal) ops.size none (Array.replicate ops.size false) fr w.drew
   | false=>∃b:Nat→Nat→Prop,vcD P C n N ops Qp (Q .normal) ops.size (some b) (Array.replicate ops.size false) fr w.drew)
  | _,_=>False
 | R,Qp,.seq x y,a,Q,fr,w=>dm (.seq x y) a Q fr fun Q=>vcC P C n N R Qp x a.l (fun e fr' w'=>match e with | .normal=>vcC P C n N R Qp y a.r Q fr' w' | e=>Q e fr' w') fr w
 | R,Qp,.cond c x y,a,Q,fr,w=>dm (.cond c x y) a Q fr fun Q=>match ev fr c with
  | .bool b=>split b (vcC P C n N R Qp x a.l Q fr w) (vcC P C n N R Qp y a.r Q fr w)
  | _=>False
 | R,Qp,.block id c,a,Q,fr,w=>dm (.block id c) a Q fr fun Q=>vcC P C n N R Qp c a.l (fun e fr' w'=>match e with
  | .exit id'=>(match Nat.beq id' id with | true=>Q .normal fr' w' | false=>Q (.exit id') fr' w')
  | e=>Q e fr' w') fr w
 | R,Qp,.loop c,a,Q,fr,w=>match a.cut with
  | none=>False
  | some ⟨live,wr⟩=>match oR wr (writes c)with
   | true=>∃I:Nat→JT live,(∃m,pr live (I m) fr w)∧∀(m:Nat)(g:Nat→Value),si live (I m) fun vs w'=>
    vcC P C n N R Qp c a.l (fun e fr' w''=>match e with
     | .normal=>∃m',m'<m∧pr live (I m') fr' w''
     | e=>Q e fr' w'') ⟨vs++forget wr fr.e,g,fr.ds⟩ w'
   | false=>False
 | false,_,.rangeFunc g ps assign body,a,Q,fr,w=>match a.cut with
  | none=>False
  | some ⟨live,ids⟩=>match Nat.beq live.length ps.size && sS ps.toList n with
   | false=>False
   | true=>∃(gf:Nat)(cap:Array Value),ev fr g= .func (.func gf) #[] cap∧C.elem gf=true∧
    ∀(l dl:Nat)(w1:World),dl=w.heap.size→l=w.heap.size+1→Kept (fun k=>k<w.heap.size) w w1→l<w1.heap.size→w1.heap[dl]? =some (.deferred (some []))→
     ∃(xs:Ys)(X:Nat→Prop)(D J Jr:Nat→World→Prop)(Je:Nat→Nat→World→Prop),
      Iter P gf cap xs X D∧(∀k,X k→k<w.heap.size)∧(∀i x A,xs.is i x A→mf (live.map (·.2)) fun vs=>x=vs)∧
      (mu X l J∧mu X l Jr∧∀id,mu X l (Je id))∧D 0 w1∧J 0 w1∧
      (∀(i:Nat)(A:World),J i A→D i A→u5 (live.map (·.2)) fun x=>xs.is i x A→
       vcC P C n N true none assign a.l (fun e zU w2=>match e with
        | .normal=>Kept (fun k=>X k∨k=l) A w2∧∀w3,Kept (fun k=>k<w2.heap.size∧k≠l) w2 w3→
         vcC P C n N true none body a.r (fun e _ w4=>match e with
          | .normal=>Kept (fun k=>X k∨k=l) w3 w4∧J (i+1) w4
          | .ret=>Kept (fun k=>X k∨k=l) w3 w4∧Jr (i+1) w4
          | .exit id=>(match ids.elem id with
           | true=>Kept (fun k=>X k∨k=l) w3 w4∧Je id (i+1) w4
           | false=>False)
          | _=>False) zU w3
        | _=>False) ⟨oG ps.toList x fr.e,fr.g,[]⟩ A)∧
      (∀W,J xs.n W→D xs.n W→Q .normal ⟨fr.e,fr.g,mark dl::fr.ds⟩ W)∧
      (∀i W,Jr i W→D i W→Q .ret ⟨fr.e,fr.g,mark dl::fr.ds⟩ W)∧
      tD (fun id=>∀i W,Je id i W→D i W→Q (.exit id) ⟨fr.e,fr.g,mark dl::fr.ds⟩ W) ids
 | _,_,.exit id,_,Q,fr,w=>Q (.exit id) fr w
 | _,_,.ret,_,Q,fr,w=>Q .ret fr w
 | _,_,.label _,_,Q,fr,w=>Q .normal fr w
 | false,Qp,.scope c,a,Q,fr,w=>dm (.scope c) a Q fr fun Q=>vcC P C n N false Qp c a.l (fun e fr' w'=>match e with
  | .goto _=>False
  | e=>Q e fr' w') fr w
 | _,_,_,_,_,_,_=>False
section
variable {P:Program} {C:List Nat} {n:Nat} {N:List Nat} {Qp:Option (List PanicEntry→World→Prop)} {r:Option Nat}
theorem jW(g:Nat→Value)(i:Nat):∀(x y:List (Nat×Value)),(∃v,(i,v)∈x∧lk g i (x++y)=v)∨((∀v,(i,v) ∉ x)∧lk g i (x++y)=lk g i y)
 | [],y=>.inr ⟨by simp,rfl⟩
 | (d,v)::r,y=>by
  simp only [List.cons_append,lk]
  split
  ·rename_i h
   obtain rfl:=Nat.eq_of_beq_eq_true h
   exact .inl ⟨v,List.mem_cons_self ..,rfl⟩
  ·rename_i h
   have xi:i≠d:=by rintro rfl;simp at h
   rcases jW g i r y with⟨u,hu,he⟩ | ⟨hu,he⟩
   ·exact .inl ⟨u,List.mem_cons_of_mem _ hu,he⟩
   ·refine .inr ⟨fun u hm=>?_,he⟩
    rcases List.mem_cons.1 hm with e | hm
    ·cases e;exact xi rfl
    ·exact hu u hm
theorem fI(wr:List Nat)(g g':Nat→Value)(i:Nat):∀(e:List (Nat×Value)),lk g' i (forget wr e)=g' i∨(i ∉ wr∧lk g' i (forget wr e)=lk g i e)
 | []=>.inl rfl
 | (d,v)::r=>by
  simp only [forget]
  split
  ·rename_i h
   rcases fI wr g g' i r with hh | ⟨hn,hh⟩
   ·exact .inl hh
   ·refine .inr ⟨hn,?_⟩
    simp only [lk]
    split
    ·rename_i hi
     obtain rfl:=Nat.eq_of_beq_eq_true hi
     exact absurd (List.elem_iff.1 h) hn
    ·exact hh
  ·rename_i h
   simp only [lk]
   split
   ·rename_i hi
    obtain rfl:=Nat.eq_of_beq_eq_true hi
    refine .inr ⟨fun hm=>?_,rfl⟩
    rw [List.elem_iff.2 hm]at h
    cases h
   ·exact fI wr g g' i r
theorem oE {fr fr':Fr} {a a':Act} {wr:List Nat} {vs:List (Nat×Value)}(h0:Rep n fr a)(h1:Rep n fr' a')(yj:Agr wr a a')(Ms:gj ∉ wr)(L0:∀s v,(s,v)∈vs→lk fr'.g s fr'.e=v):
 Rep n ⟨vs++forget wr fr.e,fun i=>a'.tmps.getD i undef,fr.ds⟩ a':=by
 refine⟨h1.size,fun i=>?_,(yj.defers Ms).trans h0.defers⟩
 rcases jW (fun i=>a'.tmps.getD i undef) i vs (forget wr fr.e)with⟨v,hv,he⟩ | ⟨_,he⟩
 ·show _=lk _ i (vs++forget wr fr.e)
  rw [he,h1.get,L0 _ _ hv]
 ·show _=lk _ i (vs++forget wr fr.e)
  rw [he]
  rcases fI wr fr.g (fun i=>a'.tmps.getD i undef) i fr.e with hh | ⟨hn,hh⟩
  ·rw [hh]
  ·rw [hh,← h0.get]
   exact yj.tmps i hn
theorem Real.mono {ws ws':List Nat} {a0 a:Act} {Q Q':QF} {x:Exit} {w:World}(h:Real n ws a0 Qp Q x a w)(hws:∀i,i∈ws→i∈ws')(hq:∀x fr w,Q x fr w→Q' x fr w):Real n ws' a0 Qp Q' x a w:=by
 cases x<;>first | exact h.elim | exact⟨h.1,h.2.mono hws⟩ | (obtain⟨fr,h1,h2,h3⟩:=h;exact⟨fr,h1,hq _ _ _ h2,h3.mono hws⟩)
theorem gg {ws:List Nat} {a0 a:Act} {Q:QF} {x:Exit} {w:World}(h:Real n ws a0 Qp (fun x fr w=>match x with | .normal=>Q .normal fr w | _=>False) x a w):Real n ws a0 Qp Q x a w:=by
 cases x<;>first | exact h | (obtain⟨_,_,h,_⟩:=h;exact h.elim)
theorem kx {F:Fence} {nn:Nat} {c:Code} {Q:Exit→Act→World→Prop}(I:Nat→Act→World→Prop)(m:Nat) {a:Act} {w:World}(h₀:I m a w)
 (round:∀m a w,I m a w→c.wpIn F nn P (Exit.then (fun a' w'=>∃m',m'<m∧I m' a' w') Q) a w):(Code.loop c).wpIn F nn P Q a w:=by
 intro b k cs NL hb hr
 have key:∀n a w,I n a w→
  ∃e a' w',Q e a' w'∧ArrivesIn (Machine.fenced P F) P (lone (b.atR a (.code c:: .inLoop c::k)) cs w) b k cs e a' w':=by
  intro n
  induction n using Nat.strongRecOn with
  | _ n ih=>
   intro a w hI
   obtain⟨e,a₁,w₁,hq,Bb⟩:=round n a w hI b (.inLoop c::k) cs NL hb hr
   cases e with
   | normal=>
    obtain⟨m',yQ,hI₁⟩:=hq
    obtain⟨e₂,a₂,w₂,hq₂,Mx⟩:=ih m' yQ a₁ w₁ hI₁
    exact⟨e₂,a₂,w₂,hq₂,.of_steps (StepsIn.trans Bb (.one (fenced_calm hb hr rfl) stepR_inLoop)) Mx⟩
   | exit id=>exact⟨_,a₁,w₁,hq,.pass (x:= .inLoop c) rfl (fun _ _=>.inl (by simp)) Bb⟩
   | goto l=>exact⟨_,a₁,w₁,hq,.pass (x:= .inLoop c) rfl (fun _ _=>.inl (by simp)) Bb⟩
   | ret=>exact⟨_,a₁,w₁,hq,.pass (x:= .inLoop c) rfl (fun _ _=>.inl (by simp)) Bb⟩
   | panic ch=>exact⟨_,a₁,w₁,hq,.pass (x:= .inLoop c) rfl (fun _ _=>.inl (by simp)) Bb⟩
   | outgrown=>exact⟨_,a₁,w₁,hq,.pass (x:= .inLoop c) rfl (fun _ _=>.inl (by simp)) Bb⟩
 obtain⟨e,a',w',hq,Bb⟩:=key _ a w h₀
 exact⟨e,a',w',hq,.of_steps (.one (fenced_calm hb hr rfl) stepR_loop) Bb⟩
def Sound(P:Program)(n:Nat)(r:Option Nat)(Qp:Option (List PanicEntry→World→Prop))(c:Code)(V:QF→Fr→World→Prop):Prop:=
 ∀(Q:QF)(fr:Fr)(a:Act)(w:World),Rep n fr a→V Q fr w→c.wpIn (WF r) 0 P (Real n (writes c) a Qp Q) a w
theorem cV {c:Code} {an:Ann} {V:QF→Fr→World→Prop}(h:Sound P n r Qp c V):Sound P n r Qp c fun Q fr w=>dm c an Q fr fun Q=>V Q fr w:=by
 intro Q fr a w hr hv
 simp only [dm]at hv
 split at hv
 ·exact h Q fr a w hr hv
 ·rename_i live wr Mv
  split at hv
  ·rename_i E9
   obtain⟨E9,Ms⟩:=j2 E9
   obtain⟨J,h1,h2⟩:=hv
   refine wpIn_mono (h _ fr a w hr h1) fun e a' w' he=>?_
   cases e
   case normal=>
    obtain⟨fr',xT,hj,yj⟩:=he
    obtain⟨vs,L0,Bc⟩:=gZ live J fr' w' hj
    exact⟨_,oE hr xT (yj.mono E9) Ms L0,Bc _ (h2 _),yj⟩
   all_goals exact he
  ·exact hv.elim
theorem nu {ops:Array Oper} {id:Nat} {dr:Bool} {i:Nat} {o:Oper}(ho:ops[i]? =some o) {d:Nat}(hd:o.dst=some d):d∈writes (.region id ops dr):=by
 refine List.mem_filterMap.2 ⟨o,?_,hd⟩
 obtain⟨h1,h2⟩:=Array.getElem?_eq_some_iff.1 ho
 rw [← h2]
 exact Array.mem_toList_iff.2 (Array.getElem_mem h1)
theorem fx {id:Nat} {ops:Array Oper} {Q:Exit→Act→World→Prop} {G:Nat→World→World→Prop} {a:Act} {w:World}(hm:P.follows .mixedOrders=true)(hL:¬LetsOut Q)(BT:∀o∈ops,cq o=true)
 (h:bV P ops Q ops.size G (Array.replicate ops.size false) a w.drew):(Code.region id ops true).wpIn (WF r) 0 P Q a w:=
 wpIn_region_draw fun t=>bO hL BT _ _ _ (by
  simp only [Region.schedule,hm,Bool.true_or,if_true]
  exact wpAny_sound ops.size t _ a _ (gX _ _ _ _ _ h))
theorem kE {ws:List Nat} {a0:Act} {Q:QF}:¬LetsOut (Real n ws a0 Qp Q):=fun⟨_,_,h⟩=>h
theorem jP:∀(ps:List Tmp)(vs:List Value)(fr:Fr)(a:Act),sS ps n=true→Rep n fr a→
 Rep n ⟨oG ps vs fr.e,fr.g,[]⟩ {tmps:=(ps.zip vs).foldl (fun t (p,v)=>t.setIfInBounds p v) a.tmps,defers:= []}
 | [],vs,fr,a,_,hr=>⟨hr.size,hr.get,rfl⟩
 | _::_,[],fr,a,_,hr=>⟨hr.size,hr.get,rfl⟩
 | p::ps,v::vs,fr,a,hp,hr=>by
  simp only [sS]at hp
  split at hp
  ·rename_i hb
   have yQ:p<n:=by simpa [Nat.blt_eq]using hb
   obtain⟨fr',h1,h2⟩:=de (N:= []) (dst:=some p) (v:=v) (F:=fun fr'=>fr'=⟨(p,v)::fr.e,fr.g,fr.ds⟩) hr (by simp [fF,hb,List.elem])
   subst h2
   exact jP ps vs _ _ hp h1
  ·cases hp
theorem Kept.putObj {B:Nat→Prop}(w:World)(l:Nat)(o:Obj)(h:¬B l):Kept B w (w.putObj l o):=
 ⟨rfl,rfl,rfl,by simp,fun _ hk=>World.putObj_heap_other (by rintro rfl;exact h hk)⟩
theorem Kept.nH(w:World)(o:Obj):Kept (fun k=>k<w.heap.size) w (w.alloc o):=
 Kept.rj ((Below.refl _ w).alloc (Nat.le_refl _) o)
theorem lL(hC:cy P C=true) {g:Operand} {ps:Array Tmp} {assign body:Code} {an:Ann}(As:∀l,Sound P n (some l) none assign (vcC P C n N true none assign an.l))(Bo:∀l,Sound P n (some l) none body (vcC P C n N true none body an.r)):
 Sound P n none Qp (.rangeFunc g ps assign body) (vcC P C n N false Qp (.rangeFunc g ps assign body) an):=by
 intro Q fr a w hr hv
 simp only [vcC]at hv
 split at hv
 ·exact hv.elim
 rename_i live ids Mv
 split at hv
 ·exact hv.elim
 rename_i hlen
 simp only [Bool.and_eq_true]at hlen
 obtain⟨hlen,NQ⟩:=hlen
 have hlen:live.length=ps.size:=Nat.eq_of_beq_eq_true hlen
 obtain⟨gf,cap,hg,hgf,hv⟩:=hv
 have hw:(writes (.rangeFunc g ps assign body))= [gj]:=rfl
 have yj:Agr [gj] a {a with defers:=mark w.heap.size::a.defers}:=⟨fun _ _=>rfl,fun h=>absurd (List.mem_singleton.2 rfl) h⟩
 have NM:Rep n ⟨fr.e,fr.g,mark w.heap.size::fr.ds⟩ {a with defers:=mark w.heap.size::a.defers}:=⟨hr.size,hr.get,by show _::_=_;rw [hr.defers]⟩
 refine wpIn_rangeFunc fun fn EG=>?_
 obtain⟨rec,zQ⟩:∃rec:LoopState→Option Code→Loop,rec=fun st pe=> {state:=st,pending:=pe,fn,tmps:=a.tmps,params:=ps,assign,body,defers:=w.heap.size}:=⟨_,rfl⟩
 obtain⟨W1,M0⟩:∃W1,(w.alloc (.deferred (some []))).alloc (.loop (rec .ready none))=W1:=⟨_,rfl⟩
 have hL1:W1.heap[w.heap.size+1]? =some (.loop (rec .ready none)):=by
  rw [← M0];have:=World.alloc_heap_new (w.alloc (.deferred (some []))) (.loop (rec .ready none));rwa [World.size_alloc]at this
 have hK1:W1.heap[w.heap.size]? =some (.deferred (some [])):=by
  rw [← M0];exact(Below.heap_alloc _ _ _ (by simp)).trans (World.alloc_heap_new w _)
 have hkw:Kept (fun k=>k<w.heap.size) w W1:=by
  rw [← M0];exact(Kept.nH w _).trans ((Kept.nH _ _).mono (fun k hk=>by rw [World.size_alloc];omega))
 obtain⟨xs,X,D,J,Jr,Je,N3,hX,hsh,⟨sJ,sR,sE⟩,hD0,hJ0,By,Mt,NN,Mr⟩:=hv _ _ W1 rfl rfl hkw (Array.getElem?_eq_some_iff.1 hL1).1 hK1
 have G2:∀k,X k→k≠w.heap.size+1:=fun k hk=>by have:=hX k hk;omega
 refine⟨w.heap.size+1,[mark w.heap.size],W1,{target:= .fn (.func gf) cap,args:= #[.func (.yield (w.heap.size+1)) #[] #[]]},W1,gf,
  #[.func (.yield (w.heap.size+1)) #[] #[]]++cap,W1,?_,?_,fun _ _=>trivial,?_,(by intro h;cases h),iL ?_⟩
 ·rw [← M0,zQ];exact run_enterLoop_outer _ _ _ _ _
 ·have Ob:a.eval g= .func (.func gf) #[] cap:=by rw [hr.eval];exact hg
  simp only [resolve,Ob,Deferred.ofValue]
  simp [Act.eval]
 ·show(callFunc gf (#[.func (.yield (w.heap.size+1)) #[] #[]]++cap)).run P W1=_
  exact di hC hgf _ _
 have key:=N3.2 (w.heap.size+1)
  (fun i A=>J i A∧A.heap[w.heap.size+1]? =some (.loop (rec .ready none)))
  (fun i A=>∃c,((c= .ret∧Jr i A)∨∃id,c= .exit id∧id∈ids∧Je id i A)∧A.heap[w.heap.size+1]? =some (.loop (rec .done (some c)))) W1
  (fun i A B h hk=>⟨sJ i A B h.1 (hk.mono fun k h=>⟨h.1,h.2.1⟩),(hk.block _ ⟨(Array.getElem?_eq_some_iff.1 h.2).1,fun h=>G2 _ h rfl⟩).trans h.2⟩)
  (fun i A B h hk=>by
   obtain⟨c,hc,hl⟩:=h
   refine⟨c,?_,(hk.block _ ⟨(Array.getElem?_eq_some_iff.1 hl).1,fun h=>G2 _ h rfl⟩).trans hl⟩
   rcases hc with⟨e,h⟩ | ⟨id,e,hm,h⟩
   ·exact .inl ⟨e,sR i A B h (hk.mono fun k h=>⟨h.1,h.2.1⟩)⟩
   ·exact .inr ⟨id,e,hm,sE id i A B h (hk.mono fun k h=>⟨h.1,h.2.1⟩)⟩)
  ⟨hJ0,hL1⟩ hD0 ?_
 ·refine key.mono ?_
  rintro e B ⟨⟨v,rfl⟩,⟨⟨hj,hl⟩,hd⟩ | ⟨i,⟨c,hc,hl⟩,hd⟩⟩
  ·have ze:=run_endLoop (P:=P) hl (by rw [zQ];simp)
   rw [show(rec .ready none).pending=none by rw [zQ]]at ze
   refine⟨none,_,ze,?_⟩
   exact⟨_,NM,Mt _ (sJ _ _ _ hj (Kept.putObj _ _ _ (by simp))) (N3.1 _ _ _ hd (Kept.putObj _ _ _ (fun h=>G2 _ h rfl))),yj⟩
  ·have ze:=run_endLoop (P:=P) hl (by rw [zQ];simp)
   rw [show(rec .done (some c)).pending=some c by rw [zQ]]at ze
   refine⟨some c,_,ze,?_⟩
   have hd':∀o,D i (B.putObj (w.heap.size+1) o):=fun o=>N3.1 _ _ _ hd (Kept.putObj _ _ _ (fun h=>G2 _ h rfl))
   rcases hc with⟨rfl,h⟩ | ⟨id,rfl,hm,h⟩
   ·exact wpIn_ret ⟨_,NM,NN _ _ (sR _ _ _ h (Kept.putObj _ _ _ (by simp))) (hd' _),yj⟩
   ·exact wpIn_exit ⟨_,NM,iG Mr id hm _ _ (sE id _ _ _ h (Kept.putObj _ _ _ (by simp))) (hd' _),yj⟩
 ·rintro i x A hx ⟨hj,hl⟩ hd
  have hxs:=hsh _ _ _ hx
  have BS:x.length=ps.size:=by rw [me hxs,List.length_map,hlen]
  obtain⟨vs,rfl,E6⟩:=mq hxs (By i A hj hd)
  have E6:=E6 hx
  have hy:=run_yield (P:=P) (args:=⟨x⟩) hl (by rw [zQ];exact BS)
  rw [zQ]at hy
  refine⟨fn,_,assign,body,hy,roundIn_of_wpIn (F:=Fence.wide) (n:=0) trivial ?_⟩
  have Gl:Rep n ⟨oG ps.toList x fr.e,fr.g,[]⟩ {tmps:=(ps.zip ⟨x⟩).foldl (fun t (p,v)=>t.setIfInBounds p v) a.tmps,defers:= []}:=by
   have:=jP ps.toList x fr a NQ hr
   rwa [← Array.foldl_toList,Array.toList_zip]
  refine wpIn_mono (F:=WF (some (w.heap.size+1))) (As (w.heap.size+1) _ _ _ A Gl E6) fun e a2 w2 he=>?_
  cases e
  case normal=>
   obtain⟨zU,NP,⟨zS,hb⟩,_⟩:=he
   have zo:w2.heap[w.heap.size+1]? =some (.loop (rec .ready none)):=(zS.block _ (.inr rfl)).trans hl
   have NX:=(Array.getElem?_eq_some_iff.1 zo).1
   refine⟨_,run_beginRound zo (by rw [zQ]),?_⟩
   have GY:(w2.putObj (w.heap.size+1) (.loop {rec .ready none with state:= .busy})).heap[w.heap.size+1]? =some (.loop {rec .ready none with state:= .busy}):=World.putObj_heap_same NX
   have N0:Kept X w2 (w2.putObj (w.heap.size+1) (.loop {rec .ready none with state:= .busy})):=Kept.putObj _ _ _ (fun h=>G2 _ h rfl)
   refine wpIn_mono (F:=WF (some (w.heap.size+1))) (Bo (w.heap.size+1) _ _ _ _ NP (hb _ (Kept.putObj _ _ _ (by simp)))) fun e a4 w4 he=>?_
   have fin:∀(jump:Option Code),Kept (fun k=>X k∨k=w.heap.size+1) (w2.putObj (w.heap.size+1) (.loop {rec .ready none with state:= .busy})) w4→
    (Instr.endRound (w.heap.size+1) jump).run P w4= .ok (.bool jump.isNone) (w4.putObj (w.heap.size+1) (.loop (rec (if jump.isNone then .ready else .done) jump)))∧
    (w4.putObj (w.heap.size+1) (.loop (rec (if jump.isNone then .ready else .done) jump))).heap[w.heap.size+1]? =some (.loop (rec (if jump.isNone then .ready else .done) jump))∧
    Kept X A (w4.putObj (w.heap.size+1) (.loop (rec (if jump.isNone then .ready else .done) jump))):=by
    intro jump FP
    have hl4:=(FP.block _ (.inr rfl)).trans GY
    have:=run_endRound (P:=P) jump hl4
    refine⟨by rw [zQ]at this ⊢;exact this,World.putObj_heap_same (Array.getElem?_eq_some_iff.1 hl4).1,?_⟩
    exact(((zS.mono fun k h=>.inl h).trans N0).trans (FP.mono fun k h=>.inl h)).trans (Kept.putObj _ _ _ (fun h=>G2 _ h rfl))
   cases e
   case normal=>
    obtain⟨fr4,_,⟨FP,Ml⟩,_⟩:=he
    obtain⟨ze,FO,Mi⟩:=fin none FP
    exact⟨_,_,ze,.inl ⟨rfl,⟨sJ _ _ _ Ml (Kept.putObj _ _ _ (by simp)),FO⟩,Mi⟩⟩
   case ret=>
    obtain⟨fr4,_,⟨FP,Ml⟩,_⟩:=he
    obtain⟨ze,FO,Mi⟩:=fin (some .ret) FP
    exact⟨_,_,ze,.inr ⟨rfl,⟨.ret,.inl ⟨rfl,sR _ _ _ Ml (Kept.putObj _ _ _ (by simp))⟩,FO⟩,Mi⟩⟩
   case exit id=>
    obtain⟨fr4,_,h4,_⟩:=he
    simp only at h4
    split at h4
    ·rename_i hid
     obtain⟨FP,Ml⟩:=h4
     obtain⟨ze,FO,Mi⟩:=fin (some (.exit id)) FP
     exact⟨_,_,ze,.inr ⟨rfl,⟨.exit id,.inr ⟨id,rfl,List.elem_iff.1 hid,sE id _ _ _ Ml (Kept.putObj _ _ _ (by simp))⟩,FO⟩,Mi⟩⟩
    ·exact h4.elim
   case goto t=>obtain⟨_,_,h,_⟩:=he;exact h.elim
   case panic ch=>exact he.1.elim
   case outgrown=>exact he.elim
  case panic ch=>exact he.1.elim
  case outgrown=>exact he.elim
  all_goals obtain⟨_,_,h,_⟩:=he;exact h.elim
theorem bI(hC:cy P C=true)(hm:P.follows .mixedOrders=true):∀(c:Code)(R:Bool)(Qp:Option (List PanicEntry→World→Prop))(r:Option Nat)(_:R=false→r=none)(an:Ann),Sound P n r Qp c (vcC P C n N R Qp c an)
 | .skip,R,Qp,r,_,an=>fun Q fr a w hr hv=>wpIn_skip ⟨fr,hr,hv,Agr.refl _ _⟩
 | .region id ops false,R,Qp,r,_,an=>cV (c:= .region id ops false) (V:=fun Q fr w=>vcL P C n N ops Qp (Q .normal) ops.toList fr w) fun Q fr a w hr hv=>by
  exact wpIn_mono (wpIn_region_list (pn (ws:=writes (.region id ops false)) (a0:=a) hC ops.toList (fun o ho d hd=>List.mem_filterMap.2 ⟨o,ho,hd⟩) fr a w hr (Agr.refl _ _) hv)) fun e a' w' he=>gg he
 | .region id ops true,R,Qp,r,_,an=>cV (c:= .region id ops true) (V:=fun Q fr w=>match Region.noSelect ops,df ops.toList with
  | true,true=>(match iH P ops.toList with
   | true=>vcD P C n N ops Qp (Q .normal) ops.size none (Array.replicate ops.size false) fr w.drew
   | false=>∃b:Nat→Nat→Prop,vcD P C n N ops Qp (Q .normal) ops.size (some b) (Array.replicate ops.size false) fr w.drew)
  | _,_=>False) fun Q fr a w hr hv=>by
  dsimp only at hv
  split at hv
  ·rename_i hs BT
   obtain⟨B,hv⟩:∃B,vcD P C n N ops Qp (Q .normal) ops.size B (Array.replicate ops.size false) fr w.drew:=by
    split at hv
    ·exact⟨_,hv⟩
    ·obtain⟨b,hv⟩:=hv
     exact⟨_,hv⟩
   exact wpIn_mono (fx hm kE (fun o ho=>ef BT o (Array.mem_toList_iff.2 ho)) (po (ws:=writes (.region id ops true)) (a0:=a) hC hs (fun i o ho d hd=>nu ho hd) ops.size _ (fun _ _ _=>True) _ fr a w.drew (dk.none _ _) (fv.none _ _) hr (Agr.refl _ _) hv)) fun e a' w' he=>gg he
  ·exact hv.elim
 | .seq x y,R,Qp,r,hR,an=>cV (c:= .seq x y) (V:=fun Q fr w=>vcC P C n N R Qp x an.l (fun e fr' w'=>match e with | .normal=>vcC P C n N R Qp y an.r Q fr' w' | e=>Q e fr' w') fr w) fun Q fr a w hr hv=>by
  refine wpIn_seq (wpIn_mono (bI hC hm x R Qp r hR an.l _ fr a w hr hv) fun e a' w' he=>?_)
  cases e
  case normal=>
   obtain⟨fr',xT,FL,yj⟩:=he
   refine wpIn_mono (bI hC hm y R Qp r hR an.r Q fr' a' w' xT FL) fun e a2 w2 he=>?_
   cases e<;>first
    | exact he.elim
    | exact⟨he.1,(yj.mono fun i hi=>List.mem_append_left _ hi).trans (he.2.mono fun i hi=>List.mem_append_right _ hi)⟩
    | (obtain⟨zU,h1,h2,h3⟩:=he
       exact⟨zU,h1,h2,(yj.mono fun i hi=>List.mem_append_left _ hi).trans (h3.mono fun i hi=>List.mem_append_right _ hi)⟩)
  all_goals first
   | exact he.elim
   | exact⟨he.1,he.2.mono fun i hi=>List.mem_append_left _ hi⟩
   | (obtain⟨zU,h1,h2,h3⟩:=he
      exact⟨zU,h1,h2,h3.mono fun i hi=>List.mem_append_left _ hi⟩)
 | .cond c x y,R,Qp,r,hR,an=>cV (c:= .cond c x y) (V:=fun Q fr w=>match ev fr c with
  | .bool b=>split b (vcC P C n N R Qp x an.l Q fr w) (vcC P C n N R Qp y an.r Q fr w)
  | _=>False) fun Q fr a w hr hv=>by
  dsimp only at hv
  split at hv
  ·rename_i b hb
   rw [← hr.eval]at hb
   rcases fy hv with⟨rfl,NI⟩ | ⟨rfl,NI⟩
   ·exact wpIn_cond_true hb (wpIn_mono (bI hC hm x R Qp r hR an.l Q fr a w hr NI) fun e a' w' he=>he.mono (fun i hi=>List.mem_append_left _ hi) (fun _ _ _ h=>h))
   ·exact wpIn_cond_false hb (wpIn_mono (bI hC hm y R Qp r hR an.r Q fr a w hr NI) fun e a' w' he=>he.mono (fun i hi=>List.mem_append_right _ hi) (fun _ _ _ h=>h))
  ·exact hv.elim
 | .block id c,R,Qp,r,hR,an=>cV (c:= .block id c) (V:=fun Q fr w=>vcC P C n N R Qp c an.l (fun e fr' w'=>match e with
  | .exit id'=>(match Nat.beq id' id with | true=>Q .normal fr' w' | false=>Q (.exit id') fr' w')
  | e=>Q e fr' w') fr w) fun Q fr a w hr hv=>by
  refine wpIn_block (wpIn_mono (bI hC hm c R Qp r hR an.l _ fr a w hr hv) fun e a' w' he=>?_)
  cases e
  case exit id'=>
   obtain⟨fr',xT,FL,yj⟩:=he
   simp only at FL
   simp only [Exit.inBlock]
   split at FL
   ·rename_i hi
    rw [if_pos (Nat.eq_of_beq_eq_true hi)]
    exact⟨fr',xT,FL,yj⟩
   ·rename_i hi
    rw [if_neg (by rintro rfl;simp at hi)]
    exact⟨fr',xT,FL,yj⟩
  all_goals exact he
 | .loop c,R,Qp,r,hR,an=>fun Q fr a w hr hv=>by
  simp only [vcC]at hv
  split at hv
  ·exact hv.elim
  ·rename_i live wr Mv
   split at hv
   ·rename_i E9
    obtain⟨E9,Ms⟩:=j2 E9
    obtain⟨I,⟨m0,h0⟩,By⟩:=hv
    refine kx (fun m a' w'=>∃fr',Rep n fr' a'∧pr live (I m) fr' w'∧Agr (writes c) a a') m0 ⟨fr,hr,h0,Agr.refl _ _⟩ ?_
    rintro m a1 w1 ⟨fr1,E6,hj,yj⟩
    obtain⟨vs,L0,Bc⟩:=gZ live (I m) fr1 w1 hj
    have NP:=oE hr E6 (yj.mono E9) Ms L0
    refine wpIn_mono (bI hC hm c R Qp r hR an.l _ _ a1 w1 NP (Bc _ (By m _))) fun e a' w' he=>?_
    cases e
    case normal=>
     obtain⟨fr',xT,⟨m',yQ,hj'⟩,Gx⟩:=he
     exact⟨m',yQ,fr',xT,hj',yj.trans Gx⟩
    case panic=>exact⟨he.1,yj.trans he.2⟩
    case outgrown=>exact he
    all_goals
     obtain⟨fr',xT,hq,Gx⟩:=he
     exact⟨fr',xT,hq,yj.trans Gx⟩
   ·exact hv.elim
 | .exit id,R,Qp,r,_,an=>fun Q fr a w hr hv=>wpIn_exit ⟨fr,hr,by cases R<;>exact hv,Agr.refl _ _⟩
 | .ret,R,Qp,r,_,an=>fun Q fr a w hr hv=>wpIn_ret ⟨fr,hr,by cases R<;>exact hv,Agr.refl _ _⟩
 | .rangeFunc g ps assign body,false,Qp,r,hR,an=>by
  obtain rfl:=hR rfl
  exact lL hC (fun l=>bI hC hm assign true none (some l) (by simp) an.l) (fun l=>bI hC hm body true none (some l) (by simp) an.r)
 | .rangeFunc _ _ _ _,true,_,_,_,_=>fun Q fr a w hr hv=>by simp only [vcC]at hv
 | .scope c,false,Qp,r,hR,an=>by
  obtain rfl:=hR rfl
  refine cV (c:= .scope c) (V:=fun Q fr w=>vcC P C n N false Qp c an.l (fun e fr' w'=>match e with
   | .goto _=>False
   | e=>Q e fr' w') fr w) fun Q fr a w hr hv=>?_
  refine(wpIn_wide (n:=0)).2 (wp_scope_straight ((wpIn_wide (n:=0)).1 (wpIn_mono (bI hC hm c false Qp none (fun _=>rfl) an.l _ fr a w hr hv) fun e a' w' he=>?_)))
  cases e
  case goto l=>obtain⟨_,_,h,_⟩:=he;exact h.elim
  all_goals exact he
 | .scope _,true,_,_,_,_=>fun Q fr a w hr hv=>by simp only [vcC]at hv
 | .label _,R,_,_,_,_=>fun Q fr a w hr hv=>wpIn_label ⟨fr,hr,by cases R<;>exact hv,Agr.refl _ _⟩
 | .goto _,R,_,_,_,_=>fun Q fr a w hr hv=>by cases R<;>simp only [vcC]at hv
 | .refuse _,R,_,_,_,_=>fun Q fr a w hr hv=>by cases R<;>simp only [vcC]at hv
end
def fg(P:Program)(fr:Fr)(w:World):List ResultVar→(List Value→Prop)→Prop
 | [],F=>F []
 | .tmp t::r,F=>fg P fr w r fun vs=>F (lk fr.g t fr.e::vs)
 | .cell a t::r,F=>match lk fr.g a fr.e with
  | .pointer p=>match dV P t,kd P t (jK (dV P t)) && hasType P t && Nat.beq (eJ (dV P t)) (dN P t)with
   | s,true=>ay p fun p=>s.ex fun v=>dH w p s v∧fg P fr w r fun vs=>F (v::vs)
   | _,false=>False
  | _=>False
def vz(P:Program)(rs:List ResultVar)(R:ax)(fr:Fr)(w:World):Prop:=
 fg P fr w rs fun vs=>match vs with
  | [v]=>R v w
  | vs=>R (.tuple ⟨vs⟩) w
def iu(P:Program)(rs:List ResultVar)(R:ax)(fr:Fr):List Deferred→World→Prop
 | [],w=>vz P rs R fr w
 | d::ds,w=>match d.target with
  | .collected D=>w.heap[D]? =some (.deferred (some []))∧iu P rs R fr ds (w.putObj D (.deferred none))
  | _=>False
def num:Nat→List Value→List (Nat×Value)
 | _,[]=>[]
 | i,v::r=>(i,v)::num (i+1) r
def oK {α:Type}:Option α→Bool
 | none=>false
 | some _=>true
def vcF(P:Program)(C:List Nat)(N:List Nat)(fn:Func)(an:Ann)(args:List Value)(R:ax)(Qp:Option (List PanicEntry→World→Prop))(w:World):Prop:=
 match fn.body,Nat.ble args.length fn.ntmps with
 | some c,true=>(match oK Qp && (writes c).elem gj with
  | true=>False
  | false=>vcC P C fn.ntmps N false Qp c an (fun e fr w'=>match e with
   | .normal=>iu P fn.results.toList R fr fr.ds w'
   | .ret=>iu P fn.results.toList R fr fr.ds w'
   | _=>False) ⟨num 0 args,fun _=>undef,[]⟩ w)
 | _,_=>False
section
variable {P:Program} {C:List Nat} {N:List Nat}
def lI(tmps:Array Value):ResultVar→Sem Value
 | .tmp t=>pure (tmps.getD t undef)
 | .cell a t=>do loadVar t (← asAddr (tmps.getD a undef))
theorem dY {fr:Fr} {w:World} {tmps:Array Value}(ht:∀i,tmps.getD i undef=lk fr.g i fr.e):∀(rs:List ResultVar) {F:List Value→Prop},fg P fr w rs F→
 ∃vs,F vs∧(rs.mapM (lI tmps)).run P w= .ok vs w
 | [],F,h=>⟨[],h,rfl⟩
 | .tmp t::r,F,h=>by
  obtain⟨vs,hF,hr⟩:=dY ht r h
  refine⟨_,hF,?_⟩
  have h1:(lI tmps (.tmp t)).run P w= .ok (lk fr.g t fr.e) w:=by rw [← ht];rfl
  rw [List.mapM_cons,Sem.run_bind,h1]
  show(Sem.run P (do let bs ← r.mapM (lI tmps);pure (lk fr.g t fr.e::bs)) w)=_
  rw [Sem.run_bind,hr]
  rfl
 | .cell a t::r,F,h=>by
  simp only [fg]at h
  split at h
  ·rename_i p hp
   split at h
   ·rename_i s hs Ba
    simp only [Bool.and_eq_true]at Ba
    obtain⟨q,rfl,h2⟩:=bD h
    obtain⟨v,hl,h3⟩:=Sh2.dJ h2
    obtain⟨vs,hF,hr⟩:=dY ht r h3
    have:=fZ (P:=P) Ba.1.1 Ba.1.2 Ba.2 hl
    refine⟨_,hF,?_⟩
    have h1:(lI tmps (.cell a t)).run P w= .ok v w:=by
     show(do loadVar t (← asAddr (tmps.getD a undef)):Sem Value).run P w=_
     rw [ht,hp]
     exact this
    rw [List.mapM_cons,Sem.run_bind,h1]
    show(Sem.run P (do let bs ← r.mapM (lI tmps);pure (v::bs)) w)=_
    rw [Sem.run_bind,hr]
    rfl
   ·exact h.elim
  ·exact h.elim
theorem qX {fn:Func} {fr:Fr} {w:World} {tmps:Array Value} {R:ax}(ht:∀i,tmps.getD i undef=lk fr.g i fr.e)(h:vz P fn.results.toList R fr w):
 ∃v,R v w∧(results fn tmps).run P w= .ok v w:=by
 obtain⟨vs,hR,hr⟩:=dY ht _ h
 have hm:(fn.results.mapM (lI tmps)).run P w= .ok ⟨vs⟩ w:=by
  rw [Array.mapM_eq_mapM_toList]
  simp [hr]
 have NO:results fn tmps=(do let vs ← fn.results.mapM (lI tmps);pure (if h:vs.size=1 then vs[0]else .tuple vs)):=by
  unfold results lI
  congr 1
 rw [NO,Sem.run_bind,hm]
 cases vs with
 | nil=>exact⟨_,hR,rfl⟩
 | cons v r=>
  cases r with
  | nil=>exact⟨_,hR,rfl⟩
  | cons u r=>exact⟨_,hR,rfl⟩
theorem rv(g:Nat→Value):∀(l:List Value)(k i:Nat),lk g i (num k l)=if h:k≤i∧i - k<l.length then l[i - k]'h.2 else g i
 | [],k,i=>by simp [num,lk]
 | v::r,k,i=>by
  simp only [num,lk]
  split
  ·rename_i h
   obtain rfl:=Nat.eq_of_beq_eq_true h
   simp
  ·rename_i h
   have xi:i≠k:=by rintro rfl;simp at h
   rw [rv g r (k+1) i]
   by_cases hc:k+1≤i∧i - (k+1)<r.length
   ·rw [dif_pos hc,dif_pos ⟨by omega,by simp;omega⟩]
    have:i - k=(i - (k+1))+1:=by omega
    simp [this]
   ·rw [dif_neg hc,dif_neg (by simp;omega)]
theorem eO {fn:Func} {fr:Fr} {tmps:Array Value} {R:ax} {R':Ending→World→Prop}(hR:∀v w,R v w→R' (.returned v) w)(ht:∀i,tmps.getD i undef=lk fr.g i fr.e):∀(ds:List Deferred)(w:World),iu P fn.results.toList R fr ds w→
 LeavesInM (WF none) 0 P fn tmps R' ds .returning w
 | [],w,h=>by
  obtain⟨v,h1,h2⟩:=qX ht h
  exact⟨v,h2,hR _ _ h1⟩
 | d::ds,w,h=>by
  simp only [iu]at h
  split at h
  ·rename_i D hD
   exact⟨by simp,.inl ⟨D,_,hD,run_takeDeferred h.1,eO hR ht ds _ h.2⟩⟩
  ·exact h.elim
theorem mh {f:FuncId} {fn:Func} {args:List Value} {an:Ann} {R:ax} {Qp:Option (List PanicEntry→World→Prop)} {w:World}(hf:P.funcs[f]? =some fn)(hC:cy P C=true)(hm:P.follows .mixedOrders=true)
 (h:vcF P C N fn an args R Qp w):Calls P f ⟨args⟩ w fun e w'=>(∃v,e= .returned v∧R v w')∨∃ch,e= .panicked ch∧QpP Qp ch w':=by
 unfold vcF at h
 split at h
 ·rename_i c hb hn
  have BU:args.length≤fn.ntmps:=Nat.le_of_ble_eq_true hn
  split at h
  ·exact h.elim
  rename_i hq
  refine(callsIn_wide (n:=0)).1 (callsIn_of_wp_marks (F:=WF none) hf hb trivial ?_)
  have Gl:Rep fn.ntmps ⟨num 0 args,fun _=>undef,[]⟩ {tmps:=(⟨args⟩:Array Value)++Array.replicate (fn.ntmps - (⟨args⟩:Array Value).size) undef,defers:= []}:=by
   refine⟨by simp;omega,fun i=>?_,rfl⟩
   rw [rv]
   simp only [Nat.zero_le,Nat.sub_zero,true_and,Array.getD_eq_getD_getElem?]
   by_cases hi:i<args.length
   ·rw [dif_pos hi,Array.getElem?_append_left (by simpa using hi)]
    simp [hi]
   ·rw [dif_neg hi,Array.getElem?_append_right (by simpa using hi)]
    rw [Array.getElem?_replicate]
    split<;>rfl
  refine wpIn_mono (bI hC hm c false Qp none (fun _=>rfl) an _ _ _ w Gl h) fun e a' w' he=>?_
  cases e
  case normal=>
   obtain⟨fr,hr,hk,_⟩:=he
   show LeavesInM _ _ _ _ _ _ _ _ _
   rw [hr.defers]
   exact eO (fun v w hR=>.inl ⟨v,rfl,hR⟩) hr.get _ _ hk
  case ret=>
   obtain⟨fr,hr,hk,_⟩:=he
   show LeavesInM _ _ _ _ _ _ _ _ _
   rw [hr.defers]
   exact eO (fun v w hR=>.inl ⟨v,rfl,hR⟩) hr.get _ _ hk
  case panic ch=>
   obtain⟨hqp,yj⟩:=he
   cases Qp with
   | none=>exact hqp.elim
   | some q=>
    simp only [oK,Bool.true_and]at hq
    have hd:=yj.defers (fun hm=>by rw [List.elem_iff.2 hm]at hq;cases hq)
    show LeavesInM _ _ _ _ _ _ _ _ _
    rw [hd]
    exact .inr ⟨ch,rfl,hqp⟩
  case outgrown=>exact he.elim
  all_goals obtain⟨_,_,h,_⟩:=he;exact h.elim
 ·exact h.elim
theorem aq {f:FuncId} {fn:Func} {args:List Value} {an:Ann} {R:ax} {w:World}(hf:P.funcs[f]? =some fn)(hC:cy P C=true)(hm:P.follows .mixedOrders=true)
 (h:vcF P C N fn an args R none w):Calls P f ⟨args⟩ w fun e w'=>∃v,e= .returned v∧R v w':=
 (mh hf hC hm h).mono fun e w' he=>by
  rcases he with he | ⟨_,_,he⟩
  ·exact he
  ·exact he.elim
end
end
end Go.Proofs.YtkbcgjfejboigaaDoor.V
namespace Go.Proofs.YtkbcgjfejboigaaDoor
open Go Go.RowKit V
open Go.IntKind (i64 u32 u64)
open Go.Proofs (Tryd.prog)
section
set_option maxRecDepth 100000
def aB:List Nat:= [2,3,4,5,6,7,8,9,10,11,12,13,14,15,16,17,18,19,20,21,22,23,24,25,26,27,28,29,30,31,32,33,34,35,36,37,38,39,40,41,42,43,44,45,46,47,48,49,50,51,52,53,54,55,56,57,58,59,60,61,62,63,64,65,66,67,68,69,70,71,72,73,74,75,76,77,78,79,80,81,82,83,84,85,86,87,88,89,90,91,92,93,118]
theorem av:cy Tryd.prog aB=true:=by kernel_rfl
theorem ar:Tryd.prog.follows .mixedOrders=true:=by kernel_rfl
def sw(m:Option Addr)(fa:Bool)(fb:Int)(R:ax)(w:World):Prop:=
 ∀(gv:Nat)(wv:World),gv=w.heap.size→wv=w.alloc (.cells #[(.bool fa),(.int .i64 fb)] 84)→
 ay m fun p7=>
 ∃Cc:Option Addr,∃BY:Nat,∃EJ:Nat,wv.cell? (p7.add 1)=some (.slice Cc BY EJ)∧
 ∃yl:Bool,wv.cell? ((Addr.mk gv 0 none).add 0)=some (.bool yl)∧
 split yl (
  ay m fun B8=>
  ∃y8:Option Addr,∃yE:Nat,∃AQ:Nat,wv.cell? (B8.add 0)=some (.slice y8 yE AQ)∧
  ∃J:Bool→World→Prop,(
   ∃xM:Int,wv.cell? ((Addr.mk gv 0 none).add 1)=some (.int .i64 xM)∧
   split (decide ((xM:Int)<0)) (
    J true wv) (
    ∃xx:Int,wv.cell? ((Addr.mk gv 0 none).add 1)=some (.int .i64 xx)∧
    J (decide ((xx:Int)≥((yE:Nat):Int))) wv))∧∀(Bf:Nat→Value)(yk:Bool),∀wC,J yk wC→
  split yk (
   R (.pointer none) wC) (
   ∃yO:Int,wC.cell? ((Addr.mk gv 0 none).add 1)=some (.int .i64 yO)∧
   (0≤(yO:Int)∧(yO:Int)<((yE:Nat):Int))∧
   ay y8 fun Gh=>
   ∃zr:Option Addr,wC.cell? (Gh.add (Int.toNat yO*1))=some (.pointer zr)∧
   R (.pointer zr) wC)) (
  ∃J:Bool→World→Prop,(
   ∃xM:Int,wv.cell? ((Addr.mk gv 0 none).add 1)=some (.int .i64 xM)∧
   split (decide ((xM:Int)<0)) (
    J true wv) (
    ∃xx:Int,wv.cell? ((Addr.mk gv 0 none).add 1)=some (.int .i64 xx)∧
    J (decide ((xx:Int)≥((BY:Nat):Int))) wv))∧∀(Bf:Nat→Value)(yk:Bool),∀wC,J yk wC→
  split yk (
   R (.pointer none) wC) (
   ∃yO:Int,wC.cell? ((Addr.mk gv 0 none).add 1)=some (.int .i64 yO)∧
   (0≤(yO:Int)∧(yO:Int)<((BY:Nat):Int))∧
   ay Cc fun Gh=>
   ∃zr:Option Addr,wC.cell? (Gh.add (Int.toNat yO*1))=some (.pointer zr)∧
   R (.pointer zr) wC))
def u7:Ann:=(.node none .leaf (.node none .leaf (.node none .leaf (.node none (.node none (.node (some ⟨[(25,.one (.bool))],[16,17,18,19,20,21,22,23,24,25]⟩) .leaf .leaf) .leaf) .leaf))))
theorem MAt_eq(m:Option Addr)(fa:Bool)(fb:Int)(R:ax)(w:World):sw m fa fb R w=vcF Tryd.prog aB [] Tryd.f65 u7 [(.pointer m),(.agg #[(.bool fa),(.int .i64 fb)])] R none w:=by kernel_rfl
theorem qn(m:Option Addr)(fa:Bool)(fb:Int) {R:ax} {w:World}(h:sw m fa fb R w):Calls Tryd.prog 65 #[(.pointer m),(.agg #[(.bool fa),(.int .i64 fb)])] w fun e w'=>∃v,e= .returned v∧R v w':=
 aq Tryd.func65 av ar ((MAt_eq m fa fb R w).mp h)
def fw(m:Option Addr)(R:ax)(w:World):Prop:=
 ay m fun p4=>
 ∃Cd:Option Addr,∃Ac:Nat,∃EK:Nat,w.cell? (p4.add 1)=some (.slice Cd Ac EK)∧
 R (.int .i64 ((Ac:Nat):Int)) w
def k9:Ann:= .leaf
theorem MInsecure_eq(m:Option Addr)(R:ax)(w:World):fw m R w=vcF Tryd.prog aB [] Tryd.f39 k9 [(.pointer m)] R none w:=by kernel_rfl
theorem gL(m:Option Addr) {R:ax} {w:World}(h:fw m R w):Calls Tryd.prog 39 #[(.pointer m)] w fun e w'=>∃v,e= .returned v∧R v w':=
 aq Tryd.func39 av ar ((MInsecure_eq m R w).mp h)
def mV(n:Int)(R:ax)(w:World):Prop:=
 ∃Cd:Option Addr,∃Ac:Nat,∃EK:Nat,∃wv,(Instr.makeSlice 95 (.int .i64 n) (.int .i64 n):Sem Value).run Tryd.prog w= .ok (.slice Cd Ac EK) wv∧
 ∃I:Nat→Int→World→Prop,(∃m,I m 0 wv)∧∀(m:Nat)(Bg:Nat→Value)(x9:Int),∀wC,I m x9 wC→
 split (decide ((x9:Int)<((Ac:Nat):Int))) (
  ∀(wD:Nat)(wF:World),wD=wC.heap.size→wF=wC.alloc (.cells (Array.replicate 1024 (.int .u32 0)) 125)→
  (0≤(x9:Int)∧(x9:Int)<((Ac:Nat):Int))∧
  ay Cd fun Bw=>
  aD wF (Bw.add (Int.toNat x9*1)) [(.pointer (some (Addr.mk wD 0 none)))] fun wH=>
  ∃m1,m1<m∧I m1 (i64.wrap (x9+1)) wH) (
  R (.slice Cd Ac EK) wC)
def sv:Ann:=(.node none .leaf (.node none .leaf (.node none (.node none .leaf (.node none (.node (some ⟨[(9,.one (.int .i64))],[4,9,10,11,12,13,14,15,16,17]⟩) .leaf .leaf) .leaf)) .leaf)))
theorem MMade_eq(n:Int)(R:ax)(w:World):mV n R w=vcF Tryd.prog aB [] Tryd.f46 sv [(.int .i64 n)] R none w:=by kernel_rfl
theorem mW(n:Int) {R:ax} {w:World}(h:mV n R w):Calls Tryd.prog 46 #[(.int .i64 n)] w fun e w'=>∃v,e= .returned v∧R v w':=
 aq Tryd.func46 av ar ((MMade_eq n R w).mp h)
def o8(secure:Int)(insecure:Int)(R:ax)(w:World):Prop:=
 ∃J:Bool→World→Prop,(
  split (decide ((secure:Int)<1)) (
   J true w) (
   split (decide ((secure:Int)>64)) (
    J true w) (
    split (decide ((insecure:Int)<1)) (
     J true w) (
     J (decide ((insecure:Int)>64)) w))))∧∀(Bg:Nat→Value)(yT:Bool),∀wv,J yT wv→
 split yT (
  R (.tuple #[(.pointer none),(.int .i64 1)]) wv) (
  Calls Tryd.prog 46 #[(.int .i64 secure)] wv fun e wC=>
  ∃yh:Option Addr,∃xv:Nat,∃yg:Nat,e= .returned (.slice yh xv yg)∧
  Calls Tryd.prog 46 #[(.int .i64 insecure)] wC fun e wF=>
  ∃Az:Option Addr,∃Ax:Nat,∃Ay:Nat,e= .returned (.slice Az Ax Ay)∧
  ∀(wD:Nat)(wH:World),wD=wF.heap.size→wH=wF.alloc (.cells #[(.slice yh xv yg),(.slice Az Ax Ay),(.int .i64 0)] 98)→
  R (.tuple #[(.pointer (some (Addr.mk wD 0 none))),(.int .i64 0)]) wH)
def tM:Ann:=(.node none .leaf (.node none (.node none (.node (some ⟨[(19,.one (.bool))],[6,7,8,9,10,11,12,13,14,15,16,17,18,19]⟩) .leaf .leaf) .leaf) .leaf))
theorem MNew_eq(secure:Int)(insecure:Int)(R:ax)(w:World):o8 secure insecure R w=vcF Tryd.prog aB [] Tryd.f29 tM [(.int .i64 secure),(.int .i64 insecure)] R none w:=by kernel_rfl
theorem n6(secure:Int)(insecure:Int) {R:ax} {w:World}(h:o8 secure insecure R w):Calls Tryd.prog 29 #[(.int .i64 secure),(.int .i64 insecure)] w fun e w'=>∃v,e= .returned v∧R v w':=
 aq Tryd.func29 av ar ((MNew_eq secure insecure R w).mp h)
def mT(m:Option Addr)(fa:Bool)(fb:Int)(off:Int)(R:ax)(w:World):Prop:=
 ∀(gv:Nat)(wv:World),gv=w.heap.size→wv=w.alloc (.cells #[(.bool fa),(.int .i64 fb)] 84)→
 ∃Cj:Bool,∃Ci:Int,(wv.cell? ((Addr.mk gv 0 none).add 0)=some (.bool Cj)∧wv.cell? ((Addr.mk gv 0 none).add 1)=some (.int .i64 Ci))∧
 Calls Tryd.prog 65 #[(.pointer m),(.agg #[(.bool Cj),(.int .i64 Ci)])] wv fun e wC=>
 ∃yB:Option Addr,e= .returned (.pointer yB)∧
 ∃J:Bool→World→Prop,(
  split yB.isNone (
   J true wC) (
   split (decide ((off:Int)<0)) (
    J true wC) (
    J (decide ((off:Int)≥1024)) wC)))∧∀(Bf:Nat→Value)(yn:Bool),∀wF,J yn wF→
 split yn (
  R (.int .u32 0) wF) (
  ay yB fun MP=>
  (0≤(off:Int)∧(off:Int)<((1024:Nat):Int))∧
  ∃yk:Int,wF.cell? (MP.add (Int.toNat off*1))=some (.int .u32 yk)∧
  R (.int .u32 yk) wF)
def su:Ann:=(.node none .leaf (.node none .leaf (.node none (.node none (.node (some ⟨[(20,.one (.bool))],[11,12,13,14,15,16,17,18,19,20]⟩) .leaf .leaf) .leaf) .leaf)))
theorem MPeek_eq(m:Option Addr)(fa:Bool)(fb:Int)(off:Int)(R:ax)(w:World):mT m fa fb off R w=vcF Tryd.prog aB [] Tryd.f52 su [(.pointer m),(.agg #[(.bool fa),(.int .i64 fb)]),(.int .i64 off)] R none w:=by kernel_rfl
theorem mU(m:Option Addr)(fa:Bool)(fb:Int)(off:Int) {R:ax} {w:World}(h:mT m fa fb off R w):Calls Tryd.prog 52 #[(.pointer m),(.agg #[(.bool fa),(.int .i64 fb)]),(.int .i64 off)] w fun e w'=>∃v,e= .returned v∧R v w':=
 aq Tryd.func52 av ar ((MPeek_eq m fa fb off R w).mp h)
def jb(m:Option Addr)(R:ax)(w:World):Prop:=
 ay m fun p4=>
 ∃Cd:Option Addr,∃Ac:Nat,∃EK:Nat,w.cell? (p4.add 0)=some (.slice Cd Ac EK)∧
 R (.int .i64 ((Ac:Nat):Int)) w
def n5:Ann:= .leaf
theorem MSecure_eq(m:Option Addr)(R:ax)(w:World):jb m R w=vcF Tryd.prog aB [] Tryd.f48 n5 [(.pointer m)] R none w:=by kernel_rfl
theorem jy(m:Option Addr) {R:ax} {w:World}(h:jb m R w):Calls Tryd.prog 48 #[(.pointer m)] w fun e w'=>∃v,e= .returned v∧R v w':=
 aq Tryd.func48 av ar ((MSecure_eq m R w).mp h)
def ko(m:Option Addr)(fa:Bool)(fb:Int)(times:Int)(R:ax)(w:World):Prop:=
 ∀(gv:Nat)(wv:World),gv=w.heap.size→wv=w.alloc (.cells #[(.bool fa),(.int .i64 fb)] 84)→
 ∃zb:Bool,∃yG:Int,(wv.cell? ((Addr.mk gv 0 none).add 0)=some (.bool zb)∧wv.cell? ((Addr.mk gv 0 none).add 1)=some (.int .i64 yG))∧
 Calls Tryd.prog 65 #[(.pointer m),(.agg #[(.bool zb),(.int .i64 yG)])] wv fun e wC=>
 ∃yl:Option Addr,e= .returned (.pointer yl)∧
 split yl.isNone (
  R (.tuple #[(.pointer none),(.int .i64 5)]) wC) (
  ay m fun MQ=>
  ∃xM:Int,wC.cell? (MQ.add 2)=some (.int .i64 xM)∧
  ay m fun E4=>
  aD wC (E4.add 2) [(.int .i64 (i64.wrap (xM+(i64.wrap (times*1024)))))] fun wF=>
  R (.tuple #[(.pointer yl),(.int .i64 0)]) wF)
def qm:Ann:= .leaf
theorem MWhole_eq(m:Option Addr)(fa:Bool)(fb:Int)(times:Int)(R:ax)(w:World):ko m fa fb times R w=vcF Tryd.prog aB [] Tryd.f64 qm [(.pointer m),(.agg #[(.bool fa),(.int .i64 fb)]),(.int .i64 times)] R none w:=by kernel_rfl
theorem k8(m:Option Addr)(fa:Bool)(fb:Int)(times:Int) {R:ax} {w:World}(h:ko m fa fb times R w):Calls Tryd.prog 64 #[(.pointer m),(.agg #[(.bool fa),(.int .i64 fb)]),(.int .i64 times)] w fun e w'=>∃v,e= .returned v∧R v w':=
 aq Tryd.func64 av ar ((MWhole_eq m fa fb times R w).mp h)
def mR(m:Option Addr)(fa:Bool)(fb:Int)(off:Int)(R:ax)(w:World):Prop:=
 ∀(gv:Nat)(wv:World),gv=w.heap.size→wv=w.alloc (.cells #[(.bool fa),(.int .i64 fb)] 84)→
 ∃zb:Bool,∃yG:Int,(wv.cell? ((Addr.mk gv 0 none).add 0)=some (.bool zb)∧wv.cell? ((Addr.mk gv 0 none).add 1)=some (.int .i64 yG))∧
 Calls Tryd.prog 65 #[(.pointer m),(.agg #[(.bool zb),(.int .i64 yG)])] wv fun e wC=>
 ∃yl:Option Addr,e= .returned (.pointer yl)∧
 split yl.isNone (
  R (.tuple #[(.pointer none),(.int .i64 5)]) wC) (
  ∃J:Bool→World→Prop,(
   split (decide ((off:Int)<0)) (
    J true wC) (
    J (decide ((off:Int)≥1024)) wC))∧∀(Bf:Nat→Value)(yT:Bool),∀wF,J yT wF→
  split yT (
   R (.tuple #[(.pointer none),(.int .i64 70)]) wF) (
   ay m fun E4=>
   ∃yY:Int,wF.cell? (E4.add 2)=some (.int .i64 yY)∧
   ay m fun Gi=>
   aD wF (Gi.add 2) [(.int .i64 (i64.wrap (yY+1)))] fun wH=>
   ay yl fun Gh=>
   (0≤(off:Int)∧(off:Int)<((1024:Nat):Int))∧
   R (.tuple #[(.pointer (some (Gh.add (Int.toNat off*1)))),(.int .i64 0)]) wH))
def sr:Ann:=(.node none .leaf (.node none .leaf (.node none .leaf (.node none (.node none (.node (some ⟨[(19,.one (.bool))],[14,15,16,17,18,19]⟩) .leaf .leaf) .leaf) .leaf))))
theorem MWord_eq(m:Option Addr)(fa:Bool)(fb:Int)(off:Int)(R:ax)(w:World):mR m fa fb off R w=vcF Tryd.prog aB [] Tryd.f51 sr [(.pointer m),(.agg #[(.bool fa),(.int .i64 fb)]),(.int .i64 off)] R none w:=by kernel_rfl
theorem mS(m:Option Addr)(fa:Bool)(fb:Int)(off:Int) {R:ax} {w:World}(h:mR m fa fb off R w):Calls Tryd.prog 51 #[(.pointer m),(.agg #[(.bool fa),(.int .i64 fb)]),(.int .i64 off)] w fun e w'=>∃v,e= .returned v∧R v w':=
 aq Tryd.func51 av ar ((MWord_eq m fa fb off R w).mp h)
def km(m:Option Addr)(fa:Bool)(fb:Int)(off:Int)(v:Int)(R:ax)(w:World):Prop:=
 ∀(gv:Nat)(wv:World),gv=w.heap.size→wv=w.alloc (.cells #[(.bool fa),(.int .i64 fb)] 84)→
 ∃za:Bool,∃yF:Int,(wv.cell? ((Addr.mk gv 0 none).add 0)=some (.bool za)∧wv.cell? ((Addr.mk gv 0 none).add 1)=some (.int .i64 yF))∧
 Calls Tryd.prog 51 #[(.pointer m),(.agg #[(.bool za),(.int .i64 yF)]),(.int .i64 off)] wv fun e wC=>
 ∃AP:Option Addr,∃zl:Int,e= .returned (.tuple #[(.pointer AP),(.int .i64 zl)])∧
 split ((zl:Int)==0) (
  ay AP fun NA=>
  aD wC NA [(.int .u32 v)] fun wF=>
  R (.int .i64 zl) wF) (
  R (.int .i64 zl) wC)
def ql:Ann:= .leaf
theorem MWrite_eq(m:Option Addr)(fa:Bool)(fb:Int)(off:Int)(v:Int)(R:ax)(w:World):km m fa fb off v R w=vcF Tryd.prog aB [] Tryd.f35 ql [(.pointer m),(.agg #[(.bool fa),(.int .i64 fb)]),(.int .i64 off),(.int .u32 v)] R none w:=by kernel_rfl
theorem k7(m:Option Addr)(fa:Bool)(fb:Int)(off:Int)(v:Int) {R:ax} {w:World}(h:km m fa fb off v R w):Calls Tryd.prog 35 #[(.pointer m),(.agg #[(.bool fa),(.int .i64 fb)]),(.int .i64 off),(.int .u32 v)] w fun e w'=>∃v,e= .returned v∧R v w':=
 aq Tryd.func35 av ar ((MWrite_eq m fa fb off v R w).mp h)
def mP(m:Option Addr)(fa:Bool)(fb:Int)(R:ax)(w:World):Prop:=
 ∀(gv:Nat)(wv:World),gv=w.heap.size→wv=w.alloc (.cells #[(.bool fa),(.int .i64 fb)] 84)→
 ∃Cj:Bool,∃Ci:Int,(wv.cell? ((Addr.mk gv 0 none).add 0)=some (.bool Cj)∧wv.cell? ((Addr.mk gv 0 none).add 1)=some (.int .i64 Ci))∧
 Calls Tryd.prog 64 #[(.pointer m),(.agg #[(.bool Cj),(.int .i64 Ci)]),(.int .i64 1)] wv fun e wC=>
 ∃zb:Option Addr,∃yG:Int,e= .returned (.tuple #[(.pointer zb),(.int .i64 yG)])∧
 split ((yG:Int)==0) (
  ay zb fun Bw=>
  ∀zJ:Option Addr,zJ=(some (if 1024=0 then Bw else Bw.add (0*1)))→∀zj:Nat,zj=1024 - 0→∀AO:Nat,AO=1024 - 0→
  ∃wF,(Builtin.clear_ #[47] 0 #[(.slice zJ zj AO)]:Sem Value).run Tryd.prog wC= .ok (.tuple #[]) wF∧
  R (.int .i64 yG) wF) (
  R (.int .i64 yG) wC)
def sq:Ann:= .leaf
theorem MZero_eq(m:Option Addr)(fa:Bool)(fb:Int)(R:ax)(w:World):mP m fa fb R w=vcF Tryd.prog aB [] Tryd.f49 sq [(.pointer m),(.agg #[(.bool fa),(.int .i64 fb)])] R none w:=by kernel_rfl
theorem mQ(m:Option Addr)(fa:Bool)(fb:Int) {R:ax} {w:World}(h:mP m fa fb R w):Calls Tryd.prog 49 #[(.pointer m),(.agg #[(.bool fa),(.int .i64 fb)])] w fun e w'=>∃v,e= .returned v∧R v w':=
 aq Tryd.func49 av ar ((MZero_eq m fa fb R w).mp h)
end
end Go.Proofs.YtkbcgjfejboigaaDoor
