/- EnterRefuses returns true for every input: which calls of a thread are taken, and why the others are not, by the entries alone; each argument reads behind the call as it read before; what the listed variables read as is tied to the program's text. -/
import Derived.KernelRfl
import Derived.WalkKit
import Derived.Test.YtjiflmkpbkeocaaGreatDoorProg
import Derived.Great.BuildSlice
import Derived.OrdersHeld
import Derived.Deep.Draws
import Derived.Scope
import Derived.RangeFuncSeq
import Derived.Laws.StructEq
import Derived.ChangeKeysEq
import Derived.DeepKeys
import Derived.RangeFuncLeaves
import Derived.RangeFuncRecord
import Derived.TacticsIn
import Derived.Laws.IdiomCopy
import Derived.Laws.MakeOwn
import Derived.Laws.OwnMore
import Derived.Lib.SliceRun
import Derived.Maps.AppendAt
import Derived.Deep.Upon
import Derived.ArgAppend
import Derived.MapKept
import Derived.Maps.Own
set_option linter.unusedVariables false
set_option linter.unusedSimpArgs false
set_option maxRecDepth 100000
set_option maxHeartbeats 1000000
namespace Go.Proofs.YtjiflmkpbkeocaaGreatDoor
open Go.Proofs.Tryz (prog)
open Go
abbrev O(x:Int):Value:=.int .u32 x
abbrev J(x:Int):Value:=.int .i64 x
abbrev vY(x:Int):Value:=.int .u8 x
abbrev vA(b:Nat):Addr:=Addr.mk b 0 none
abbrev vB(x:Bool):Value:=.bool x
abbrev pvA(b:Nat):Option Addr:=some (vA b)
abbrev oA:=Option Addr
abbrev q8l(a b c d e f g h:Int):List Value:= [O a,O b,O c,O d,O e,O f,O g,O h]
abbrev q8a(a b c d e f g h:Int):Array Value:= #[O a,O b,O c,O d,O e,O f,O g,O h]
abbrev Rj(a b c d e f g h i j k l m n o p:Int):List Value:= [O a,O b,O c,O d,O e,O f,O g,O h,O i,O j,O k,O l,O m,O n,O o,O p]
abbrev uC(a b c d e f g h i j k l m n o p:Int):Array Value:= #[O a,O b,O c,O d,O e,O f,O g,O h,O i,O j,O k,O l,O m,O n,O o,O p]
abbrev z8a:Array Value:= #[O 0,O 0,O 0,O 0,O 0,O 0,O 0,O 0]
abbrev Ri:Array Value:= #[O 0,O 0,O 0,O 0,O 0,O 0,O 0,O 0,O 0,O 0,O 0,O 0,O 0,O 0,O 0,O 0]
def rgN(a:Nat):Nat->List Nat
 |0=>[]
 |n+1=>a::rgN (a+1) n
abbrev bP:=Nat->Nat->Prop
namespace V
open Go.RowKit
open Go.IntKind (i64 u32 u64 wrap_i64 wrap_u32)
section
structure Kept(B:Nat->Prop)(w w':World):Prop where
 os:w'.os=w.os
 tape:w'.tape=w.tape
 output:w'.output=w.output
 size:w.heap.size<=w'.heap.size
 block:∀k,B k->w'.heap[k]? =w.heap[k]?
theorem Kept.refl(B:Nat->Prop)(w:World):Kept B w w:=⟨rfl,rfl,rfl,Nat.le_refl _,λ_ _=>rfl⟩
theorem Kept.trans {B:Nat->Prop}{a b c:World}(h:Kept B a b)(k:Kept B b c):Kept B a c:=
 ⟨k.os.trans h.os,k.tape.trans h.tape,k.output.trans h.output,Nat.le_trans h.size k.size,λi hi=>(k.block i hi).trans (h.block i hi)⟩
theorem Kept.mono {B b:Nat->Prop}{w w':World}(h:Kept B w w')(hb:∀k,b k->B k):Kept b w w':=
 ⟨h.os,h.tape,h.output,h.size,λk d=>h.block k (hb k d)⟩
theorem Kept.cell {B:Nat->Prop}{w w':World}{p:Addr}(h:Kept B w w')(hp:B p.block):w'.cell? p=w.cell? p:=by
 unfold World.cell?;rw[h.block _ hp]
theorem Kept.below {n:Nat}{w w':World}(h:Kept (· <n) w w'):Below n w w':=⟨h.os,h.tape,h.output,h.size,h.block⟩
theorem Kept.IJ {n:Nat}{w w':World}(h:Below n w w'):Kept (· <n) w w':=⟨h.os,h.tape,h.output,h.size,h.block⟩
def held(B:Option (Nat->Prop))(w:World):Nat->Prop:=
 match B with
 |none=>λk=>k<w.heap.size
 |some b=>b
inductive Sh where
 |int (k:IntKind)|bool|str|ptr|slice|map|val
def Sh.ex:Sh->(Value->Prop)->Prop
 |.int k,F=>∃x:Int,F (.int k x)
 |.bool,F=>∃b:Bool,F (.bool b)
 |.str,F=>∃s:ByteArray,F (.string s)
 |.ptr,F=>∃a:Option Addr,F (.pointer a)
 |.slice,F=>∃(a:Option Addr)(n c:Nat),F (.slice a n c)
 |.map,F=>∃r:Option Nat,F (.map r)
 |.val,F=>∃v:Value,F v
theorem Sh.lM {s:Sh}{F:Value->Prop}(h:s.ex F):∃v,F v:=by
 cases s<;>simp only[Sh.ex]at h
 case int=>obtain⟨x,h⟩:=h;exact⟨_,h⟩
 case bool=>obtain⟨x,h⟩:=h;exact⟨_,h⟩
 case str=>obtain⟨x,h⟩:=h;exact⟨_,h⟩
 case ptr=>obtain⟨x,h⟩:=h;exact⟨_,h⟩
 case slice=>obtain⟨x,y,z,h⟩:=h;exact⟨_,h⟩
 case map=>obtain⟨x,h⟩:=h;exact⟨_,h⟩
 case val=>exact h
def exs:List Sh->(List Value->Prop)->Prop
 | [],F=>F []
 |s::r,F=>s.ex λv=>exs r λvs=>F (v::vs)
theorem Fu:∀ {l:List Sh}{F:List Value->Prop},exs l F->∃vs,F vs
 | [],_,h=>⟨[],h⟩
 | _::_,_,h=>by
  obtain⟨v,h⟩:=Sh.lM h;obtain⟨vs,h⟩:=Fu h;exact⟨_,h⟩
inductive Sh2 where
 |one (s:Sh)|agg (l:List Sh)|row (n:Nat)
def Sh2.ex:Sh2->(Value->Prop)->Prop
 |.one s,F=>s.ex F
 |.agg l,F=>exs l λvs=>F (.agg ⟨vs⟩)
 |.row _,F=>∃cs:Array Value,F (.agg cs)
theorem Sh2.lM {s:Sh2}{F:Value->Prop}(h:s.ex F):∃v,F v:=by
 cases s with
 |one s=>exact Sh.lM h
 |agg l=>obtain⟨vs,h⟩:=Fu h;exact⟨_,h⟩
 |row n=>obtain⟨cs,h⟩:=h;exact⟨_,h⟩
def Dm:List Sh2->(List Value->Prop)->Prop
 | [],F=>F []
 |s::r,F=>s.ex λv=>Dm r λvs=>F (v::vs)
theorem Bb:∀ {l:List Sh2}{F:List Value->Prop},Dm l F->∃vs,F vs
 | [],_,h=>⟨[],h⟩
 | _::_,_,h=>by
  obtain⟨v,h⟩:=Sh2.lM h;obtain⟨vs,h⟩:=Bb h;exact⟨_,h⟩
def PD:Value->Sh
 |.int k _=>.int k
 |.bool _=>.bool
 |.string _=>.str
 |.pointer _=>.ptr
 |.slice .. =>.slice
 |.map _=>.map
 |_=>.val
def H8:Value->Sh2
 | .agg cs=>match Nat.ble cs.size 24 with
  |true=>.agg (cs.toList.map PD)
  |false=>.row cs.size
 |v=>.one (PD v)
def sG:Nat:=1000000007
def exT(P:Program)(t:TypeId)(F:Value->Prop):Prop:=
 match (P.info? t).bind (·.zero)with
 |some (.tuple vs)=>Dm (vs.toList.map H8) λus=>F (.tuple ⟨us⟩)
 |some z=>(H8 z).ex F
 |none=>∃v,F v
theorem tC {P:Program}{t:TypeId}{F:Value->Prop}(h:exT P t F):∃v,F v:=by
 unfold exT at h;split at h
 ·obtain⟨vs,h⟩:=Bb h;exact⟨_,h⟩
 ·exact Sh2.lM h
 ·exact h
structure Fr where
 e:List (Nat×Value)
 g:Nat->Value
 ds:List Deferred
def lk(g:Nat->Value)(i:Nat):List (Nat×Value)->Value
 | []=>g i
 | (d,v)::r=>match Nat.beq i d with
  |true=>v
  |false=>lk g i r
def ev(fr:Fr):Operand->Value
 |.tmp t=>lk fr.g t fr.e
 |.const v=>v
 |.global g=>.pointer (some ⟨g,0,none⟩)
 |.func f=>.func (.func f) #[] #[]
structure Rep(n:Nat)(fr:Fr)(a:Act):Prop where
 size:a.tmps.size=n
 get:∀i,a.tmps.getD i undef=lk fr.g i fr.e
 defers:a.defers=fr.ds
theorem Rep.eval {n:Nat}{fr:Fr}{a:Act}(h:Rep n fr a):a.eval=ev fr:=by
 funext x;cases x<;>simp[Act.eval,ev,h.get]
def M3(v:Value)(F:Value->Prop):Prop:=
 match v with
 |.int k x=>∀z:Int,z=x->F (.int k z)
 |.bool x=>∀z:Bool,z=x->F (.bool z)
 |v=>F v
theorem Gt {v:Value}{F:Value->Prop}(h:M3 v F):F v:=by
 cases v<;>first|exact h|exact h _ rfl
def kq(n:Nat)(N:List Nat)(fr:Fr)(dst:Option Tmp)(v:Value)(F:Fr->Prop):Prop:=
 match dst with
 |none=>F fr
 | some d=>match Nat.blt d n with
  | true=>(match N.elem d with
   |true=>M3 v λv=>F ⟨(d,v)::fr.e,fr.g,fr.ds⟩
   |false=>F ⟨(d,v)::fr.e,fr.g,fr.ds⟩)
  |false=>False
structure Agr(ws:List Nat)(a b:Act):Prop where
 tmps:∀i,i ∉ ws->b.tmps.getD i undef=a.tmps.getD i undef
 defers:sG ∉ ws->b.defers=a.defers
theorem Agr.refl(ws:List Nat)(a:Act):Agr ws a a:=⟨λ_ _=>rfl,λ_=>rfl⟩
theorem Agr.trans {ws:List Nat}{a b c:Act}(h:Agr ws a b)(k:Agr ws b c):Agr ws a c:=⟨λi hi=>(k.tmps i hi).trans (h.tmps i hi),λhi=>(k.defers hi).trans (h.defers hi)⟩
theorem Agr.mono {ws f:List Nat}{a b:Act}(h:Agr ws a b)(hs:∀i,i∈ws->i∈f):Agr f a b:=⟨λi hi=>h.tmps i (λd=>hi (hs i d)),λhi=>h.defers (λd=>hi (hs _ d))⟩
theorem mS(a:Act)(d:Nat)(v:Value)(i:Nat)(h:i≠d):(a.put (some d) v).tmps.getD i undef=a.tmps.getD i undef:=by
 simp only[Act.put,Array.getD_eq_getD_getElem?,Array.getElem?_setIfInBounds];rw[if_neg (by omega)]
theorem getD_put_eq(a:Act)(d:Nat)(v:Value)(h:d<a.tmps.size):(a.put (some d) v).tmps.getD d undef=v:=by
 simp only[Act.put,Array.getD_eq_getD_getElem?,Array.getElem?_setIfInBounds];simp[h]
theorem iU {n:Nat}{N:List Nat}{fr:Fr}{a:Act}{dst:Option Tmp}{v:Value}{F:Fr->Prop}(b:Rep n fr a)(h:kq n N fr dst v F):
 ∃f,Rep n f (a.put dst v)/\F f:=by
 unfold kq at h;cases dst with
 |none=>exact⟨fr,b,h⟩
 | some d=>
  simp only at h;split at h
  ·rename_i hb;have hd:d<n:=by simpa[Nat.blt_eq]using hb
   have h:F ⟨(d,v)::fr.e,fr.g,fr.ds⟩:=by
    split at h
    ·exact Gt h
    ·exact h
   refine⟨_,⟨by simp[Act.put,b.size],λi=>?_,by simp[Act.put,b.defers]⟩,h⟩;simp only[lk];split
   ·rename_i hi;obtain rfl:i=d:=Nat.eq_of_beq_eq_true hi;exact getD_put_eq a i v (by rw[b.size];exact hd)
   ·rename_i hi;have j:i≠d:=by rintro rfl;simp at hi
    rw[mS a d v i j,b.get]
  ·exact h.elim
theorem Agr.put {ws:List Nat}(a:Act)(dst:Option Tmp)(v:Value)(h:∀d,dst=some d->d∈ws):Agr ws a (a.put dst v):=by
 refine⟨λi hi=>?_,λ_=>by cases dst<;>rfl⟩;cases dst with
 |none=>rfl
 |some d=>exact mS a d v i (λe=>hi (e▸h d rfl))
def split(b:Bool)(x y:Prop):Prop:=
 match b with
 |true=>x
 |false=>y
theorem ao {b:Bool}{x y:Prop}(d:b=true->x)(f:b=false->y):split b x y:=by
 cases b
 ·exact f rfl
 ·exact d rfl
theorem gK {b:Bool}{x y:Prop}(h:split b x y):(b=true/\x)\/(b=false/\y):=by
 cases b
 ·exact .inr ⟨rfl,h⟩
 ·exact .inl ⟨rfl,h⟩
def aF {α:Type}(a:Option α)(F:α->Prop):Prop:=
 match a with
 |some p=>F p
 |none=>False
theorem au {α:Type}{a:Option α}{F:α->Prop}(p:α)(h:a=some p)(hp:F p):aF a F:=by
 subst h;exact hp
theorem dq {α:Type}{a:Option α}{F:α->Prop}(h:aF a F):∃p,a=some p/\F p:=by
 cases a with
 |none=>exact h.elim
 |some p=>exact⟨p,rfl,h⟩
def kEq:IntKind->IntKind->Bool
 |.i8,.i8|.i16,.i16|.i32,.i32|.i64,.i64|.u8,.u8|.u16,.u16|.u32,.u32|.u64,.u64=>true
 |_,_=>false
theorem qh {a b:IntKind}(h:kEq a b=true):a=b:=by
 cases a<;>cases b<;>simp_all[kEq]
def ji(P:Program)(t:TypeId):Bool:=
 match P.underlying t with
 |some (.struct _)=>true
 |some (.array _ _)=>true
 |_=>false
def kG:Value->Value->Bool
 |.int _ a,.int _ b=>a==b
 |.bool a,.bool b=>a==b
 |.string a,.string b=>a.toList==b.toList
 |_,_=>false
def eqL:List Value->List Value->Bool
 |a::d,b::f=>kG a b && eqL d f
 |_,_=>true
def bG(xs b:Array Value):Bool:=eqL xs.toList b.toList
def uZ(P:Program)(g:TypeId->Option (List Sh)):Nat->List Field->Option (List Sh)
 |_,[]=>some []
 |off,f::r=>match Nat.beq f.offset off,f.name== "_",g f.type,P.info? f.type with
  | true,false,some l,some i=>(match Nat.beq i.size l.length,uZ P g (off+l.length) r with
   |true,some l'=>some (l++l')
   |_,_=>none)
  |_,_,_,_=>none
def uA(l:List Sh):Nat->List Sh
 |0=>[]
 |n+1=>l++uA l n
def jt(P:Program):Nat->TypeId->Option (List Sh)
 |0,_=>none
 | m+1,t=>match P.underlying t with
  |some (.int k)=>some [.int k]
  |some .bool=>some [.bool]
  |some .string=>some [.str]
  | some (.struct fs)=>match P.stoodInHeld t with
   |true=>none
   |false=>uZ P (jt P m) 0 fs.toList
  | some (.array n e)=>match jt P m e,P.info? e with
   | some l,some i=>(match Nat.beq i.size l.length with
    |true=>some (uA l n)
    |false=>none)
   |_,_=>none
  |_=>none
def de:List Sh->List Value->Bool
 | [],[]=>true
 | .int k::l,.int b _::vs=>match kEq k b with
  |true=>de l vs
  |false=>false
 |.bool::l,.bool _::vs=>de l vs
 |.str::l,.string _::vs=>de l vs
 |_,_=>false
def LZ(l:List Sh)(xs:Array Value)(F:Prop):Prop:=
 match Nat.ble l.length 24 with
 | true=>(match de l xs.toList with
  |true=>F
  |false=>False)
 |false=>de l xs.toList=true/\F
theorem AY {l:List Sh}{xs:Array Value}{F:Prop}(h:LZ l xs F):de l xs.toList=true/\F:=by
 unfold LZ at h;split at h
 ·split at h
  ·rename_i b;exact⟨b,h⟩
  ·exact h.elim
 ·exact h
abbrev aV:=Value->World->Prop
def aO(w:World)(p:Addr):Nat->List Value->Prop
 |_,[]=>True
 |i,[v]=>w.cell? (p.add i)=some v
 |i,v::r=>w.cell? (p.add i)=some v/\aO w p (i+1) r
theorem zc {w:World}{p:Addr}{i:Nat}{v:Value}{r:List Value}(h:aO w p i (v::r)):w.cell? (p.add i)=some v/\aO w p (i+1) r:=by
 cases r with
 |nil=>exact⟨h,trivial⟩
 |cons u r=>exact h
def jy(w:World)(p:Addr):Sh2->Value->Prop
 |.one _,v=>w.cell? p=some v
 | .agg l,.agg cs=>match Nat.beq cs.toList.length l.length with
  |true=>aO w p 0 cs.toList
  |false=>False
 |.row n,.agg cs=>cs.size=n/\∀i u,cs[i]? =some u->w.cell? (p.add i)=some u
 |_,_=>False
def ej(P:Program)(t:TypeId):Sh2:=
 match (P.info? t).bind (·.zero)with
 |some z=>H8 z
 |none=>.one .val
def vp(P:Program)(t:TypeId)(b:Bool):Bool:=
 match P.underlying t with
 |some (.struct _)=>b
 |some (.array _ _)=>b
 |some _=>!b
 |none=>false
theorem ya {P:Program}{t:TypeId}{b:Bool}(h:vp P t b=true)(w:World):(isAgg t).run P w=.ok b w:=by
 unfold vp at h;cases hu:P.underlying t with
 |none=>simp[hu]at h
 |some d=>cases d<;>simp_all[isAgg,run_underlying hu]
def uh:Sh2->Bool
 |.one _=>false
 |_=>true
def jh:Sh2->Nat
 |.one _=>1
 |.agg l=>l.length
 |.row n=>n
def one? :Value->Prop->Prop
 |.agg _,_=>False
 |.tuple _,_=>False
 |_,p=>p
def pN(p:Addr):Nat->List Value->World->(World->Prop)->Prop
 |_,[],w,K=>K w
 |i,v::r,w,K=>one? v ((∃u,w.cell? (p.add i)=some u)/\w.frozen? (p.add i)=false/\pN p (i+1) r (w.setCell (p.add i) v) K)
def nz(y:Int)(p:Prop):Prop:=
 match y with
 |.ofNat 0=>False
 |.ofNat (_+1)=>p
 |.negSucc _=>p
theorem PW {y:Int}{p:Prop}(b:y≠0)(hp:p):nz y p:=by
 cases y with
 | ofNat n=>cases n with
  |zero=>exact absurd rfl b
  |succ n=>exact hp
 |negSucc n=>exact hp
theorem IK {y:Int}{p:Prop}(h:nz y p):y≠0/\p:=by
 cases y with
 | ofNat n=>cases n with
  |zero=>exact h.elim
  |succ n=>exact⟨by simp;omega,h⟩
 |negSucc n=>exact⟨by simp,h⟩
def eh(y:Int)(F:Nat->Prop):Prop:=
 match y with
 |.ofNat n=>F n
 |.negSucc _=>False
theorem dI {y:Int}{F:Nat->Prop}(d:0<=y)(b:F y.toNat):eh y F:=by
 cases y with
 |ofNat n=>exact b
 |negSucc n=>omega
theorem si {y:Int}{F:Nat->Prop}(h:eh y F):¬y<0/\F y.toNat:=by
 cases y with
 |ofNat n=>exact⟨by simp,h⟩
 |negSucc n=>exact h.elim
def Jh(op:BinOp)(k:IntKind)(x y:Int)(F:Value->Prop):Prop:=
 match op with
 |.add=>F (.int k (k.wrap (x+y)))
 |.sub=>F (.int k (k.wrap (x - y)))
 |.mul=>F (.int k (k.wrap (x*y)))
 |.quo=>nz y (F (.int k (k.wrap (x.tdiv y))))
 |.rem=>nz y (F (.int k (x.tmod y)))
 |.and=>F (.int k (k.wrap (BitVec.ofInt k.bits x &&& BitVec.ofInt k.bits y).toNat))
 |.or=>F (.int k (k.wrap (BitVec.ofInt k.bits x ||| BitVec.ofInt k.bits y).toNat))
 |.xor=>F (.int k (k.wrap (BitVec.ofInt k.bits x ^^^ BitVec.ofInt k.bits y).toNat))
 |.andNot=>F (.int k (k.wrap (BitVec.ofInt k.bits x &&& ~~~(BitVec.ofInt k.bits y)).toNat))
 |.eql=>F (.bool (x==y))
 |.neq=>F (.bool (x !=y))
 |.lss=>F (.bool (decide (x<y)))
 |.leq=>F (.bool (decide (x<=y)))
 |.gtr=>F (.bool (decide (x>y)))
 |.geq=>F (.bool (decide (x>=y)))
 |_=>False
def yz(op:BinOp)(k:IntKind)(x y:Int)(F:Value->Prop):Prop:=
 match op with
 |.shl=>eh y λn=>F (.int k (k.wrap (x*2 ^ (min n k.bits))))
 |.shr=>eh y λn=>F (.int k (x.fdiv (2 ^ (min n k.bits))))
 |_=>False
def yX:BinOp->Bool
 |.shl|.shr=>true
 |_=>false
def H2(op:BinOp)(x y:ByteArray)(F:Value->Prop):Prop:=
 match op with
 |.add=>x.size+y.size<=9223372036854775807/\F (.string (x++y))
 |.eql=>F (.bool (x.toList==y.toList))
 |.neq=>F (.bool (!(x.toList==y.toList)))
 |.lss=>F (.bool (Op.bytesLess x.toList y.toList))
 |.leq=>F (.bool (Op.bytesLess x.toList y.toList || x.toList==y.toList))
 |.gtr=>F (.bool (!(Op.bytesLess x.toList y.toList || x.toList==y.toList)))
 |.geq=>F (.bool (!(Op.bytesLess x.toList y.toList)))
 |_=>False
def eqB(op:BinOp)(b:Bool)(F:Value->Prop):Prop:=
 match op with
 |.eql=>F (.bool b)
 |.neq=>F (.bool (!b))
 |_=>False
def O3(P:Program)(op:BinOp)(t:TypeId)(Y:Operand)(x y:Value)(F:Value->Prop)(els:Prop):Prop:=
 match x,y with
 | .int k a,.int f b=>match yX op with
  |true=>yz op k a b F
  | false=>match kEq k f with
   |true=>Jh op k a b F
   |false=>False
 |.string a,.string b=>H2 op a b F
 | .bool a,.bool b=>match P.underlying t with
  |some .bool=>eqB op (a==b) F
  |_=>els
 | .pointer a,_=>match P.underlying t,Y with
  |some (.pointer _),.const (.pointer none)=>eqB op a.isNone F
  |_,_=>els
 | .slice a _ _,_=>match P.underlying t,Y with
  |some (.slice _),.const (.slice none _ _)=>eqB op a.isNone F
  |_,_=>els
 | .map a,_=>match P.underlying t,Y with
  |some (.map _ _),.const (.map none)=>eqB op a.isNone F
  |_,_=>els
 | .agg xs,.agg d=>match P.eqGuardType P.depth t,ji P t,jt P 8 t with
  |false,true,some l=>LZ l xs (LZ l d (eqB op (bG xs d) F))
  |_,_,_=>els
 |_,_=>els
def unM(op:UnOp)(x:Value)(F:Value->Prop):Prop:=
 match op,x with
 |.not,.bool b=>F (.bool (!b))
 |.neg,.int k n=>F (.int k (k.wrap (0 - n)))
 |.xor,.int k n=>F (.int k (k.wrap (BitVec.ofInt k.bits (if k.signed then -1 else k.max) ^^^ BitVec.ofInt k.bits n).toNat))
 |_,_=>False
def sM(hi:Option Value)(len cap:Nat)(F:Nat->Prop):Prop:=
 match hi with
 |none=>F len
 |some (.int _ h)=>(0<=h/\h<=cap)/\F h.toNat
 |_=>False
def sL(lo:Option Value)(h:Nat)(F:Nat->Prop):Prop:=
 match lo with
 |none=>F 0
 |some (.int _ l)=>(0<=l/\l<=h)/\F l.toNat
 |_=>False
def o9(mx:Option Value)(cap:Nat)(F:Nat->Prop):Prop:=
 match mx with
 |none=>F cap
 |some (.int _ m)=>(0<=m/\m<=cap)/\F m.toNat
 |_=>False
def aZ(P:Program)(t:TypeId):Nat:=
 match P.info? t with
 |some i=>i.size
 |none=>0
def hasType(P:Program)(t:TypeId):Bool:=
 match P.info? t with
 |some _=>true
 |none=>false
def oL(P:Program)(t:TypeId)(x:Value)(lo hi mx:Option Value)(F:Value->Prop)(els:Prop):Prop:=
 match P.underlying t,x with
 | some (.slice e),.slice a len cap=>match hasType P e && (mx.isNone || hi.isSome)with
  | true=>o9 mx cap λm=>sM hi len m λh=>sL lo h λl=>
   ∀a',a'=(if m=l then a else a.map (·.add (l*aZ P e)))->∀n',n'=h - l->∀c',c'=m - l->F (.slice a' n' c')
  |false=>False
 | some .string,.string s=>match mx with
  |none=>sM hi s.size s.size λh=>sL lo h λl=>F (.string (s.extract l h))
  |some _=>False
 | some (.array n e),.pointer a=>match hasType P e && (mx.isNone || hi.isSome)with
  | true=>aF a λp=>o9 mx n λm=>sM hi n m λh=>sL lo h λl=>
   ∀a',a'=some (if m=l then p else p.add (l*aZ P e))->∀n',n'=h - l->∀c',c'=m - l->F (.slice a' n' c')
  |false=>False
 |_,_=>els
def n9(P:Program)(t:TypeId)(x i:Value)(F:Value->Prop):Prop:=
 match P.underlying t,x,i with
 | some (.slice e),.slice a n _,.int _ i=>match hasType P e with
  |true=>(0<=i/\i<n)/\aF a λp=>F (.pointer (some (p.add (i.toNat *aZ P e))))
  |false=>False
 | some (.array n e),.pointer a,.int _ i=>match hasType P e with
  |true=>(0<=i/\i<n)/\aF a λp=>F (.pointer (some (p.add (i.toNat *aZ P e))))
  |false=>False
 |_,_,_=>False
def lL(P:Program)(s:TypeId)(x:Value)(f:Nat)(F:Value->Prop):Prop:=
 match P.underlying s with
 | some (.struct fields)=>match fields[f]? with
  | some fd=>match P.info? fd.type with
   | some i=>match Nat.beq i.size 0 with
    | false=>match x with
     |.pointer a=>aF a λp=>F (.pointer (some (p.add fd.offset)))
     |_=>False
    |true=>False
   |none=>False
  |none=>False
 |_=>False
def JP(P:Program)(src dst:TypeId)(x:Value)(F:Value->Prop)(els:Prop):Prop:=
 match P.underlying src,P.underlying dst,x with
 |some _,some (.int k),.int _ n=>F (.int k (k.wrap n))
 |some _,some .string,.string s=>F (.string s)
 |_,_,_=>els
def QpP:Option (List PanicEntry->World->Prop)->List PanicEntry->World->Prop
 |none,_,_=>False
 |some q,ch,w=>q ch w
def bE(P:Program)(f:FuncId):Bool:=
 match P.funcs[f]? with
 |some fn=>fn.body.isSome && !(fn.name== "runtime.NumGoroutine")
 |none=>false
def setRow(p:Addr):Nat->List Value->World->World
 |_,[],w=>w
 |i,v::r,w=>setRow p (i+1) r (w.setCell (p.add i) v)
def Blk(w:World)(g:Nat)(cs:Array Value)(T:TypeId):Prop:=w.heap[g]? =some (.cells cs T (0,0))
def setAt(cs:Array Value)(o:Nat):List Value->Array Value
 | []=>cs
 |v::r=>setAt (cs.setIfInBounds o v) (o+1) r
structure cp(w:World)(g:Nat)(cs:Array Value)(T:TypeId)(w2:World):Prop where
 blk:Blk w2 g cs T
 kept:Kept (λk=>k≠g) w w2
 size:w2.heap.size=w.heap.size
def aB(w:World)(p:Addr)(vs:List Value)(K:World->Prop):Prop:=∃(g o:Nat)(cs:Array Value)(T:TypeId),p=⟨g,o,none⟩/\Blk w g cs T/\o+vs.length<=cs.size/\∀w2,cp w g (setAt cs o vs) T w2->K w2
def n8:List Value->Prop->Prop
 | [],F=>F
 |v::r,F=>one? v (n8 r F)
def sx(K:aV)(v:Value)(w':World):Prop:=
 match v with
 |.pointer (some ⟨b,0,none⟩)=>∀(g:Nat)(w2:World),g=b->w2=w'->K (.pointer (some ⟨g,0,none⟩)) w2
 |.slice (some ⟨b,0,none⟩) n c=>∀(g:Nat)(w2:World),g=b->w2=w'->K (.slice (some ⟨g,0,none⟩) n c) w2
 |v=>K v w'
theorem rj {K:aV}{v:Value}{w':World}(h:sx K v w'):K v w':=by
 unfold sx at h;split at h
 ·exact h _ _ rfl rfl
 ·exact h _ _ rfl rfl
 ·exact h
def Bq(P:Program)(C:List Nat)(Y:Bool)(v:Value)(args:Array Value)(w:World)(R:Ending->World->Prop):Prop:=
 match v with
 | .func (.func f) first cap=>(match C.elem f with
  |true=>Calls P f (first++args++cap) w R
  |false=>False)
 | .func (.yield l) first _=>(match Y with
  |true=>YieldAt Fence.wide 0 P l (first++args) w R
  |false=>False)
 |_=>False
def AE(P:Program)(t:TypeId)(name:String):Option FuncId:=
 match P.info? t,P.underlying t with
 |some _,some (.pointer _)=>none
 | some i,some _=>(match i.methods.find? (·.name==name)with
  | some m=>(match m.func,m.path.toList with
   |some (f,false),[]=>some f
   |_,_=>none)
  |none=>none)
 |_,_=>none
theorem xz {P:Program}{t:TypeId}{name:String}{f:FuncId}{u:Value}(h:AE P t name=some f)(w:World):(method (P.types.size+Made.depth) t u name).run P w=.ok (f,u) w:=by
 obtain⟨n,b⟩:∃n,P.types.size+Made.depth=n+1:=⟨P.types.size+Made.depth - 1,by unfold Made.depth;omega⟩;rw[b];unfold AE at h;split at h
 ·cases h
 ·rename_i i d hi hu hd;split at h
  ·rename_i m hm;split at h
   ·rename_i f' j hp;injection h with h
    subst h;have p:i.methods.find? (λm=>m.name==name)=some m:=hm;cases d<;>simp_all[method,typeInfo,follow,receiverAt,underlying,Place.get]
   ·cases h
  ·cases h
 ·cases h
def Qq(P:Program)(C:List Nat)(v:Value)(name:String)(args:Array Value)(w:World)(R:Ending->World->Prop):Prop:=∃(t:TypeId)(u:Value)(f:Nat),v=.iface t u/\AE P t name=some f/\C.elem f=true/\Calls P f (#[u]++args) w R
def cw(P:Program)(t:TypeId)(K:aV)(Qp:Option (List PanicEntry->World->Prop)):Ending->World->Prop:=
 match Qp with
 |none=>λe w'=>exT P t λv=>e=.returned v/\K v w'
 |some q=>λe w'=>(exT P t λv=>e=.returned v/\K v w')\/∃ch,e=.panicked ch/\q ch w'
theorem rB {P:Program}{t:TypeId}{K:aV}{Qp:Option (List PanicEntry->World->Prop)}{e:Ending}{w':World}(h:cw P t K Qp e w'):(∃v,e=.returned v/\K v w')\/∃ch,e=.panicked ch/\QpP Qp ch w':=by
 unfold cw at h;cases Qp with
 |none=>exact .inl (tC h)
 |some q=>exact h.imp tC id
def gz(P:Program){α:Type}:Sem α->Option α
 |.pure a=>some a
 |.program k=>gz P (k P)
 |.mark _ k=>gz P k
 |_=>none
theorem Aq {P:Program}{α:Type}{s:Sem α}{v:α}(h:gz P s=some v)(w:World):s.run P w=.ok v w:=by
 induction s with
 |pure a=>simp only[gz,Option.some.injEq]at h;subst h;rfl
 |program k b=>exact b _ h
 |mark m k b=>exact b h
 |_=>simp[gz]at h
def sO(F:Value->Prop)(els:Prop):Option Next->Prop
 |some (.value v)=>F v
 |_=>els
def Df(P:Program)(t:TypeId)(x i:Value)(F:Value->Prop):Prop:=
 match P.underlying t,x,i with
 |some .string,.string s,.int _ i=>aF (if 0<=i then s[i.toNat]? else none) λb=>F (.int .u8 b.toNat)
 | some (.array n e),.agg cs,.int _ i=>match vp P e false,hasType P e with
  |true,true=>(0<=i/\i<n)/\(ej P e).ex λv=>cs[i.toNat *aZ P e]? =some v/\F v
  |_,_=>False
 |_,_,_=>False
def PQ(B:Option (Nat->Prop))(p:Addr)(F:Prop):Prop:=
 match B with
 |none=>F
 |some b=>b p.block/\F
def so(P:Program)(B:Option (Nat->Prop))(o:Oper)(ρ:Operand->Value)(w:World)(F:Value->Prop)(els:Prop):Prop:=
 match o.op with
 |.move x=>F (ρ x)
 |.assign x=>F (ρ x)
 | .pick c a b=>match ρ c with
  |.bool t=>split t (F (ρ a)) (F (ρ b))
  |_=>False
 | .load t x=>match ρ x with
  | .pointer a=>match ej P t,vp P t (uh (ej P t)) && hasType P t && Nat.beq (jh (ej P t)) (aZ P t)with
   |s,true=>aF a λp=>PQ B p (s.ex λv=>jy w p s v/\F v)
   |_,false=>False
  |_=>False
 | .nilCheck x=>match ρ x with
  |.pointer a=>aF a λp=>F (.pointer (some p))
  |_=>els
 |.fieldAddr s x f=>lL P s (ρ x) f F
 |.indexAddr t x i=>n9 P t (ρ x) (ρ i) F
 |.index t x i=>Df P t (ρ x) (ρ i) F
 |.binOp op t x y _=>O3 P op t y (ρ x) (ρ y) F els
 |.unOp op _ x=>unM op (ρ x) F
 |.convert src dst x=>JP P src dst (ρ x) F els
 |.slice t x lo hi mx=>oL P t (ρ x) (lo.map ρ) (hi.map ρ) (mx.map ρ) F els
 |.build .. =>sO F els (gz P (execOp ρ o))
 |.field .. =>sO F els (gz P (execOp ρ o))
 |.extract .. =>sO F els (gz P (execOp ρ o))
 |.makeInterface .. =>sO F els (gz P (execOp ρ o))
 |.typeAssert .. =>sO F els (gz P (execOp ρ o))
 |.makeFunc .. =>sO F els (gz P (execOp ρ o))
 | .sliceToArrayPointer arr x=>match P.underlying arr,ρ x with
  |some (.array n _),.slice a len _=>n<=len/\F (.pointer a)
  |_,_=>els
 | .call c=>match c.callee,c.args.toList,c.argTypes.toList with
  | .builtin .len,[x],[t]=>match P.underlying t with
   | some (.slice _)=>(match ρ x with
    |.slice _ n _=>F (.int .i64 n)
    |_=>els)
   | some .string=>(match ρ x with
    |.string s=>F (.int .i64 s.size)
    |_=>els)
   |_=>els
  | .builtin .min,[x,y],_=>match ρ x,ρ y with
   |.int k a,.int _ b=>F (.int k (if b<a then b else a))
   |_,_=>els
  | .builtin .max,[x,y],_=>match ρ x,ρ y with
   |.int k a,.int _ b=>F (.int k (if b>a then b else a))
   |_,_=>els
  |_,_,_=>els
 |_=>els
def runM(P:Program)(s:Sem Next)(w:World)(K:aV):Prop:=
 match s.run P w with
 |.ok (.value v) w'=>K v w'
 |_=>False
def wu(o:Oper)(ρ:Operand->Value):Option (Sem Value):=
 match o.op with
 |.binOp op t x y _=>some (do eqGuard op t x y (ρ x) (ρ y);binOp op t (ρ x) (ρ y))
 |.convert src dst x=>some (convert src dst (ρ x))
 |.sliceToArrayPointer arr x=>some (Instr.arrayAt arr (ρ x))
 |.makeMap t r=>some (Instr.makeMap t (r.map ρ))
 |.makeSlice t l c=>some (Instr.makeSlice t (ρ l) (ρ c))
 |.lookup t x ix ok=>some (Instr.lookup t (ρ x) (ρ ix) ok)
 |.typeAssert x a b ok=>some (Instr.typeAssert (ρ x) a b ok)
 |.range t x=>some (Instr.range t (ρ x))
 |.next it s=>some (Instr.next (ρ it) s o.type)
 | .call c=>match c.callee with
  |.builtin .append=>some (Builtin.append_ c.argTypes o.type (c.args.map ρ))
  |.builtin .copy=>some (Builtin.copy_ c.argTypes o.type (c.args.map ρ))
  |.builtin .cap=>some (Builtin.cap_ c.argTypes o.type (c.args.map ρ))
  |.builtin .clear=>some (Builtin.clear_ c.argTypes o.type (c.args.map ρ))
  |.builtin .delete=>some (Builtin.delete_ c.argTypes o.type (c.args.map ρ))
  |.builtin .len=>some (Builtin.len_ c.argTypes o.type (c.args.map ρ))
  |.builtin .min=>some (Builtin.min_ c.argTypes o.type (c.args.map ρ))
  |.builtin .max=>some (Builtin.max_ c.argTypes o.type (c.args.map ρ))
  |_=>none
 |_=>none
def uz(P:Program)(o:Oper)(ρ:Operand->Value)(w:World)(K:aV):Prop:=
 match wu o ρ with
 |some s=>exT P o.type λv=>∃w',s.run P w=.ok v w'/\K v w'
 |none=>exT P o.type λv=>∃w',(execOp ρ o).run P w=.ok (.value v) w'/\K v w'
def Ji(P:Program)(t:TypeId):Option TypeId:=
 match P.underlying t with
 | some (.slice e)=>(match P.info? e with
  | some i=>(match i.zero,Nat.beq i.size 1 with
   |some .nilIface,true=>some e
   |_,_=>none)
  |none=>none)
 |_=>none
theorem GC {P:Program}{t e:TypeId}{v:Value}(h:Ji P t=some e)(b:v.oneCell'=true)(w:World):(Instr.buildSlice t 1 #[(0,v)]).run P w=.ok (.slice (some ⟨w.heap.size,0,none⟩) 1 1) (w.alloc (.cells #[v] e)):=by
 unfold Ji at h;split at h
 ·rename_i d hu;split at h
  ·rename_i i hi;split at h
   ·rename_i f hs;injection h with h
    subst h;have hs:=Nat.eq_of_beq_eq_true hs;have j:v.cells= #[v]:=by cases v<;>first|rfl|cases b
    have e1:(Array.range (1*1)).map (Value.nilIface.cells[· % Value.nilIface.cells.size]!)= #[.nilIface]:=by kernel_rfl
    exact run_buildSlice (P:=P) w t d 1 #[(0,v)] #[v] i .nilIface hu hi f (by omega) (by omega) (by rw[hs,e1];simp only[Instr.fill,j];simp)
   ·cases h
  ·cases h
 ·cases h
def CO(P:Program)(t:TypeId)(v:Value)(w:World)(K:aV)(els:Prop):Prop:=
 match P.underlying t,v with
 |some .string,.string s=>sx K (.pointer (some ⟨w.heap.size,0,none⟩)) (w.alloc (.stringIter s 0))
 |_,_=>els
def IQ(v:Value)(b:Bool)(w:World)(K:aV)(els:Prop):Prop:=
 match v,b with
 |.pointer (some ⟨r,0,none⟩),true=>∃(s:ByteArray)(pos:Nat),w.heap[r]? =some (.stringIter s pos)/\split (decide (pos<s.size)) (∀w':World,w'= {w with heap:=w.heap.setIfInBounds r (.stringIter s (pos+(Utf8.decode s pos).2))}->K (.tuple #[.bool true,.int .i64 ((pos:Nat):Int),.int .i32 (((Utf8.decode s pos).1:Nat):Int)]) w') (K (.tuple #[.bool false]) w)
 |_,_=>els
theorem CN {P:Program}{t:TypeId}{v:Value}{w:World}{K:aV}{els:Prop}(h:CO P t v w K els):(∃b w',(Instr.range t v).run P w=.ok b w'/\K b w')\/els:=by
 unfold CO at h;split at h
 ·rename_i s hu;refine .inl ⟨.pointer (some ⟨w.heap.size,0,none⟩),w.alloc (.stringIter s 0),?_,rj h⟩;simp[Instr.range,run_underlying hu]
 ·exact .inr h
theorem Gs {P:Program}{t:TypeId}{v:Value}{b:Bool}{w:World}{K:aV}{els:Prop}(h:IQ v b w K els):(∃d w',(Instr.next v b t).run P w=.ok d w'/\K d w')\/els:=by
 unfold IQ at h;split at h
 ·rename_i r;obtain⟨s,pos,f,h⟩:=h;have i:(getObj r).run P w=.ok (.stringIter s pos) w:=by simp[getObj,Sem.run,f]
  have hs:∀o,(setObj r o).run P w=.ok () {w with heap:=w.heap.setIfInBounds r o}:=λo=>by simp[setObj,Sem.run,f]
  by_cases hp:pos<s.size
  ·rw[show decide (pos<s.size)=true from decide_eq_true hp]at h;refine .inl ⟨_,_,?_,h _ rfl⟩;simp only[Instr.next];rw[Sem.run_bind,i];simp only[Result.andThen_ok,hp,if_true];rw[Sem.run_bind,hs];rfl
  ·rw[show decide (pos<s.size)=false from decide_eq_false hp]at h;refine .inl ⟨_,_,?_,h⟩;simp only[Instr.next];rw[Sem.run_bind,i];simp only[Result.andThen_ok,hp,if_false];rfl
 ·exact .inr h
def opM(P:Program)(C:List Nat)(Y:Bool)(o:Oper)(ρ:Operand->Value)(w:World)(K:aV)(Qp:Option (List PanicEntry->World->Prop)):Prop:=
 so P none o ρ w (λv=>K v w)<|
 match o.op with
 | .store t x y=>match ρ x with
  | .pointer a=>match ej P t with
   | .row n=>(match hasType P t && Nat.beq n (aZ P t),ρ y with
    |true,.agg cs=>aF a λp=>cs.size=n/\(∀v∈cs.toList,one? v True)/\aB w p cs.toList λw'=>K undef w'
    |_,_=>False)
   | _=>match Nat.beq (ρ y).cells.toList.length (aZ P t) && hasType P t with
    |true=>aF a λp=>n8 (ρ y).cells.toList (aB w p (ρ y).cells.toList λw'=>K undef w')
    |false=>False
  |_=>False
 |.alloc _=>runM P (execOp ρ o) w (sx K)
 |.box .. =>runM P (execOp ρ o) w (sx K)
 | .buildSlice t n parts=>(match Ji P t,n,parts.toList with
  |some e,1,[(0,x)]=>(ρ x).oneCell'=true/\sx K (.slice (some ⟨w.heap.size,0,none⟩) 1 1) (w.alloc (.cells #[ρ x] e))
  |_,_,_=>runM P (execOp ρ o) w (sx K))
 | .call c=>match c.callee with
  |.builtin _=>uz P o ρ w K
  |.value f=>Bq P C Y (ρ f) (c.args.map ρ) w (cw P o.type K Qp)
  |.invoke x name=>Qq P C (ρ x) name (c.args.map ρ) w (cw P o.type K Qp)
 |.mapUpdate t m k x=>∃w',(Instr.mapUpdate t (ρ m) (ρ k) (ρ x):Sem Unit).run P w=.ok () w'/\K undef w'
 |.insert t m k x=>∃w',(Instr.mapUpdate t (ρ m) (ρ k) (ρ x):Sem Unit).run P w=.ok () w'/\K undef w'
 |.go _=>False
 |.defer _=>False
 |.range t x=>CO P t (ρ x) w K (uz P o ρ w K)
 |.next it b=>IQ (ρ it) b w K (uz P o ρ w K)
 |_=>uz P o ρ w K
def Out(P:Program)(Y:Bool)(K:aV)(Qp:List PanicEntry->World->Prop):Result Next->Prop
 |.ok (.value v) w'=>K v w'
 |.ok .skip w'=>K undef w'
 |.ok (.enter f args) w'=>Calls P f args w' λe b=>(∃v,e=.returned v/\K v b)\/∃ch,e=.panicked ch/\Qp ch b
 |.ok (.round l f tmps assign body) w'=>Y=true/\RoundIn Fence.wide 0 P l f tmps assign body w' λe b=>(∃v,e=.returned v/\K v b)\/∃ch,e=.panicked ch/\Qp ch b
 |.halt (.panic v) w'=>Qp [{v,recovered:=false}] w'
 |_=>False
section
variable {P:Program}{o:Oper}{ρ:Operand->Value}{w:World}{F:Value->Prop}{els:Prop}
theorem eB {t:TypeId}(h:hasType P t=true):∃i,P.info? t=some i/\aZ P t=i.size:=by
 unfold hasType at h;unfold aZ;cases hi:P.info? t with
 |none=>simp[hi]at h
 |some i=>exact⟨i,rfl,rfl⟩
theorem GB {op:BinOp}{k:IntKind}{x y:Int}(hs:yX op=false)(h:Jh op k x y F)(t:TypeId):∃v,F v/\∀w,(binOp op t (.int k x) (.int k y)).run P w=.ok v w:=by
 cases op<;>simp only[Jh,yX]at h hs
 case quo=>obtain⟨b,h⟩:=IK h;exact⟨_,h,λw=>by simp[binOp,Op.intDiv,b]⟩
 case rem=>obtain⟨b,h⟩:=IK h;exact⟨_,h,λw=>by simp[binOp,Op.intDiv,b]⟩
 all_goals exact⟨_,h,λw=>by simp only[binOp,ne_eq,not_true_eq_false,if_false];rfl⟩
theorem Af {op:BinOp}{k d:IntKind}{x y:Int}(h:yz op k x y F)(t:TypeId):∃v,F v/\∀w,(binOp op t (.int k x) (.int d y)).run P w=.ok v w:=by
 cases op<;>simp only[yz]at h
 case shl=>obtain⟨b,h⟩:=si h;exact⟨_,h,λw=>by simp[binOp,Op.shift,b]⟩
 case shr=>obtain⟨b,h⟩:=si h;exact⟨_,h,λw=>by simp[binOp,Op.shift,b]⟩
theorem F4 {op:BinOp}{x y:ByteArray}(h:H2 op x y F)(t:TypeId):∃v,F v/\∀w,(binOp op t (.string x) (.string y)).run P w=.ok v w:=by
 cases op<;>simp only[H2]at h
 case add=>
  obtain⟨b,h⟩:=h;refine⟨_,h,λw=>?_⟩;have:¬(((x.size+y.size:Nat):Int)>i64.max):=by simp[IntKind.max,IntKind.bits,IntKind.signed];omega
  simp only[binOp,Op.stringOp,this,if_false];rfl
 all_goals exact⟨_,h,λw=>rfl⟩
theorem fI(op:BinOp)(t:TypeId)(x y:Operand)(a b:Value)(w:World)(h:a≠ .nilIface)(d:∀u,a≠ .agg u):
 (eqGuard op t x y a b).run P w=.ok () w:=by
 have key:∀f g:Sem Unit,(match a,b with
  |.nilIface,.nilIface=>f
  |.agg _,.agg _=>g
  |_,_=>pure ())=pure ():=by
  intro f g;split
  ·exact absurd rfl h
  ·exact absurd rfl (d _)
  ·rfl
 cases op<;>first|rfl|(unfold eqGuard;exact congrArg (λs:Sem Unit=>s.run P w) (key _ _))
theorem ql {op:BinOp}{b:Bool}(h:eqB op b F):∃v,F v/\((op=.eql/\v=.bool b)\/(op=.neq/\v=.bool (!b))):=by
 cases op<;>simp only[eqB]at h
 ·exact⟨_,h,.inl ⟨rfl,rfl⟩⟩
 ·exact⟨_,h,.inr ⟨rfl,rfl⟩⟩
theorem run_equalIn_bool'(d:Nat)(t:TypeId)(a b:Bool)(h:P.underlying t=some .bool)(w:World):(Op.equalIn (d+1) t (.bool a) (.bool b)).run P w=.ok (a==b) w:=by
 simp[Op.equalIn,run_underlying h]
theorem tj(t:TypeId)(a b:Bool)(h:P.underlying t=some .bool)(w:World):(Op.equal t (.bool a) (.bool b)).run P w=.ok (a==b) w:=run_equalIn_bool' 9999 t a b h w
theorem qW(d:Nat)(t e:TypeId)(a:Option Addr)(h:P.underlying t=some (.pointer e))(w:World):(Op.equalIn (d+1) t (.pointer a) (.pointer none)).run P w=.ok a.isNone w:=by
 cases a<;>simp[Op.equalIn,run_underlying h]
theorem ur(t e:TypeId)(a:Option Addr)(h:P.underlying t=some (.pointer e))(w:World):(Op.equal t (.pointer a) (.pointer none)).run P w=.ok a.isNone w:=qW 9999 t e a h w
theorem oN(d:Nat)(t e:TypeId)(a:Option Addr)(n c n' c':Nat)(h:P.underlying t=some (.slice e))(w:World):(Op.equalIn (d+1) t (.slice a n c) (.slice none n' c')).run P w=.ok a.isNone w:=by
 cases a<;>simp[Op.equalIn,run_underlying h]
theorem qV(t e:TypeId)(a:Option Addr)(n c n' c':Nat)(h:P.underlying t=some (.slice e))(w:World):(Op.equal t (.slice a n c) (.slice none n' c')).run P w=.ok a.isNone w:=oN 9999 t e a n c n' c' h w
theorem qX(d:Nat)(t k e:TypeId)(a:Option Nat)(h:P.underlying t=some (.map k e))(w:World):(Op.equalIn (d+1) t (.map a) (.map none)).run P w=.ok a.isNone w:=by
 cases a<;>simp[Op.equalIn,run_underlying h]
theorem uu(t k e:TypeId)(a:Option Nat)(h:P.underlying t=some (.map k e))(w:World):(Op.equal t (.map a) (.map none)).run P w=.ok a.isNone w:=qX 9999 t k e a h w
theorem oY:∀ {a b c d:List Value},a.length=b.length->eqL (a++c) (b++d)=(eqL a b && eqL c d)
 | [],[],_,_,_=>by simp[eqL]
 | x::a,y::b,c,d,h=>by
  have:=oY (a:=a) (b:=b) (c:=c) (d:=d) (by simpa using h);simp[eqL,this,Bool.and_assoc]
 | [],_::_,_,_,h=>by simp at h
 |_::_,[],_,_,h=>by simp at h
theorem bM:∀ {l:List Sh}{vs:List Value},de l vs=true->vs.length=l.length
 | [],[],_=>rfl
 | .int k::l,.int b x::vs,h=>by
  unfold de at h;split at h
  ·simp[bM h]
  ·cases h
 |.bool::l,.bool _::vs,h=>by simp[bM (show de l vs=true from h)]
 |.str::l,.string _::vs,h=>by simp[bM (show de l vs=true from h)]
 | [],_::_,h=>by simp[de]at h
 |s::l,[],h=>by cases s<;>simp[de]at h
 |.int k::l,.bool _::vs,h|.int k::l,.float _ _::vs,h|.int k::l,.complex _ _ _::vs,h|.int k::l,.string _::vs,h|.int k::l,.pointer _::vs,h|.int k::l,.slice _ _ _::vs,h|.int k::l,.map _::vs,h|.int k::l,.chan _::vs,h|.int k::l,.func _ _ _::vs,h|.int k::l,.nilFunc::vs,h|.int k::l,.iface _ _::vs,h|.int k::l,.nilIface::vs,h|.int k::l,.agg _::vs,h|.int k::l,.tuple _::vs,h=>by simp[de]at h
 |.bool::l,.int _ _::vs,h|.bool::l,.float _ _::vs,h|.bool::l,.complex _ _ _::vs,h|.bool::l,.string _::vs,h|.bool::l,.pointer _::vs,h|.bool::l,.slice _ _ _::vs,h|.bool::l,.map _::vs,h|.bool::l,.chan _::vs,h|.bool::l,.func _ _ _::vs,h|.bool::l,.nilFunc::vs,h|.bool::l,.iface _ _::vs,h|.bool::l,.nilIface::vs,h|.bool::l,.agg _::vs,h|.bool::l,.tuple _::vs,h=>by simp[de]at h
 |.str::l,.bool _::vs,h|.str::l,.float _ _::vs,h|.str::l,.complex _ _ _::vs,h|.str::l,.int _ _::vs,h|.str::l,.pointer _::vs,h|.str::l,.slice _ _ _::vs,h|.str::l,.map _::vs,h|.str::l,.chan _::vs,h|.str::l,.func _ _ _::vs,h|.str::l,.nilFunc::vs,h|.str::l,.iface _ _::vs,h|.str::l,.nilIface::vs,h|.str::l,.agg _::vs,h|.str::l,.tuple _::vs,h=>by simp[de]at h
 |.ptr::l,_::vs,h|.slice::l,_::vs,h|.map::l,_::vs,h|.val::l,_::vs,h=>by simp[de]at h
theorem ja:∀ {l l':List Sh}{vs:List Value},de (l++l') vs=true->de l (vs.take l.length)=true/\de l' (vs.drop l.length)=true
 | [],l',vs,h=>by simpa[de]using h
 |s::l,l',[],h=>by cases s<;>simp[de]at h
 | s::l,l',v::vs,h=>by
  have key:de (l++l') vs=true/\(∀r,de (s::r) (v::vs.take l.length)=de r (vs.take l.length)):=by
   cases s<;>cases v<;>simp only[List.cons_append,de,Bool.false_eq_true]at h
   all_goals first
    |exact⟨h,λr=>by simp[de]⟩
    | (split at h
       ·rename_i b;exact⟨h,λr=>by simp[de,b]⟩
       ·cases h)
  obtain⟨d,f⟩:=ja key.1;refine⟨?_,by simpa using f⟩;have:=key.2 l;simp only[List.length_cons,List.take_succ_cons];rw[this];exact d
def asV(P:Program)(t:TypeId)(l:List Value):Value:=
 match ji P t with
 |true=>.agg ⟨l⟩
 |false=>l.headD undef
theorem yZ {m:Nat}{t:TypeId}{l:List Sh}(h:jt P (m+1) t=some l)(b:ji P t=false):(isAgg t).run P w=.ok false w/\∃s,l= [s]:=by
 unfold jt at h;unfold ji at b;cases hu:P.underlying t with
 |none=>simp[hu]at h
 |some d=>cases d<;>simp_all[isAgg,run_underlying hu]<;>exact⟨_,h.symm⟩
theorem iM {m:Nat}{t:TypeId}{l:List Sh}{i:TypeInfo}(h:jt P (m+1) t=some l)(hi:P.info? t=some i)(hs:i.size=l.length)(xs:Array Value)(off:Nat)
 (j:de l ((xs.toList.drop off).take l.length)=true):(part t xs off).run P w=.ok (asV P t ((xs.toList.drop off).take l.length)) w:=by
 have hlen:=bM j;cases b:ji P t with
 | true=>
  have f:(isAgg t).run P w=.ok true w:=by
   unfold ji at b;cases hu:P.underlying t with
   |none=>simp[hu]at b
   |some d=>cases d<;>simp_all[isAgg,run_underlying hu]
  have hex:xs.extract off (off+l.length)=⟨(xs.toList.drop off).take l.length⟩:=by
   apply Array.ext';rw[Array.toList_extract];simp[List.extract]
  simp[part,f,sizeOf,typeInfo,hi,hs,asV,b,hex]
 | false=>
  obtain⟨f,s,rfl⟩:=yZ (w:=w) h b;have p:∃v,xs[off]? =some v/\(xs.toList.drop off).take [s].length= [v]:=by
   cases hd:xs.toList.drop off with
   |nil=>rw[hd]at hlen;simp at hlen
   | cons v r=>
    refine⟨v,?_,by simp⟩;have:=congrArg (·[0]?) hd;simp at this;exact this
  obtain⟨v,q,u⟩:=p;rw[u];simp[part,f,asV,b,q]
theorem j6 {m d:Nat}(z:∀(t:TypeId)(l:List Sh),jt P m t=some l->∀(w:World)(xs b:List Value),de l xs=true->de l b=true->(Op.equalIn d t (asV P t xs) (asV P t b)).run P w=.ok (eqL xs b) w)
 (w:World)(xs b:Array Value):∀(fs:List Field)(off:Nat)(l:List Sh),uZ P (jt P m) off fs=some l->de l (xs.toList.drop off)=true->de l (b.toList.drop off)=true->
  (Op.eqFields d xs b fs).run P w=.ok (eqL (xs.toList.drop off) (b.toList.drop off)) w
 | [],off,l,h,s,u=>by
  simp only[uZ,Option.some.injEq]at h;subst h;have e1:=bM s;have j:=bM u;have e1:=List.eq_nil_of_length_eq_zero e1;have j:=List.eq_nil_of_length_eq_zero j;rw[e1,j];rfl
 | f::fs,off,l,h,s,u=>by
  simp only[uZ]at h;split at h
  ·rename_i l1 i H I p hi;split at h
   ·rename_i l2 J K;simp only[Option.some.injEq]at h;subst h;have L:f.offset=off:=Nat.eq_of_beq_eq_true H;have D:i.size=l1.length:=Nat.eq_of_beq_eq_true J;obtain⟨x,E⟩:=ja s;obtain⟨y,G⟩:=ja u;rw[List.drop_drop]at E G;have hm:∃q,m=q+1:=by
     cases m with
     |zero=>simp[jt]at p
     |succ q=>exact⟨q,rfl⟩
    obtain⟨q,rfl⟩:=hm;have M:=iM (w:=w) p hi D xs off x;have O:=iM (w:=w) p hi D b off y;have R:=z f.type l1 p w _ _ x y;have V:=j6 z w xs b fs (off+l1.length) l2 K E G;have W:f.name≠ "_" :=by simpa using I
    have RL:eqL (xs.toList.drop off) (b.toList.drop off)=(eqL ((xs.toList.drop off).take l1.length) ((b.toList.drop off).take l1.length) && eqL (xs.toList.drop (off+l1.length)) (b.toList.drop (off+l1.length))):=by
     have e1:xs.toList.drop off=(xs.toList.drop off).take l1.length++xs.toList.drop (off+l1.length):=by rw[<-List.drop_drop,List.take_append_drop]
     have j:b.toList.drop off=(b.toList.drop off).take l1.length++b.toList.drop (off+l1.length):=by rw[<-List.drop_drop,List.take_append_drop]
     have:=oY (c:=xs.toList.drop (off+l1.length)) (d:=b.toList.drop (off+l1.length)) ((bM x).trans (bM y).symm);rw[<-e1,<-j]at this;exact this
    rw[RL];simp only[Op.eqFields,W,ne_eq,not_false_eq_true,if_true,Sem.run_bind,L,M,O,R,Result.andThen_ok];cases eqL ((xs.toList.drop off).take l1.length) ((b.toList.drop off).take l1.length)
    ·simp
    ·simpa using V
   ·cases h
  ·cases h
theorem kN {m d:Nat}{e:TypeId}{l1:List Sh}{i:TypeInfo}(x:∀(t:TypeId)(l:List Sh),jt P m t=some l->∀(w:World)(xs b:List Value),de l xs=true->de l b=true->(Op.equalIn d t (asV P t xs) (asV P t b)).run P w=.ok (eqL xs b) w)
 (w:World)(xs b:Array Value)(he:jt P m e=some l1)(hi:P.info? e=some i)(hs:i.size=l1.length):∀(n k:Nat),de (uA l1 n) (xs.toList.drop (k*l1.length))=true->de (uA l1 n) (b.toList.drop (k*l1.length))=true->
  (Op.eqItems d e (P.cellsOf e) xs b (List.range' k n)).run P w=.ok (eqL (xs.toList.drop (k*l1.length)) (b.toList.drop (k*l1.length))) w
 | 0,k,h,j=>by
  have e1:=List.eq_nil_of_length_eq_zero (bM h);have p:=List.eq_nil_of_length_eq_zero (bM j);rw[e1,p];rfl
 | n+1,k,h,j=>by
  have y:P.cellsOf e=l1.length:=by simp[Program.cellsOf,hi,hs]
  obtain⟨q,z⟩:=ja (l:=l1) (l':=uA l1 n) h;obtain⟨s,D⟩:=ja (l:=l1) (l':=uA l1 n) j;have u:k*l1.length+l1.length=(k+1)*l1.length:=by rw[Nat.add_mul,Nat.one_mul]
  rw[List.drop_drop,u]at z D;have hm:∃f,m=f+1:=by
   cases m with
   |zero=>simp[jt]at he
   |succ f=>exact⟨f,rfl⟩
  obtain⟨f,rfl⟩:=hm;have G:=iM (w:=w) he hi hs xs _ q;have H:=iM (w:=w) he hi hs b _ s;have I:=x e l1 he w _ _ q s;have E:=kN x w xs b he hi hs n (k+1) z D;rw[y]at E;have J:eqL (xs.toList.drop (k*l1.length)) (b.toList.drop (k*l1.length))=(eqL ((xs.toList.drop (k*l1.length)).take l1.length) ((b.toList.drop (k*l1.length)).take l1.length) && eqL (xs.toList.drop ((k+1)*l1.length)) (b.toList.drop ((k+1)*l1.length))):=by
   have e1:xs.toList.drop (k*l1.length)=(xs.toList.drop (k*l1.length)).take l1.length++xs.toList.drop ((k+1)*l1.length):=by rw[<-u,<-List.drop_drop,List.take_append_drop]
   have p:b.toList.drop (k*l1.length)=(b.toList.drop (k*l1.length)).take l1.length++b.toList.drop ((k+1)*l1.length):=by rw[<-u,<-List.drop_drop,List.take_append_drop]
   have:=oY (c:=xs.toList.drop ((k+1)*l1.length)) (d:=b.toList.drop ((k+1)*l1.length)) ((bM q).trans (bM s).symm);rw[<-e1,<-p]at this;exact this
  rw[J];simp only[List.range'_succ,Op.eqItems,Sem.run_bind,y,G,H,I,Result.andThen_ok];cases eqL ((xs.toList.drop (k*l1.length)).take l1.length) ((b.toList.drop (k*l1.length)).take l1.length)
  ·simp
  ·simpa using E
theorem jQ(d:Nat):∀(m:Nat)(t:TypeId)(l:List Sh),jt P m t=some l->∀(w:World)(xs f:List Value),de l xs=true->de l f=true->(Op.equalIn (d+m) t (asV P t xs) (asV P t f)).run P w=.ok (eqL xs f) w
 |0,t,l,h,_,_,_,_,_=>by simp[jt]at h
 | m+1,t,l,h,w,xs,f,j,p=>by
  have H:=h;unfold jt at h;cases hu:P.underlying t with
  |none=>simp[hu]at h
  | some y=>
   simp only[hu]at h;cases y<;>simp only[reduceCtorEq]at h
   case bool=>
    simp only[Option.some.injEq]at h;subst h;obtain⟨v,rfl⟩:=List.length_eq_one_iff.1 (bM j);obtain⟨u,rfl⟩:=List.length_eq_one_iff.1 (bM p);cases v<;>first|(simp[de]at j;done)|skip
    cases u<;>first|(simp[de]at p;done)|skip
    simp only[asV,ji,hu,eqL,kG,Bool.and_true,List.headD_cons];exact run_equalIn_bool' (d+m) t _ _ hu w
   case int k=>
    simp only[Option.some.injEq]at h;subst h;obtain⟨v,rfl⟩:=List.length_eq_one_iff.1 (bM j);obtain⟨u,rfl⟩:=List.length_eq_one_iff.1 (bM p);cases v<;>first|(simp[de]at j;done)|skip
    cases u<;>first|(simp[de]at p;done)|skip
    rename_i k1 a s b;have e1:kEq k k1=true:=by
     cases h:kEq k k1
     ·simp[de,h]at j
     ·rfl
    have z:kEq k s=true:=by
     cases h:kEq k s
     ·simp[de,h]at p
     ·rfl
    obtain rfl:=qh e1;obtain rfl:=qh z;simp only[asV,ji,hu,eqL,kG,Bool.and_true,List.headD_cons];exact run_equalIn_int w (d+m) t _ _ a b hu
   case string=>
    simp only[Option.some.injEq]at h;subst h;obtain⟨v,rfl⟩:=List.length_eq_one_iff.1 (bM j);obtain⟨u,rfl⟩:=List.length_eq_one_iff.1 (bM p);cases v<;>first|(simp[de]at j;done)|skip
    cases u<;>first|(simp[de]at p;done)|skip
    simp only[asV,ji,hu,eqL,kG,Bool.and_true,List.headD_cons];exact run_equalIn_string w (d+m) t _ _ hu
   case struct fs=>
    split at h
    ·cases h
    ·rename_i D;have x:P.fieldsOf t=fs:=by simp[Program.fieldsOf,hu]
     have:=j6 (d:=d+m) (λt l q w xs f=>jQ d m t l q w xs f) w ⟨xs⟩ ⟨f⟩ fs.toList 0 l h (by simpa using j) (by simpa using p);simp only[asV,ji,hu];rw[show d+(m+1)=d+m+1 from rfl,run_equalIn_struct w (d+m) t ⟨xs⟩ ⟨f⟩ (by rw[x];exact hu) D,x];simpa using this
   case array n e=>
    split at h
    ·rename_i l1 i E hi;split at h
     ·rename_i hs;simp only[Option.some.injEq]at h;subst h;have G:i.size=l1.length:=Nat.eq_of_beq_eq_true hs;have:=kN (d:=d+m) (λt l q w xs f=>jQ d m t l q w xs f) w ⟨xs⟩ ⟨f⟩ E hi G n 0 (by simpa using j) (by simpa using p);simp only[asV,ji,hu];rw[show d+(m+1)=d+m+1 from rfl,run_equalIn_array w (d+m) ⟨xs⟩ ⟨f⟩ hu hi,List.range_eq_range'];simpa using this
     ·cases h
    ·cases h
theorem GF {m:Nat}{t:TypeId}{l:List Sh}{op:BinOp}{xs b:Array Value}{X Y:Operand}(d:P.eqGuardType P.depth t=false)(h:jt P m t=some l)(hm:m<=10000)(f:ji P t=true)(i:de l xs.toList=true)(j:de l b.toList=true)(p:op=.eql\/op=.neq)(w:World):
 (do eqGuard op t X Y (.agg xs) (.agg b);binOp op t (.agg xs) (.agg b):Sem Value).run P w=.ok (.bool (if op=.eql then bG xs b else !(bG xs b))) w:=by
 have he:=jQ (10000 - m) m t l h w xs.toList b.toList i j;rw[show 10000 - m+m=10000 by omega]at he;simp only[asV,f]at he;rw[Sem.run_bind,run_eqGuard_agg w op t X Y xs b d];rcases p with rfl|rfl
 ·rw[Result.andThen_ok,run_eql_struct w t xs b,he];rfl
 ·rw[Result.andThen_ok,run_neq_struct w t xs b,he];rfl
theorem J0 {op:BinOp}{t:TypeId}{X Y:Operand}{ρ:Operand->Value}(q:∀v,ρ (.const v)=v)(h:O3 P op t Y (ρ X) (ρ Y) F els):
 (∃v,F v/\∀w,(do eqGuard op t X Y (ρ X) (ρ Y);binOp op t (ρ X) (ρ Y):Sem Value).run P w=.ok v w)\/els:=by
 unfold O3 at h;split at h
 ·rename_i k a z b f j;rw[f,j];split at h
  ·obtain⟨v,d,p⟩:=Af h t;exact .inl ⟨v,d,λw=>by rw[Sem.run_bind,fI _ _ _ _ _ _ _ (by simp) (by simp)];exact p w⟩
  ·rename_i hs;split at h
   ·rename_i s;obtain rfl:=qh s;obtain⟨v,d,p⟩:=GB hs h t;exact .inl ⟨v,d,λw=>by rw[Sem.run_bind,fI _ _ _ _ _ _ _ (by simp) (by simp)];exact p w⟩
   ·exact h.elim
 ·rename_i a b f j;rw[f,j];obtain⟨v,d,p⟩:=F4 h t;exact .inl ⟨v,d,λw=>by rw[Sem.run_bind,fI _ _ _ _ _ _ _ (by simp) (by simp)];exact p w⟩
 ·rename_i a b f j;rw[f,j];split at h
  ·rename_i m;obtain⟨v,d,i⟩:=ql h;refine .inl ⟨v,d,λw=>?_⟩;rw[Sem.run_bind,fI _ _ _ _ _ _ _ (by simp) (by simp)];rcases i with⟨rfl,rfl⟩|⟨rfl,rfl⟩<;>simp[binOp,tj t a b m]
  ·exact .inr h
 ·rename_i a f;split at h
  ·rename_i m;obtain⟨v,d,i⟩:=ql h;refine .inl ⟨v,d,λw=>?_⟩;rw[f,q,Sem.run_bind,fI _ _ _ _ _ _ _ (by simp) (by simp)];rcases i with⟨rfl,rfl⟩|⟨rfl,rfl⟩<;>simp[binOp,ur t _ a m]
  ·exact .inr h
 ·rename_i a n c f;split at h
  ·rename_i m;obtain⟨v,d,i⟩:=ql h;refine .inl ⟨v,d,λw=>?_⟩;rw[f,q,Sem.run_bind,fI _ _ _ _ _ _ _ (by simp) (by simp)];rcases i with⟨rfl,rfl⟩|⟨rfl,rfl⟩<;>simp[binOp,qV t _ a _ _ _ _ m]
  ·exact .inr h
 ·rename_i a f;split at h
  ·rename_i m;obtain⟨v,d,i⟩:=ql h;refine .inl ⟨v,d,λw=>?_⟩;rw[f,q,Sem.run_bind,fI _ _ _ _ _ _ _ (by simp) (by simp)];rcases i with⟨rfl,rfl⟩|⟨rfl,rfl⟩<;>simp[binOp,uu t _ _ a m]
  ·exact .inr h
 ·rename_i xs D f j;rw[f,j];split at h
  ·rename_i l u x y;obtain⟨f1,h⟩:=AY h;obtain⟨f2,h⟩:=AY h;obtain⟨v,d,i⟩:=ql h;refine .inl ⟨v,d,λw=>?_⟩;rw[GF u y (by omega) x f1 f2 (i.imp And.left And.left) w];rcases i with⟨rfl,rfl⟩|⟨rfl,rfl⟩<;>rfl
  ·exact .inr h
 ·exact .inr h
theorem Ar {s:Sem Next}(h:sO F els (gz P s)):(∃v,F v/\∀w,s.run P w=.ok (.value v) w)\/els:=by
 unfold sO at h;split at h
 ·rename_i v b;exact .inl ⟨v,h,λw=>Aq b w⟩
 ·exact .inr h
theorem Lb {op:UnOp}{x:Value}(h:unM op x F):∃v,F v/\∀w,(Op.unary op x).run P w=.ok v w:=by
 unfold unM at h;split at h
 ·exact⟨_,h,λw=>rfl⟩
 ·exact⟨_,h,λw=>rfl⟩
 ·exact⟨_,h,λw=>rfl⟩
 ·exact h.elim
theorem k8 {t:TypeId}{x i:Value}(h:n9 P t x i F):∃v,F v/\∀w,(Instr.indexAt t x i).run P w=.ok v w:=by
 unfold n9 at h;split at h
 ·rename_i e a n c k j b;split at h
  ·rename_i he;obtain⟨d,hi,hs⟩:=eB he;obtain⟨hb,h⟩:=h;obtain⟨p,rfl,h⟩:=dq h;refine⟨_,h,λw=>?_⟩;simp[Instr.indexAt,asIntOf,run_underlying b,hb,sizeOf,typeInfo,hi,hs]
  ·exact h.elim
 ·rename_i n e a k j b;split at h
  ·rename_i he;obtain⟨d,hi,hs⟩:=eB he;obtain⟨hb,h⟩:=h;obtain⟨p,rfl,h⟩:=dq h;refine⟨_,h,λw=>?_⟩;simp[Instr.indexAt,asIntOf,run_underlying b,hb,sizeOf,typeInfo,hi,hs,Instr.sureAddr]
  ·exact h.elim
 ·exact h.elim
theorem u7 {s:TypeId}{x:Value}{f:Nat}(h:lL P s x f F):∃v,F v/\∀w,(Instr.fieldAt s x f).run P w=.ok v w:=by
 unfold lL at h;split at h
 ·rename_i fields hs;split at h
  ·rename_i fd d;split at h
   ·rename_i i hi;split at h
    ·rename_i b;split at h
     ·obtain⟨p,rfl,h⟩:=dq h;have j:¬i.size=0:=by intro e;rw[e]at b;simp at b
      refine⟨_,h,λw=>?_⟩;simp[Instr.fieldAt,run_underlying hs,d,Instr.sureAddr,fieldPlace,sizeOf,typeInfo,hi,j]
     ·exact h.elim
    ·exact h.elim
   ·exact h.elim
  ·exact h.elim
 ·exact h.elim
theorem GQ {src dst:TypeId}{x:Value}(h:JP P src dst x F els):(∃v,F v/\∀w,(convert src dst x).run P w=.ok v w)\/els:=by
 unfold JP at h;split at h
 ·rename_i a k n hs hd;exact .inl ⟨_,h,λw=>by unfold convert;simp[run_underlying hs,run_underlying hd,Conv.intToInt]⟩
 ·rename_i a s hs hd;exact .inl ⟨_,h,λw=>by unfold convert;simp[run_underlying hs,run_underlying hd]⟩
 ·exact .inr h
theorem De {t:TypeId}{x i:Value}(h:Df P t x i F):∃v,F v/\∀w,(Instr.index t x i).run P w=.ok v w:=by
 unfold Df at h;split at h
 ·rename_i s k j d;obtain⟨b,hb,h⟩:=dq h;exact⟨_,h,λw=>by simp[Instr.index,asIntOf,run_underlying d,hb]⟩
 ·rename_i n e cs k j d;split at h
  ·rename_i f he;obtain⟨q,hi,hs⟩:=eB he;obtain⟨hb,h⟩:=h;obtain⟨v,m,h⟩:=Sh2.lM h;refine⟨_,h,λw=>?_⟩;have p:=ya f w;simp[Instr.index,asIntOf,run_underlying d,hb,part,p,sizeOf,typeInfo,hi,<-hs,m]
  ·exact h.elim
 ·exact h.elim
theorem run_sliceBound {k:IntKind}{i:Int}{y:Nat}{code:BoundsCode}(h:0<=i/\i<=y)(w:World):(Instr.sliceBound (.int k i) y code).run P w=.ok i.toNat w:=by
 unfold Instr.sliceBound;show((if 0<=i/\i<=(y:Int)then pure i.toNat else boundsPanic k i y code:Sem Nat)).run P w=_;rw[if_pos h];rfl
theorem rC {lo:Option Value}{H:Nat}{G:Nat->Prop}{code:BoundsCode}(h:sL lo H G):∃l,G l/\
 ∀w,(match lo with|some v=>Instr.sliceBound v H code|none=>pure 0:Sem Nat).run P w=.ok l w:=by
 unfold sL at h;split at h
 ·exact⟨_,h,λw=>rfl⟩
 ·obtain⟨hb,h⟩:=h;exact⟨_,h,λw=>run_sliceBound hb w⟩
 ·exact h.elim
theorem o8 {isSlice:Bool}{len cap:Nat}{lo hi mx:Option Value}{G:Nat->Nat->Nat->Prop}(b:mx=none\/hi≠none)
 (h:o9 mx cap λm=>sM hi len m λh=>sL lo h λl=>G l h m):∃l h m,G l h m/\∀w,(Instr.sliceBounds isSlice len cap lo hi mx).run P w=.ok (l,h,m) w:=by
 unfold Instr.sliceBounds;cases mx with
 | none=>
  simp only[o9]at h;cases hi with
  | none=>
   simp only[sM]at h;obtain⟨l,d,f⟩:=rC (P:=P) (code:=.sliceB) h;refine⟨l,_,_,d,λw=>?_⟩;have:=f w;cases lo with
   |none=>simp at this ⊢;exact this
   |some v=>simp at this ⊢;simp[this]
  | some i=>
   simp only[sM]at h;split at h
   ·cases ‹some i=none›
   ·rename_i k H heq;obtain rfl:i=.int k H:=by injection heq
    obtain⟨hb,h⟩:=h;obtain⟨l,d,f⟩:=rC (P:=P) (code:=.sliceB) h;refine⟨l,_,_,d,λw=>?_⟩;have:=f w;have j:=λc=>run_sliceBound (P:=P) (k:=k) (code:=c) hb w;cases lo with
    |none=>simp[j];simpa using this
    |some v=>simp at this ⊢;simp[j,this]
   ·exact h.elim
 | some p=>
  rcases b with b|b
  ·cases b
  cases hi with
  |none=>exact absurd rfl b
  |some i=>
  simp only[o9]at h;split at h
  ·cases ‹some p=none›
  ·rename_i k M heq;obtain rfl:p=.int k M:=by injection heq
   obtain⟨hm,h⟩:=h;simp only[sM]at h;split at h
   ·cases ‹some i=none›
   ·rename_i q H heq;obtain rfl:i=.int q H:=by injection heq
    obtain⟨hb,h⟩:=h;obtain⟨l,d,f⟩:=rC (P:=P) (code:=.slice3C) h;refine⟨l,_,_,d,λw=>?_⟩;have:=f w;have e1:=λc=>run_sliceBound (P:=P) (k:=k) (code:=c) hm w;have j:=λc=>run_sliceBound (P:=P) (k:=q) (code:=c) hb w;cases lo with
    |none=>simp[e1,j];simpa using this
    |some v=>simp[e1,j];simp at this;simp[this]
   ·exact h.elim
  ·exact h.elim
theorem P8 {mx hi:Option Value}(h:(mx.isNone || hi.isSome)=true):mx=none\/hi≠none:=by
 cases mx<;>cases hi<;>simp_all
theorem oK {t:TypeId}{x:Value}{lo hi mx:Option Value}(h:oL P t x lo hi mx F els):(∃v,F v/\∀w,(Instr.sliceAt t x lo hi mx).run P w=.ok v w)\/els:=by
 unfold oL at h;split at h
 ·rename_i e a len cap b;split at h
  ·rename_i he;simp only[Bool.and_eq_true]at he;obtain⟨q,i,hs⟩:=eB he.1;obtain⟨l,j,m,d,f⟩:=o8 (P:=P) (isSlice:=true) (P8 he.2) h;refine .inl ⟨_,d _ rfl _ rfl _ rfl,λw=>?_⟩;simp[Instr.sliceAt,Instr.slice,run_underlying b,f,sizeOf,typeInfo,i,hs]
  ·exact h.elim
 ·rename_i s b;split at h
  ·obtain⟨l,j,m,d,f⟩:=o8 (P:=P) (isSlice:=false) (len:=s.size) (cap:=s.size) (mx:=none) (G:=λl h _=>F (.string (s.extract l h))) (.inl rfl) (by simpa[o9]using h);refine .inl ⟨_,d,λw=>?_⟩;simp[Instr.sliceAt,Instr.slice,run_underlying b,f]
  ·exact h.elim
 ·rename_i n e a b;split at h
  ·rename_i he;simp only[Bool.and_eq_true]at he;obtain⟨q,i,hs⟩:=eB he.1;obtain⟨p,rfl,u⟩:=dq h;obtain⟨l,j,m,d,f⟩:=o8 (P:=P) (isSlice:=false) (P8 he.2) u;refine .inl ⟨_,d _ rfl _ rfl _ rfl,λw=>?_⟩;simp[Instr.sliceAt,Instr.sureAddr,run_underlying b,f,sizeOf,typeInfo,i,hs]
  ·exact h.elim
 ·exact .inr h
theorem lB {p:Addr}:∀(vs:List Value)(i:Nat)(acc:Array Value),(∀j u,vs[j]? =some u->w.cell? (p.add (i+j))=some u)->
 (loadCellsFrom p i vs.length acc).run P w=.ok (acc++⟨vs⟩) w
 | [],i,acc,_=>by simp[loadCellsFrom]
 | v::r,i,acc,h=>by
  have b:=h 0 v rfl;simp only[Nat.add_zero]at b;have d:=lB r (i+1) (acc.push v) (λj u hu=>by
   have:=h (j+1) u (by simpa using hu)
   rwa[Nat.add_right_comm,Nat.add_assoc])
  simp only[List.length_cons,loadCellsFrom,load];simp only[Sem.run_bind];rw[show(Sem.load .plain (p.add i) Sem.pure).run P w=.ok v w by simp[Sem.run,b]];simp only[Result.andThen_ok,d];simp
theorem sI {p:Addr}:∀(vs:List Value)(i:Nat),aO w p i vs->∀j u,vs[j]? =some u->w.cell? (p.add (i+j))=some u
 | [],_,_,j,u,hu=>by simp at hu
 | v::r,i,h,j,u,hu=>by
  obtain⟨b,d⟩:=zc h;cases j with
  |zero=>simp at hu;subst hu;simpa using b
  | succ j=>
   have:=sI r (i+1) d j u (by simpa using hu)
   rwa[show i+(j+1)=i+1+j by omega]
theorem qs {w':World}{p:Addr}(ij:∀(i:Nat)(u:Value),w.cell? (p.add i)=some u->w'.cell? (p.add i)=some u):∀(vs:List Value)(i:Nat),aO w p i vs->aO w' p i vs
 | [],_,_=>trivial
 | [_],_,h=>ij _ _ h
 |_::u::r,i,h=>⟨ij _ _ h.1,qs ij (u::r) (i+1) h.2⟩
theorem Iw {B:Option (Nat->Prop)}{p:Addr}{F:Prop}(h:PQ B p F):(∀b,B=some b->b p.block)/\F:=by
 cases B with
 |none=>exact⟨by simp,h⟩
 |some b=>exact⟨λb' hb=>by cases hb;exact h.1,h.2⟩
theorem block_add(p:Addr)(i:Nat):(p.add i).block=p.block:=by unfold Addr.add;split<;>rfl
theorem yT {B:Option (Nat->Prop)}{w':World}{p:Addr}{s:Sh2}{v:Value}(d:∀b,B=some b->b p.block)(hb:Kept (held B w) w w')(h:jy w p s v):jy w' p s v:=by
 have ij:∀(q:Addr)(u:Value),q.block=p.block->w.cell? q=some u->w'.cell? q=some u:=λq u hq hu=>by
  refine(hb.cell (p:=q) ?_).trans hu;cases B with
  |none=>exact World.block_lt_of_cell? w q hu
  |some b=>rw[hq];exact d b rfl
 cases s with
 |one s=>exact ij _ _ rfl h
 | agg l=>
  cases v<;>first|exact h.elim|skip
  rename_i cs;simp only[jy]at h ⊢;split at h
  ·exact qs (λi u hu=>ij _ u (block_add p i) hu) _ _ h
  ·exact h.elim
 | row n=>
  cases v<;>first|exact h.elim|skip
  exact⟨h.1,λi u hu=>ij _ _ (block_add p i) (h.2 i u hu)⟩
theorem mC {p:Addr}{t:TypeId}{s:Sh2}{v:Value}(m:vp P t (uh s)=true)(hi:hasType P t=true)(q:Nat.beq (jh s) (aZ P t)=true)(h:jy w p s v):
 (Instr.loadAt t (.pointer (some p))).run P w=.ok v w:=by
 obtain⟨x,y,hs⟩:=eB hi;have z:x.size=jh s:=by rw[<-hs];exact(Nat.eq_of_beq_eq_true q).symm
 have d:=ya m w;have i:(sizeOf t).run P w=.ok (jh s) w:=by simp[sizeOf,typeInfo,y,z]
 cases s with
 |one s=>simp[Instr.loadAt,Instr.sureAddr,loadVar,d,uh,load,Sem.run,show w.cell? p=some v from h]
 | agg l=>
  cases v<;>first|exact h.elim|skip
  rename_i cs;simp only[jy]at h;split at h
  ·rename_i f;have D:cs.toList.length=l.length:=Nat.eq_of_beq_eq_true f;have b:=lB (P:=P) (p:=p) cs.toList 0 #[] (sI _ _ h);rw[D]at b;simp[Instr.loadAt,Instr.sureAddr,loadVar,d,uh,i,jh,loadCells,b]
  ·exact h.elim
 | row n=>
  cases v<;>first|exact h.elim|skip
  rename_i cs;have b:=lB (P:=P) (p:=p) cs.toList 0 #[] (λj u hu=>by simpa using h.2 j u (by simpa using hu));have f:cs.toList.length=n:=by simpa using h.1
  rw[f]at b;simp[Instr.loadAt,Instr.sureAddr,loadVar,d,uh,i,jh,loadCells,b]
theorem pY {v:Value}{p:Prop}(h:one? v p):p/\(∀u,v≠ .agg u)/\(∀u,v≠ .tuple u):=by
 cases v<;>simp_all[one?]
theorem mB {p:Addr}{K:World->Prop}:∀(vs:List Value)(i:Nat)(w:World),pN p i vs w K->∃w',(storeCells p vs i).run P w=.ok () w'/\K w'
 | [],i,w,h=>⟨w,rfl,h⟩
 | v::r,i,w,h=>by
  obtain⟨⟨⟨u,hu⟩,b,h⟩,d,f⟩:=pY h;obtain⟨w',j,m⟩:=mB r (i+1) _ h;refine⟨w',?_,m⟩;have hs:(store (p.add i) v).run P w=.ok () (w.setCell (p.add i) v):=by
   unfold store;cases v<;>first|exact absurd rfl (d _)|exact absurd rfl (f _)|simp[Sem.run,hu,b]
  simp[storeCells,hs,j]
theorem uX(w:World)(q p:Addr)(v:Value):(w.setCell q v).frozen? p=w.frozen? p:=by
 unfold World.frozen? World.setCell;simp only[Array.getElem?_modify];by_cases h:q.block=p.block
 ·simp only[h,if_true];cases hw:w.heap[p.block]? with
  |none=>rfl
  |some o=>cases o<;>rfl
 ·simp only[h,if_false]
theorem qt {w:World}{p:Addr}{u:Value}(q:Addr)(v:Value)(h:w.cell? p=some u):∃b,(w.setCell q v).cell? p=some b:=by
 unfold World.cell? World.setCell at *;simp only[Array.getElem?_modify];by_cases hb:q.block=p.block
 ·simp only[hb,if_true];cases hw:w.heap[p.block]? with
  |none=>rw[hw]at h;cases h
  | some o=>
   rw[hw]at h;cases o<;>simp only[reduceCtorEq]at h
   rename_i c e f;simp only[Option.map_some];cases hs:p.spot.isSome
   ·simp only[hs,Bool.false_eq_true,if_false]at h ⊢;have d:=(Array.getElem?_eq_some_iff.1 h).1;cases q.spot.isSome
    ·simp only[Bool.false_eq_true,if_false];exact⟨_,Array.getElem?_eq_getElem (by simpa using d)⟩
    ·simp only[if_true];exact⟨_,h⟩
   ·simp only[hs,if_true,reduceCtorEq]at h
 ·simp only[hb,if_false];exact⟨u,h⟩
theorem pL {p:Addr}{K:World->Prop}:∀(vs:List Value)(i:Nat)(w:World),(∀j,j<vs.length->(∃u,w.cell? (p.add (i+j))=some u)/\w.frozen? (p.add (i+j))=false)->(∀v∈vs,one? v True)->
 K (setRow p i vs w)->pN p i vs w K
 | [],i,w,_,_,b=>b
 | v::r,i,w,h,d,b=>by
  have s:=pL r (i+1) (w.setCell (p.add i) v) (λj y=>by
   obtain⟨⟨u,hu⟩,f⟩:=h (j+1) (by simp;omega);rw[show i+(j+1)=i+1+j by omega]at hu f;exact⟨qt _ _ hu,by rw[uX];exact f⟩) (λx t=>d x (List.mem_cons_of_mem _ t)) b
  have m:=h 0 (by simp);have q:=(pY (d v (List.mem_cons_self ..))).2;simp only[pN];cases v<;>first|exact absurd rfl (q.1 _)|exact absurd rfl (q.2 _)|exact⟨m.1,m.2,s⟩
theorem aY(g o n:Nat):Addr.add ⟨g,o,none⟩ n=⟨g,o+n,none⟩:=by
 unfold Addr.add;split
 ·rename_i h;rw[h,Nat.add_zero]
 ·rfl
theorem jO:∀(vs:List Value)(cs:Array Value)(o:Nat),(setAt cs o vs).size=cs.size
 | [],cs,o=>rfl
 |v::r,cs,o=>by rw[setAt,jO r];simp
theorem Blk.set {w:World}{g:Nat}{cs:Array Value}{T:TypeId}(h:Blk w g cs T)(o:Nat)(v:Value):cp w g (cs.setIfInBounds o v) T (w.setCell ⟨g,o,none⟩ v):=by
 refine⟨?_,⟨rfl,rfl,rfl,by simp[World.setCell],λk b=>?_⟩,by simp[World.setCell]⟩
 ·unfold Blk at *;simp[World.setCell,Array.getElem?_modify,h]
 ·simp only[World.setCell,Array.getElem?_modify];rw[if_neg (λe=>b e.symm)]
theorem cp.trans {w w2 w3:World}{g:Nat}{cs cs':Array Value}{T T':TypeId}(h:cp w g cs T w2)(k:cp w2 g cs' T' w3):cp w g cs' T' w3:=
 ⟨k.blk,h.kept.trans k.kept,k.size.trans h.size⟩
theorem oh(g o:Nat)(T:TypeId):∀(vs:List Value)(i:Nat)(w:World)(cs:Array Value),Blk w g cs T->cp w g (setAt cs (o+i) vs) T (setRow ⟨g,o,none⟩ i vs w)
 | [],i,w,cs,h=>⟨h,Kept.refl _ _,rfl⟩
 | v::r,i,w,cs,h=>by
  have b:=h.set (o+i) v;have d:=oh g o T r (i+1) (w.setCell ⟨g,o+i,none⟩ v) _ b.blk;simp only[setRow,setAt,aY];exact b.trans d
theorem fG:∀ {vs:List Value}{F:Prop},n8 vs F->F/\∀v∈vs,one? v True
 | [],F,h=>⟨h,by simp⟩
 | v::r,F,h=>by
  have b:=pY h;obtain⟨d,f⟩:=fG b.1;refine⟨d,λu hu=>?_⟩;rcases List.mem_cons.1 hu with rfl|hu
  ·cases u<;>first|exact absurd rfl (b.2.1 _)|exact absurd rfl (b.2.2 _)|exact trivial
  ·exact f u hu
theorem uq {p:Addr}{vs:List Value}{K:World->Prop}(b:∀v∈vs,one? v True)(h:aB w p vs K):∃w',(storeCells p vs 0).run P w=.ok () w'/\K w':=by
 obtain⟨g,o,cs,T,rfl,hb,hs,d⟩:=h;refine mB (P:=P) _ _ _ (pL _ _ _ (λj f=>?_) b (d _ (by simpa using oh g o T vs 0 w cs hb)));rw[Nat.zero_add,aY];unfold Blk at hb;refine⟨?_,by simp[World.frozen?,hb]⟩;unfold World.cell?;simp only[hb];exact⟨_,Array.getElem?_eq_getElem (by omega)⟩
theorem qY {B:Option (Nat->Prop)}(H:∀v,ρ (.const v)=v)(h:so P B o ρ w F els):(∃v,F v/\∀w',Kept (held B w) w w'->(execOp ρ o).run P w'=.ok (.value v) w')\/els:=by
 obtain⟨dst,op,type,pos,after,guard⟩:=o;cases op
 all_goals first|exact .inr h|(simp only[so]at h)
 case move=>exact .inl ⟨_,h,λ_ _=>rfl⟩
 case assign=>exact .inl ⟨_,h,λ_ _=>rfl⟩
 case pick x y z=>
  split at h
  ·rename_i t D;rcases gK h with⟨rfl,h⟩|⟨rfl,h⟩
   ·exact .inl ⟨_,h,λ_ _=>by simp[execOp,D,asBool]⟩
   ·exact .inl ⟨_,h,λ_ _=>by simp[execOp,D,asBool]⟩
  ·exact h.elim
 case load t x=>
  split at h
  ·rename_i a q;split at h
   ·rename_i s hs E;simp only[Bool.and_eq_true]at E;obtain⟨p,rfl,h⟩:=dq h;obtain⟨I,h⟩:=Iw h;obtain⟨v,J,j⟩:=Sh2.lM h;refine .inl ⟨v,j,λw' hb=>?_⟩;have:=mC (P:=P) E.1.1 E.1.2 E.2 (yT (λb K=>I b K) hb J);simp[execOp,q,this]
   ·exact h.elim
  ·exact h.elim
 case nilCheck x=>
  split at h
  ·rename_i a q;obtain⟨p,rfl,h⟩:=dq h;exact .inl ⟨_,h,λ_ _=>by simp[execOp,q]⟩
  ·exact .inr h
 case fieldAddr s x f=>
  obtain⟨v,j,m⟩:=u7 h;exact .inl ⟨v,j,λw' _=>by simp[execOp,m w']⟩
 case indexAddr t x i=>
  obtain⟨v,j,m⟩:=k8 h;exact .inl ⟨v,j,λw' _=>by simp[execOp,m w']⟩
 case index t x i=>
  obtain⟨v,j,m⟩:=De h;exact .inl ⟨v,j,λw' _=>by simp[execOp,m w']⟩
 case binOp op t x y O=>
  rcases J0 H (X:=x) h with⟨v,j,m⟩|h
  ·exact .inl ⟨v,j,λw' _=>by simp only[execOp];rw[Sem.run_bind,m w'];rfl⟩
  ·exact .inr h
 case unOp op t x=>
  obtain⟨v,j,m⟩:=Lb (P:=P) h;exact .inl ⟨v,j,λw' _=>by simp[execOp,m w']⟩
 case convert s d x=>
  rcases GQ h with⟨v,j,m⟩|h
  ·exact .inl ⟨v,j,λw' _=>by simp[execOp,m w']⟩
  ·exact .inr h
 case slice t x lo hi mx=>
  rcases oK h with⟨v,j,m⟩|h
  ·exact .inl ⟨v,j,λw' _=>by simp[execOp,m w']⟩
  ·exact .inr h
 case sliceToArrayPointer arr x=>
  split at h
  ·rename_i n e a len cap hu u;obtain⟨hle,h⟩:=h;refine .inl ⟨_,h,λw' _=>?_⟩;have:¬len<n:=by omega
   simp[execOp,Instr.arrayAt,run_underlying hu,u,this]
  ·exact .inr h
 case call c=>
  obtain⟨R,args,L⟩:=c;simp only at h;split at h
  ·rename_i x t q D;obtain rfl:args= #[x]:=by rw[<-q]
   obtain rfl:L= #[t]:=by rw[<-D]
   split at h
   ·rename_i e hu;split at h
    ·rename_i a n k u;exact .inl ⟨_,h,λw' _=>by simp[execOp,resolve,invoke,builtin,Builtin.len_,run_underlying hu,u,goInt]⟩
    ·exact .inr h
   ·rename_i hu;split at h
    ·rename_i s u;exact .inl ⟨_,h,λw' _=>by simp[execOp,resolve,invoke,builtin,Builtin.len_,run_underlying hu,u,goInt]⟩
    ·exact .inr h
   ·exact .inr h
  ·rename_i x y q;obtain rfl:args= #[x,y]:=by rw[<-q]
   split at h
   ·rename_i k a M b u G;exact .inl ⟨_,h,λw' _=>by simp[execOp,resolve,invoke,builtin,Builtin.min_,Builtin.min2,u,G]⟩
   ·exact .inr h
  ·rename_i x y q;obtain rfl:args= #[x,y]:=by rw[<-q]
   split at h
   ·rename_i k a M b u G;exact .inl ⟨_,h,λw' _=>by simp[execOp,resolve,invoke,builtin,Builtin.max_,Builtin.max2,u,G]⟩
   ·exact .inr h
  ·exact .inr h
 all_goals
  rcases Ar h with⟨v,j,m⟩|h
  ·exact .inl ⟨v,j,λw' _=>m w'⟩
  ·exact .inr h
theorem Il {s:Sem Next}{K:aV}(h:runM P s w K):∃v w',s.run P w=.ok (.value v) w'/\K v w':=by
 unfold runM at h;split at h
 ·rename_i v w' b;exact⟨v,w',b,h⟩
 ·exact h.elim
def eO(P:Program)(C:List Nat):Bool:=C.all (bE P)
theorem dL {C:List Nat}{f:FuncId}(d:eO P C=true)(h:C.elem f=true)(args:Array Value)(w:World):(callFunc f args).run P w=.ok (.enter f args) w:=by
 have b:bE P f=true:=by
  unfold eO at d;exact List.all_eq_true.1 d f (List.elem_iff.1 h)
 unfold bE at b;split at b
 ·rename_i fn j;simp only[Bool.and_eq_true,Bool.not_eq_true']at b;obtain⟨hb,i⟩:=b;have m:¬fn.body=none:=by intro e;rw[e]at hb;cases hb
  have p:¬fn.name= "runtime.NumGoroutine" :=by intro e;rw[e]at i;simp at i
  simp[callFunc,j,p,m,program,Sem.run]
 ·cases b
theorem mm {s:Sem Value}(h:wu o ρ=some s)(w:World){v:Value}{w':World}(d:s.run P w=.ok v w'):(execOp ρ o).run P w=.ok (.value v) w':=by
 obtain⟨dst,op,type,pos,after,guard⟩:=o;have key:execOp ρ ⟨dst,op,type,pos,after,guard⟩=(do pure (.value (<-s)))->(execOp ρ ⟨dst,op,type,pos,after,guard⟩).run P w=.ok (.value v) w':=by
  intro e;rw[e,Sem.run_bind,d];rfl
 cases op
 case call c=>
  obtain⟨f,args,i⟩:=c;cases f with
  |builtin b=>cases b<;>simp only[wu,Option.some.injEq,reduceCtorEq]at h<;>(subst h;exact key rfl)
  |_=>simp[wu]at h
 all_goals first|(simp only[wu,reduceCtorEq]at h;done)|(simp only[wu,Option.some.injEq]at h;subst h;exact key rfl)
theorem Gc {K:aV}(h:uz P o ρ w K):∃v w',(execOp ρ o).run P w=.ok (.value v) w'/\K v w':=by
 unfold uz at h;split at h
 ·rename_i s hs;obtain⟨v,w',b,d⟩:=tC h;exact⟨v,w',mm hs w b,d⟩
 ·obtain⟨v,w',b,d⟩:=tC h;exact⟨v,w',b,d⟩
theorem Lu {C:List Nat}{Y:Bool}{K:aV}{Qp:Option (List PanicEntry->World->Prop)}(J:eO P C=true)(L:∀v,ρ (.const v)=v)(h:opM P C Y o ρ w K Qp):Out P Y K (QpP Qp) ((execOp ρ o).run P w):=by
 unfold opM at h;have R:=qY L h;clear h;rcases R with⟨v,V,d⟩|h
 ·rw[d w (Kept.refl _ _)];exact V
 ·clear L;have gen:uz P o ρ w K->Out P Y K (QpP Qp) ((execOp ρ o).run P w):=by
   intro h;obtain⟨v,w',d,j⟩:=Gc h;rw[d];exact j
  have M:runM P (execOp ρ o) w (sx K)->Out P Y K (QpP Qp) ((execOp ρ o).run P w):=by
   intro h;obtain⟨v,w',d,j⟩:=Il h;rw[d];exact rj j
  have ab:(∃w',(execOp ρ o).run P w=.ok .skip w'/\K undef w')->Out P Y K (QpP Qp) ((execOp ρ o).run P w):=by
   rintro⟨w',d,j⟩;rw[d];exact j
  obtain⟨dst,op,type,pos,after,guard⟩:=o;cases op
  all_goals first|exact gen h|exact M h|(simp only at h;done)|skip
  case range t x=>
   rcases CN (P:=P) h with⟨v,w',d,j⟩|h
   ·have:(execOp ρ {dst:=dst,op:=.range t x,type:=type,pos:=pos,after:=after,guard:=guard}).run P w=.ok (.value v) w':=by
     simp only[execOp];rw[Sem.run_bind,d];rfl
    rw[this];exact j
   ·exact gen h
  case next it b=>
   rcases Gs (P:=P) (t:=type) h with⟨v,w',d,j⟩|h
   ·have:(execOp ρ {dst:=dst,op:=.next it b,type:=type,pos:=pos,after:=after,guard:=guard}).run P w=.ok (.value v) w':=by
     simp only[execOp];rw[Sem.run_bind,d];rfl
    rw[this];exact j
   ·exact gen h
  case mapUpdate t m k x=>
   obtain⟨w',d,j⟩:=h;have:(execOp ρ {dst:=dst,op:=.mapUpdate t m k x,type:=type,pos:=pos,after:=after,guard:=guard}).run P w=.ok .skip w':=by
    simp only[execOp];rw[Sem.run_bind,d];rfl
   rw[this];exact j
  case insert t m k x=>
   obtain⟨w',d,j⟩:=h;have:(execOp ρ {dst:=dst,op:=.insert t m k x,type:=type,pos:=pos,after:=after,guard:=guard}).run P w=.ok .skip w':=by
    simp only[execOp];rw[Sem.run_bind,d];rfl
   rw[this];exact j
  case buildSlice t n parts=>
   dsimp only at h;split at h
   ·rename_i e x he hp;obtain⟨q,j⟩:=h;have W:parts= #[(0,x)]:=by apply Array.ext';exact hp
    subst W;have d:(execOp ρ {dst:=dst,op:=.buildSlice t 1 #[(0,x)],type:=type,pos:=pos,after:=after,guard:=guard}).run P w=.ok (.value (.slice (some ⟨w.heap.size,0,none⟩) 1 1)) (w.alloc (.cells #[ρ x] e)):=by
     have:=GC he q w;simp only[execOp];rw[Sem.run_bind];have e1:(#[(0,x)]:Array (Nat×Operand)).map (fun(i,x)=>(i,ρ x))= #[(0,ρ x)]:=by simp
     rw[e1,this];rfl
    rw[d];exact rj j
   ·exact M h
  case store t x y=>
   simp only at h;split at h
   ·rename_i a O;split at h
    ·rename_i n Tf;split at h
     ·rename_i cs s z;simp only[Bool.and_eq_true]at s;obtain⟨D,E,hs⟩:=eB s.1;obtain⟨p,rfl,h⟩:=dq h;obtain⟨w',d,j⟩:=uq (P:=P) h.2.1 h.2.2;have G:cs.size=D.size:=by rw[<-hs,<-Nat.eq_of_beq_eq_true s.2];exact h.1
      have:(execOp ρ {dst:=dst,op:=.store t x y,type:=type,pos:=pos,after:=after,guard:=guard}).run P w=.ok .skip w':=by
       simp[execOp,O,z,Value.cells,Instr.storeAt,Instr.sureAddr,storeVar,sizeOf,typeInfo,E,G,d]
      rw[this];exact j
     ·exact h.elim
    split at h
    ·rename_i s;simp only[Bool.and_eq_true]at s;obtain⟨D,E,hs⟩:=eB s.2;obtain⟨p,rfl,h⟩:=dq h;obtain⟨h,q⟩:=fG h;obtain⟨w',d,j⟩:=uq (P:=P) q h;have G:(ρ y).cells.size=D.size:=by rw[<-hs,<-Nat.eq_of_beq_eq_true s.1];simp
     have:(execOp ρ {dst:=dst,op:=.store t x y,type:=type,pos:=pos,after:=after,guard:=guard}).run P w=.ok .skip w':=by
      simp[execOp,O,Instr.storeAt,Instr.sureAddr,storeVar,sizeOf,typeInfo,E,G,d]
     rw[this];exact j
    ·exact h.elim
   ·exact h.elim
  case call c=>
   obtain⟨ae,args,H⟩:=c;simp only at h;split at h
   ·exact gen h
   ·rename_i f;unfold Bq at h;split at h
    ·rename_i fn first cap I
     split at h
     ·rename_i he;have q:=dL (P:=P) J he (first++args.map ρ++cap) w;have:(execOp ρ {dst:=dst,op:=.call {callee:=.value f,args:=args,argTypes:=H},type:=type,pos:=pos,after:=after,guard:=guard}).run P w=.ok (.enter fn (first++args.map ρ++cap)) w:=by
       simp only[execOp,resolve,I,Deferred.ofValue];rw[Sem.run_bind];exact q
      rw[this];exact Calls.mono h λe w' he=>rB he
     ·exact h.elim
    ·rename_i l first _ I
     cases Y with
     |false=>exact h.elim
     | true=>
      obtain⟨fn,tmps,assign,body,z,XR⟩:=h;have:(execOp ρ {dst:=dst,op:=.call {callee:=.value f,args:=args,argTypes:=H},type:=type,pos:=pos,after:=after,guard:=guard}).run P w=.ok (.round l fn tmps assign body) w:=by
       simp only[execOp,resolve,I,Deferred.ofValue];rw[Sem.run_bind];exact z
      rw[this];exact⟨rfl,XR.mono λe w' he=>rB he⟩
    ·exact h.elim
   ·rename_i x name;obtain⟨t,u,f',hx,hm,he,h⟩:=h;have q:=dL (P:=P) J he (#[u]++args.map ρ) w;have aa:(#[ρ x]++args.map ρ).extract 1 (#[ρ x]++args.map ρ).size=args.map ρ:=by
     apply Array.ext';simp;exact List.take_of_length_le (by simp)
    have d:(execOp ρ {dst:=dst,op:=.call {callee:=.invoke x name,args:=args,argTypes:=H},type:=type,pos:=pos,after:=after,guard:=guard}).run P w=.ok (.enter f' (#[u]++args.map ρ)) w:=by
     simp only[execOp,resolve];rw[Sem.run_bind];show(invoke (.fn (.method name) #[]) (#[ρ x]++args.map ρ)).run P w=_;have e0:(#[ρ x]++args.map ρ)[0]? =some (.iface t u):=by rw[hx,Array.getElem?_append_left (by simp)];rfl
     simp only[invoke,e0,aa];simp only[callMethod];rw[Sem.run_bind];have hp:(program:Sem Program).run P w=.ok P w:=rfl;rw[hp];change Sem.run P (method (P.types.size+Made.depth) t u name>>=λp=>callFunc p.1 (#[p.2]++Array.map ρ args)) w=_;rw[Sem.run_bind,xz hm];exact q
    rw[d];exact Calls.mono h λe w' he=>rB he
end
attribute [irreducible] split aF nz eh one?
end
section
def jl(ops:Array Oper)(o:Oper)(fr:Fr)(yes no:Fr->Prop):Prop:=
 match o.guard with
 |none=>yes fr
 | some (j,want)=>match (ops[j]?).bind (·.dst)with
  | some d=>match lk fr.g d fr.e with
   | .bool b=>split b
    (match want with
     |true=>yes ⟨(d,.bool true)::fr.e,fr.g,fr.ds⟩
     |false=>no ⟨(d,.bool true)::fr.e,fr.g,fr.ds⟩)
    (match want with
     |true=>no ⟨(d,.bool false)::fr.e,fr.g,fr.ds⟩
     |false=>yes ⟨(d,.bool false)::fr.e,fr.g,fr.ds⟩)
   |.tuple _=>no fr
   |_=>False
  |none=>False
abbrev OpT:=Oper->(Operand->Value)->World->aV->Prop
def HQ(M:OpT)(n:Nat)(N:List Nat)(ops:Array Oper)(K:Fr->World->Prop):List Oper->Fr->World->Prop
 | [],fr,w=>K fr w
 | o::rest,fr,w=>jl ops o fr
  (λfr=>M o (ev fr) w (λv w'=>kq n N fr o.dst v λb=>HQ M n N ops K rest b w'))
  (λfr=>kq n N fr o.dst undef λb=>HQ M n N ops K rest b w)
abbrev vcL(P:Program)(C:List Nat)(n:Nat)(N:List Nat)(ops:Array Oper)(Qp:Option (List PanicEntry->World->Prop))(K:Fr->World->Prop):List Oper->Fr->World->Prop:=
 HQ (λo ρ w K=>opM P C true o ρ w K Qp) n N ops K
section
variable {P:Program}{C:List Nat}{n:Nat}{N:List Nat}{r:Option Nat}{ops:Array Oper}{fr:Fr}{a:Act}{w:World}
theorem EU {d:Nat}{v:Value}(b:Rep n fr a)(h:lk fr.g d fr.e=v):Rep n ⟨(d,v)::fr.e,fr.g,fr.ds⟩ a:=by
 refine⟨b.size,λi=>?_,b.defers⟩;simp only[lk];split
 ·rename_i hi;obtain rfl:i=d:=Nat.eq_of_beq_eq_true hi;rw[b.get,h]
 ·exact b.get i
theorem lK {o:Oper}{yes no:Fr->Prop}(i:Rep n fr a)(h:jl ops o fr yes no):
 ∃p,Rep n p a/\((Region.wanted o (yielded ops a.tmps)=true/\yes p)\/(Region.wanted o (yielded ops a.tmps)=false/\no p)):=by
 unfold jl at h;unfold Region.wanted;split at h
 ·rename_i q;exact⟨fr,i,.inl ⟨by rw[q],h⟩⟩
 ·rename_i j want q;rw[q];split at h
  ·rename_i d hd;split at h
   ·rename_i b hb;have s:yielded ops a.tmps j=some b:=by
     unfold yielded;rw[hd];have f:a.tmps.getD d undef=.bool b:=by rw[i.get,hb]
     have:a.tmps[d]? =some (.bool b):=by
      rw[Array.getD_eq_getD_getElem?]at f;cases he:a.tmps[d]? with
      |none=>rw[he]at f;simp[undef]at f
      |some u=>rw[he]at f;simp at f;rw[f]
     simp[this]
    simp only[s];rcases gK h with⟨rfl,m⟩|⟨rfl,m⟩
    ·refine⟨_,EU i hb,?_⟩;cases want
     ·exact .inr ⟨rfl,m⟩
     ·exact .inl ⟨rfl,m⟩
    ·refine⟨_,EU i hb,?_⟩;cases want
     ·exact .inl ⟨rfl,m⟩
     ·exact .inr ⟨rfl,m⟩
   ·rename_i us hb;have s:yielded ops a.tmps j=none:=by
     unfold yielded;rw[hd];have f:a.tmps.getD d undef=.tuple us:=by rw[i.get,hb]
     rw[Array.getD_eq_getD_getElem?]at f;cases he:a.tmps[d]? with
     |none=>simp[he]
     |some u=>rw[he]at f;simp at f;rw[f]at he;simp[he]
    exact⟨fr,i,.inr ⟨by simp[s],h⟩⟩
   ·exact h.elim
  ·exact h.elim
abbrev QF:=Exit->Fr->World->Prop
def Real(n:Nat)(ws:List Nat)(a0:Act)(Qp:Option (List PanicEntry->World->Prop))(Q:QF):Exit->Act->World->Prop
 |.panic ch,a,w=>QpP Qp ch w/\Agr ws a0 a
 |.outgrown,_,_=>False
 |x,a,w=>∃fr,Rep n fr a/\Q x fr w/\Agr ws a0 a
theorem Rep.Be(fr:Fr)(v:Value):ev fr (.const v)=v:=rfl
def WF(r:Option Nat):Fence:= {Fence.wide with round:=r}
theorem vC {P:Program}{f:FuncId}{args:Array Value}{w:World}{R:Ending->World->Prop}(h:Calls P f args w R):CallsIn (WF r) 0 P f args w R:=
 (callsIn_wide (n:=0)).2 h
theorem Mz {P:Program}{row:String}{args:Array Value}{w:World}{R:Value->World->Prop}(h:Rows P row args w R):RowsIn (WF r) 0 P row args w R:=λc cs _=>
 let ⟨v,w',b,hs⟩:=h c cs
 ⟨v,w',b,stepsIn_wide.2 hs⟩
def gO(o:Oper):Bool:=
 match o.op with
 |.defer _=>false
 |_=>true
theorem om {o:Oper}(h:gO o=true):∀c,o.op≠ .defer c:=by
 intro c b;unfold gO at h;rw[b]at h;cases h
theorem Aw {Y:Bool}{o:Oper}{ρ:Operand->Value}{K:aV}{Qp:Option (List PanicEntry->World->Prop)}(h:opM P C Y o ρ w K Qp):gO o=true:=by
 obtain⟨dst,op,type,pos,after,guard⟩:=o;cases op<;>first|rfl|exact h.elim
def opW(P:Program)(Y:Bool)(Qp:Option (List PanicEntry->World->Prop))(o:Oper)(ρ:Operand->Value)(w:World)(K:aV):Prop:=gO o=true/\Out P Y K (QpP Qp) ((execOp ρ o).run P w)
theorem E5 {Y:Bool}{o:Oper}{K:aV}{Qp:Option (List PanicEntry->World->Prop)}(b:eO P C=true)(h:opM P C Y o (ev fr) w K Qp):opW P Y Qp o (ev fr) w K:=
 ⟨Aw h,Lu b (Rep.Be fr) h⟩
theorem PU {o:Oper}{K:Fr->World->Prop}{next:Act->World->Prop}{Q:Exit->Act->World->Prop}{Qp:Option (List PanicEntry->World->Prop)}{ws:List Nat}{a0:Act}(m:Rep n fr a)(p:Agr ws a0 a)
 (hd:∀d,o.dst=some d->d∈ws)
 (h:opW P false Qp o (ev fr) w (λv w'=>kq n N fr o.dst v λi=>K i w'))
 (q:∀i a' w',Rep n i a'->Agr ws a0 a'->K i w'->next a' w')(hp:∀ch w',QpP Qp ch w'->Q (.panic ch) a w'):o.wp P a w next Q:=by
 have b:=h.2;rw[<-m.eval]at b;unfold Oper.wp;have key:∀v w',(kq n N fr o.dst v λi=>K i w')->next (a.put o.dst v) w':=by
  intro v w' j;obtain⟨i,s,t⟩:=iU m j;exact q _ _ _ s (p.trans (Agr.put a o.dst v hd)) t
 generalize (execOp a.eval o).run P w=r at b;cases r with
 | ok nx w'=>
  cases nx<;>simp only[Out,Bool.false_eq_true,false_and]at b<;>simp only[Oper.upon]
  case value v=>exact key _ _ b
  case skip=>exact key _ _ b
  case enter f args=>
   refine b.mono λe u he=>?_;rcases he with⟨v,rfl,j⟩|⟨ch,rfl,j⟩
   ·exact key _ _ j
   ·exact hp _ _ j
 | halt x w'=>
  cases x<;>simp only[Out]at b<;>simp only[Oper.upon]
  exact hp _ _ b
theorem EZ {o:Oper}{K:Fr->World->Prop}{next:Act->World->Prop}{Q:Exit->Act->World->Prop}{Qp:Option (List PanicEntry->World->Prop)}{ws:List Nat}{a0:Act}(m:Rep n fr a)(q:Agr ws a0 a)
 (hd:∀d,o.dst=some d->d∈ws)
 (h:opW P true Qp o (ev fr) w (λv w'=>kq n N fr o.dst v λj=>K j w'))
 (s:∀j a' w',Rep n j a'->Agr ws a0 a'->K j w'->next a' w')(hp:∀ch w',QpP Qp ch w'->Q (.panic ch) a w'):o.wpIn (WF r) 0 P a w next Q:=by
 have t:=h.1;have b:=h.2;rw[<-m.eval]at b;have key:∀v w',(kq n N fr o.dst v λj=>K j w')->next (a.put o.dst v) w':=by
  intro v w' i;obtain⟨j,u,y⟩:=iU m i;exact s _ _ _ u (q.trans (Agr.put a o.dst v hd)) y
 refine⟨λ_ _=>trivial,?_⟩;rw[Oper.semAt_eq _ _ _ (om t)];have p:((WF r).depth.isSome=true->1<=0):=by intro h;cases h
 generalize (execOp a.eval o).run P w=z at b;cases z with
 | ok nx w'=>
  cases nx<;>simp only[Out]at b<;>simp only[Oper.uponIn]
  case value v=>exact key _ _ b
  case skip=>exact key _ _ b
  case enter f args=>
   refine⟨p,vC (b.mono λe D he=>?_)⟩;rcases he with⟨v,rfl,i⟩|⟨ch,rfl,i⟩
   ·exact key _ _ i
   ·exact hp _ _ i
  case round l f tmps assign body=>
   refine⟨p,?_⟩;refine RoundIn.mono (F:=WF r) (show RoundIn (WF r) 0 P l f tmps assign body w' _ from b.2) λe D he=>?_;rcases he with⟨v,rfl,i⟩|⟨ch,rfl,i⟩
   ·exact key _ _ i
   ·exact hp _ _ i
 | halt x w'=>
  cases x<;>simp only[Out]at b<;>simp only[Oper.uponIn]
  exact hp _ _ b
theorem lS {o:Oper}{ρ:Operand->Value}:∀f,o.about P w ρ=some f->(WF r).fn f:=λ_ _=>trivial
theorem oD {Qp:Option (List PanicEntry->World->Prop)}{M:OpT}{K:Fr->World->Prop}{ws:List Nat}{a0:Act}(i:∀o fr w K,M o (ev fr) w K->opW P true Qp o (ev fr) w K):
 ∀(l:List Oper),(∀o∈l,∀d,o.dst=some d->d∈ws)->∀(fr:Fr)(a:Act)(w:World),Rep n fr a->Agr ws a0 a->HQ M n N ops K l fr w->
  wpListIn (WF r) 0 P ops (Real n ws a0 Qp (λx fr w=>match x with|.normal=>K fr w|_=>False)) l a w
 | [],_,fr,a,w,j,b,h=>⟨fr,j,h,b⟩
 | o::rest,hd,fr,a,w,j,b,h=>by
  obtain⟨u,y,f⟩:=lK j h;simp only[wpListIn];rcases f with⟨hw,f⟩|⟨hw,f⟩
  ·rw[if_pos hw];refine EZ (K:=λu w'=>HQ M n N ops K rest u w') y b (hd o (List.mem_cons_self ..)) (i _ _ _ _ f) ?_ ?_
   ·intro m z w2 p q D;exact oD i rest (λs t=>hd s (List.mem_cons_of_mem _ t)) m z w2 p q D
   ·intro ch w' hq;exact⟨hq,b⟩
  ·rw[if_neg (by rw[hw];simp)];obtain⟨m,p,q⟩:=iU y f;exact⟨lS,oD i rest (λs t=>hd s (List.mem_cons_of_mem _ t)) m _ w p (b.trans (Agr.put a o.dst undef (hd o (List.mem_cons_self ..)))) q⟩
theorem FU {Qp:Option (List PanicEntry->World->Prop)}{K:Fr->World->Prop}{ws:List Nat}{a0:Act}(b:eO P C=true)
 (l:List Oper)(hd:∀o∈l,∀d,o.dst=some d->d∈ws)(fr:Fr)(a:Act)(w:World)(f:Rep n fr a)(i:Agr ws a0 a)(h:vcL P C n N ops Qp K l fr w):
  wpListIn (WF r) 0 P ops (Real n ws a0 Qp (λx fr w=>match x with|.normal=>K fr w|_=>False)) l a w:=
 oD (λ_ _ _ _ h=>E5 b h) l hd fr a w f i h
theorem fC {Q:Exit->Act->World->Prop}(b:¬LetsOut Q)(j:∀o∈ops,gO o=true):∀(l:List Nat)(a:Act)(w:World),wpOps P ops Q l a w->wpOpsIn (WF r) 0 P ops Q l a w
 | [],_,_,h=>h
 | i::rest,a,w,h=>by
  simp only[wpOps]at h;simp only[wpOpsIn];cases m:ops[i]? with
  | none=>
   simp only[m]at h;exact fC b j rest a w h
  | some o=>
   simp only[m]at h;have q:o∈ops:=Array.mem_of_getElem? m;simp only;split
   ·rename_i hw;rw[if_pos hw]at h;rcases h with h|⟨_,h⟩
    ·refine⟨lS,?_⟩;rw[Oper.semAt_eq _ _ _ (om (j o q))];unfold Oper.wp at h;have p:((WF r).depth.isSome=true->1<=0):=by intro h;cases h
     generalize (execOp a.eval o).run P w=s at h;cases s with
     | ok nx w'=>
      cases nx<;>simp only[Oper.upon]at h<;>simp only[Oper.uponIn]
      case value v=>exact fC b j rest _ _ h
      case skip=>exact fC b j rest _ _ h
      case defer d=>exact fC b j rest _ _ h
      case enter f args=>
       refine⟨p,vC (h.mono λe t he=>?_)⟩;cases e with
       |returned v=>exact fC b j rest _ _ he
       |panicked ch=>exact he
       |outgrown=>exact he
      case row row args=>exact⟨p,Mz (h.mono λv t he=>fC b j rest _ _ he)⟩
     | halt x w'=>
      cases x<;>simp only[Oper.upon]at h<;>simp only[Oper.uponIn]
      exact h
    ·exact absurd h b
   ·rename_i hw;rw[if_neg hw]at h;exact⟨lS,fC b j rest _ _ h⟩
end
def xK(ops:Array Oper):Nat->Nat->Nat->Bool
 |0,_,_=>false
 | fuel+1,j,k=>match ops[j]? with
  |some o=>o.after.toList.any λe=>Region.binds .any e && (Nat.beq e.on k || xK ops fuel e.on k)
  |none=>false
def behind(ops:Array Oper)(listed:Array Bool)(j:Nat):List Nat:=
 (List.range ops.size).filter λi=>listed.getD i false && !(Nat.beq i j) && !(xK ops 3 j i)
def js(ops:Array Oper)(listed:Array Bool):Prop:=∀(k:Nat)(o:Oper),ops[k]? =some o->listed.getD k false=true->∀e∈o.after,Region.binds .any e=true->listed.getD e.on false=true
theorem xJ {ops:Array Oper}{listed:Array Bool}(b:js ops listed):∀(fuel j k:Nat),xK ops fuel j k=true->
 (∀o,ops[j]? =some o->∀e∈o.after,Region.binds .any e=true->listed.getD e.on false=true)->listed.getD k false=true
 |0,_,_,h,_=>by cases h
 | fuel+1,j,k,h,f=>by
  simp only[xK]at h;split at h
  ·rename_i o i;simp only[List.any_eq_true,Bool.and_eq_true,Bool.or_eq_true]at h;obtain⟨e,he,hb,h⟩:=h;have d:=f o i e (Array.mem_toList_iff.1 he) hb;rcases h with h|h
   ·rw[<-Nat.eq_of_beq_eq_true h];exact d
   ·exact xJ b fuel e.on k h λm p=>b e.on m p d
  ·cases h
theorem js.none(ops:Array Oper)(n:Nat):js ops (Array.replicate n false):=λk o _ h=>by
 rw[Array.getD_eq_getD_getElem?,Array.getElem?_replicate]at h;split at h<;>cases h
theorem js.set {ops:Array Oper}{listed:Array Bool}{j:Nat}(h:js ops listed)(i:j∈Region.ready .any ops listed):js ops (listed.setIfInBounds j true):=by
 intro k o b d e he hb;obtain⟨_,q,m,p⟩:=mem_ready.1 i;by_cases f:j=k
 ·subst f;rw[m]at b;injection b with b
  subst b;exact getD_set_true (p e he hb)
 ·rw[getD_set_ne false f]at d;exact getD_set_true (h k o b d e he hb)
section
variable {P:Program}{ops:Array Oper}{Q:Exit->Act->World->Prop}{S:World->Prop}
def jL(C:Nat->World->World->Prop)(i:Nat)(R:World->World->Prop):Nat->World->World->Prop:=
 λk=>if k=i then R else C k
theorem FZ(C:Nat->World->World->Prop){i j:Nat}(R b:World->World->Prop)(h:i≠j):jL (jL C i R) j b=jL (jL C j b) i R:=by
 funext k;unfold jL;by_cases d:k=i<;>by_cases f:k=j
 ·omega
 ·simp[d,h]
 ·simp[f,Ne.symm h]
 ·simp[d,f]
def fX(P:Program)(ops:Array Oper)(Q:Exit->Act->World->Prop):Nat->(Nat->World->World->Prop)->Array Bool->Act->World->Prop
 |0,_,listed,a,w=>Region.ready .any ops listed= []/\Q .normal a w
 | fuel+1,C,listed,a,w=>
  (Region.ready .any ops listed= []->Q .normal a w)/\∀j∈Region.ready .any ops listed,wpOp P ops Q j (λa' w'=>(∀i∈behind ops listed j,C i w w')/\fX P ops Q fuel (jL C j λ_ _=>True) (listed.setIfInBounds j true) a' w') a w
theorem tP:∀(fuel:Nat)(C:Nat->World->World->Prop)(listed:Array Bool)(a:Act)(w:World),fX P ops Q fuel C listed a w->wpAny P .any ops Q fuel listed a w
 |0,_,_,_,_,h=>h
 |fuel+1,_,_,_,_,h=>⟨h.1,λi hi=>wpOp_mono (λa' w' b=>tP fuel _ _ a' w' b.2) (h.2 i hi)⟩
theorem yq {i:Nat}{s:Oper}{v:Value}{R:World->World->Prop}(hR:∀x y z,R x y->R y z->R x z)(W:∀x,R x x)(hi:ops[i]? =some s)(aa:∀(j:Nat)(o:Oper) cs b,ops[j]? =some o->o.op≠ .select cs b)
 (hQ:∀c a w,Q (.panic c) (a.put s.dst v) w->Q (.panic c) a w):
 ∀(fuel:Nat)(C:Nat->World->World->Prop)(listed:Array Bool)(a:Act)(w:World),
  (∀k x,listed.getD k false=true->C k x x)->
  (∀j t,ops[j]? =some t->j≠i->listed.getD j true=false->(∀e∈t.after,Region.binds .any e=true->e.on≠i)->s.apart ops t=true)->
  js ops listed->i∈Region.ready .any ops listed->YieldsIf P ops (λx=>R w x) s v a->
  fX P ops Q fuel (jL C i R) (listed.setIfInBounds i true) (a.put s.dst v) w->fX P ops Q (fuel+1) C listed a w:=by
 have key:∀(fuel:Nat)(C:Nat->World->World->Prop)(listed:Array Bool)(a:Act)(w:World),(∀k x,listed.getD k false=true->C k x x)->i∈Region.ready .any ops listed->
  fX P ops Q fuel (jL C i R) (listed.setIfInBounds i true) a w->(∀k∈behind ops listed i,C k w w)/\fX P ops Q fuel (jL C i λ_ _=>True) (listed.setIfInBounds i true) a w:=by
  intro fuel C listed a w hrefl m H;refine⟨λk d=>?_,?_⟩
  ·unfold behind at d;simp only[List.mem_filter,Bool.and_eq_true]at d;exact hrefl k w d.2.1.1
  ·have az:∀(fuel:Nat)(C J:Nat->World->World->Prop)(listed:Array Bool)(a:Act)(w:World),(∀k x y,C k x y->J k x y)->fX P ops Q fuel C listed a w->fX P ops Q fuel J listed a w:=by
    intro fuel
    induction fuel with
    |zero=>intro C J listed a w _ h;exact h
    | succ fuel O=>
     intro C J listed a w hc h;refine⟨h.1,λj u=>wpOp_mono (λa' w' f=>⟨λk d=>hc k _ _ (f.1 k d),O _ _ _ a' w' (λk x y q=>?_) f.2⟩) (h.2 j u)⟩;unfold jL at q ⊢;split
     ·trivial
     ·rename_i I;rw[if_neg I]at q;exact hc k x y q
   refine az fuel _ _ _ a w (λk x y q=>?_) H;unfold jL at q ⊢;split
   ·trivial
   ·rename_i I;rw[if_neg I]at q;exact q
 intro fuel
 induction fuel with
 | zero=>
  intro C listed a w hrefl _ V m K H;refine⟨λh=>(by rw[h]at m;cases m),λj u=>?_⟩;by_cases p:j=i
  ·subst p;exact K.wpOp hi (W w) (key 0 C listed _ w hrefl m H)
  ·have:=ready_mono u p;rw[H.1]at this;cases this
 | succ fuel O=>
  intro C listed a w hrefl WD V m K H;refine⟨λh=>(by rw[h]at m;cases m),λj u=>?_⟩;by_cases p:j=i
  ·subst p;exact K.wpOp hi (W w) (key (fuel+1) C listed _ w hrefl m H)
  ·have D:=H.2 j (ready_mono u p);obtain⟨ab,t,L,SB⟩:=mem_ready.1 u;have E:=(mem_ready.1 m).1;have aA:∀e∈t.after,Region.binds .any e=true->e.on≠i:=λe he hb heq=>by
    have D:=SB e he hb;have h0:=E;rw[heq]at D;rcases Nat.lt_or_ge i listed.size with f|f
    ·simp[f]at h0 D;rw[h0]at D;cases D
    ·simp[Array.getElem?_eq_none f]at D
   have W4:xK ops 3 j i=false:=by
    cases hd:xK ops 3 j i with
    |false=>rfl
    | true=>
     have G:=xJ V 3 j i hd λo M=>by rw[L]at M;injection M with M;subst M;exact SB
     rcases Nat.lt_or_ge i listed.size with f|f
     ·simp[f]at E G;rw[E]at G;cases G
     ·simp[Array.getElem?_eq_none f]at G
   have ae:i<listed.size:=by
    rcases Nat.lt_or_ge i listed.size with f|f
    ·exact f
    ·simp[Array.getElem?_eq_none f]at E
   have Sk:i∈behind ops (listed.setIfInBounds i true) j:=by
    unfold behind;simp only[List.mem_filter,List.mem_range,Bool.and_eq_true,Bool.not_eq_true'];refine⟨(Array.getElem?_eq_some_iff.1 hi).1,⟨?_,?_⟩,W4⟩
    ·simp[ae]
    ·cases hb:Nat.beq i j with
     |false=>rfl
     |true=>exact absurd (Nat.eq_of_beq_eq_true hb).symm p
   have aC:∀k∈behind ops listed j,k∈behind ops (listed.setIfInBounds i true) j:=λk d=>by
    unfold behind at d ⊢;simp only[List.mem_filter,Bool.and_eq_true]at d ⊢;exact⟨d.1,⟨getD_set_true d.2.1.1,d.2.1.2⟩,d.2.2⟩
   have aN:∀k∈behind ops listed j,k≠i:=λk d e=>by
    unfold behind at d;simp only[List.mem_filter,Bool.and_eq_true]at d;subst e;have:=d.2.1.1;simp[ae]at E this;rw[E]at this;cases this
   have h2:=wpOp_putIf L (WD j t L p ab aA) (λcs b=>aa i s cs b hi) (λcs b=>aa j t cs b L) hQ K D;have a0:∀k ok,ops[k]? =some ok->k≠i->(listed.setIfInBounds j true).getD k true=false->
    (∀e∈ok.after,Region.binds .any e=true->e.on≠i)->s.apart ops ok=true:=λk ok d Z6 af a1=>by
    refine WD k ok d Z6 ?_ a1;by_cases ah:j=k
    ·subst ah;exact ab
    ·rw[getD_set_ne true ah]at af;exact af
   refine wpOp_mono (λa' w' G=>?_) h2;obtain⟨a2,an,XP⟩:=G;have a3:R w w':=by have:=an i Sk;unfold jL at this;rwa[if_pos rfl]at this
   refine⟨λk d=>?_,O (jL C j λ_ _=>True) (listed.setIfInBounds j true) a' w' (λk x d=>?_) a0 (V.set u) (ready_mono m (Ne.symm p)) ?_ ?_⟩
   ·have:=an k (aC k d);unfold jL at this
    rwa[if_neg (aN k d)]at this
   ·unfold jL;split
    ·trivial
    ·rename_i I;rw[getD_set_ne false (Ne.symm I)]at d;exact hrefl k x d
   ·exact a2.imp (fun⟨h5,h6⟩=>⟨h5,λx q=>h6 x (hR _ _ _ a3 q)⟩) id
   ·rw[FZ _ _ _ p,Array.setIfInBounds_comm _ _ p];exact XP
theorem rY {i:Nat}{b:Oper}{v:Value}{R:World->World->Prop}{fuel:Nat}{C:Nat->World->World->Prop}{listed:Array Bool}{a:Act}{w:World}(d:∀x y z,R x y->R y z->R x z)(f:∀x,R x x)(hrefl:∀k x,listed.getD k false=true->C k x x)(hi:ops[i]? =some b)
 (hs:Region.noSelect ops=true)(j:Region.free .any ops listed i=true)(m:js ops listed)(p:(Region.ready .any ops listed).contains i=true)
 (q:∀c a w,Q (.panic c) (a.put b.dst v) w->Q (.panic c) a w)(s:YieldsIf P ops (λx=>R w x) b v a)
 (h:fX P ops Q fuel (jL C i R) (listed.setIfInBounds i true) (a.put b.dst v) w):fX P ops Q (fuel+1) C listed a w:=
 yq d f hi (Region.noSelect_spec hs) q fuel C listed a w hrefl (Region.free_spec hi j) m (by simpa using p) s h
theorem Ct {rs:List Nat}{fuel:Nat}{C:Nat->World->World->Prop}{listed:Array Bool}{a:Act}{w:World}(b:Region.ready .any ops listed=rs)(d:rs≠ [])
 (h:∀j∈rs,wpOp P ops Q j (λa' w'=>(∀i∈behind ops listed j,C i w w')/\fX P ops Q fuel (jL C j λ_ _=>True) (listed.setIfInBounds j true) a' w') a w):fX P ops Q (fuel+1) C listed a w:=
 ⟨λf=>absurd (b▸f) d,b▸h⟩
theorem z4 {C:Nat->World->World->Prop}{listed:Array Bool}{a:Act}{w:World}(b:Region.ready .any ops listed= [])(h:Q .normal a w):
 ∀fuel,fX P ops Q fuel C listed a w
 |0=>⟨b,h⟩
 |_+1=>⟨λ_=>h,by rw[b];simp⟩
end
def ahead(P:Program)(o:Oper):Bool:=
 match o.op with
 |.move _|.assign _|.pick ..|.load ..|.nilCheck _|.fieldAddr ..|.indexAddr ..|.index ..|.binOp ..|.unOp ..|.slice ..|.build ..|.field ..|.extract ..|.makeInterface ..|.makeFunc ..|.sliceToArrayPointer .. =>true
 | .convert src dst _=>match P.underlying src,P.underlying dst with
  |some (.int _),some (.int _)=>true
  |some (.slice _),some .string=>true
  |_,_=>false
 | .call c=>match c.callee with
  |.builtin .len|.builtin .min|.builtin .max=>true
  |_=>false
 |_=>false
def opS(P:Program)(B:Option (Nat->Prop))(o:Oper)(ρ:Operand->Value)(w:World)(F:Value->Prop):Prop:=
 so P B o ρ w F<|
 match o.op with
 |.convert src dst x=>∃s:ByteArray,(∀w',Kept (held B w) w w'->(convert src dst (ρ x)).run P w'=.ok (.string s) w')/\F (.string s)
 |_=>False
def jV(P:Program)(ops:Array Oper)(listed:Array Bool):List Nat->Option Nat
 | []=>none
 | i::r=>match (match ops[i]? with|some o=>ahead P o && Region.free .any ops listed i|none=>false)with
  |true=>some i
  |false=>jV P ops listed r
def DA(F:Nat->Prop):List Nat->Prop
 | []=>True
 | [i]=>F i
 |i::r=>F i/\DA F r
theorem vm {F:Nat->Prop}:∀ {l:List Nat},DA F l->∀i∈l,F i
 | [],_,i,hi=>by cases hi
 | [j],h,i,hi=>by simp at hi;subst hi;exact h
 | j::k::r,h,i,hi=>by
  rcases List.mem_cons.1 hi with rfl|hi
  ·exact h.1
  ·exact vm h.2 i hi
def bY(b:Nat->Nat->Prop):List Nat->Nat->Prop
 | [],_=>False
 | [i],k=>b i k
 |i::r,k=>b i k\/bY b r k
def Fa(l:List Nat)(B:Option (Nat->Nat->Prop))(w w':World)(F:Option (Nat->Nat->Prop)->Prop):Prop:=
 match B with
 |none=>False
 | some b=>match l with
  | []=>∃b':Nat->Nat->Prop,(∀i k,b i k->b' i k)/\F (some b')
  |l=>Kept (bY b l) w w'/\∃b':Nat->Nat->Prop,(∀i k,b i k->b' i k)/\F (some b')
abbrev Pg:=Option (Nat->Prop)->Oper->(Operand->Value)->World->(Value->Prop)->Prop
def td(P:Program)(M:OpT)(MS:Pg)(n:Nat)(N:List Nat)(ops:Array Oper)(K:Fr->World->Prop):Nat->Option (Nat->Nat->Prop)->Array Bool->Fr->World->Prop
 | 0,_,listed,fr,w=>match Region.ready .any ops listed with
  | []=>K fr w
  |_=>False
 | fuel+1,B,listed,fr,w=>match Region.ready .any ops listed with
  | []=>K fr w
  | i0::r0=>match jV P ops listed (i0::r0)with
   | some i=>match ops[i]? with
    | some o=>jl ops o fr
     (λfr=>MS (B.map λb=>b i) o (ev fr) w λv=>kq n N fr o.dst v λd=>td P M MS n N ops K fuel B (listed.setIfInBounds i true) d w)
     (λfr=>kq n N fr o.dst undef λd=>td P M MS n N ops K fuel B (listed.setIfInBounds i true) d w)
    |none=>False
   | none=>DA (λi=>match ops[i]? with
    | some o=>jl ops o fr
     (λfr=>M o (ev fr) w (λv w'=>kq n N fr o.dst v λd=>Fa (behind ops listed i) B w w' λf=>td P M MS n N ops K fuel f (listed.setIfInBounds i true) d w'))
     (λfr=>kq n N fr o.dst undef λd=>td P M MS n N ops K fuel B (listed.setIfInBounds i true) d w)
    |none=>False) (i0::r0)
abbrev vcD(P:Program)(C:List Nat)(n:Nat)(N:List Nat)(ops:Array Oper)(Qp:Option (List PanicEntry->World->Prop))(K:Fr->World->Prop):Nat->Option (Nat->Nat->Prop)->Array Bool->Fr->World->Prop:=
 td P (λo ρ w K=>opM P C false o ρ w K Qp) (λB o ρ w F=>opS P B o ρ w F) n N ops K
section
variable {P:Program}{C:List Nat}{n:Nat}{N:List Nat}{r:Option Nat}{ops:Array Oper}
theorem mU {listed:Array Bool}{i:Nat}:∀ {l:List Nat},jV P ops listed l=some i->i∈l/\Region.free .any ops listed i=true
 | [],h=>by cases h
 | j::r,h=>by
  unfold jV at h;split at h
  ·rename_i b;injection h with h
   subst h;refine⟨List.mem_cons_self ..,?_⟩;split at b
   ·simp only[Bool.and_eq_true]at b;exact b.2
   ·cases b
  ·have:=mU h;exact⟨List.mem_cons_of_mem _ this.1,this.2⟩
theorem Lt {B:Option (Nat->Prop)}{o:Oper}{ρ:Operand->Value}{w:World}{F:Value->Prop}(b:∀v,ρ (.const v)=v)(h:opS P B o ρ w F):
 ∃v,F v/\∀w',Kept (held B w) w w'->(execOp ρ o).run P w'=.ok (.value v) w':=by
 unfold opS at h;have d:=qY b h;clear h;rcases d with h|h
 ·exact h
 ·split at h
  ·rename_i src dst x f;obtain⟨s,i,j⟩:=h;exact⟨_,j,λw' hb=>by unfold execOp;rw[f];simp[i w' hb]⟩
  ·exact h.elim
theorem BD {b:Nat->Nat->Prop}:∀ {l:List Nat}{i k:Nat},i∈l->b i k->bY b l k
 | [j],i,k,hi,h=>by simp at hi;subst hi;exact h
 | j::m::r,i,k,hi,h=>by
  rcases List.mem_cons.1 hi with rfl|hi
  ·exact .inl h
  ·exact .inr (BD hi h)
def oz(B:Option (Nat->Nat->Prop))(C:Nat->World->World->Prop)(listed:Array Bool):Prop:=
 match B with
 |none=>∀i,listed.getD i false=true->∀x y,Kept (λk=>k<x.heap.size) x y->C i x y
 |some b=>∀i,listed.getD i false=true->∀x y,Kept (b i) x y->C i x y
theorem oz.refl {B:Option (Nat->Nat->Prop)}{C:Nat->World->World->Prop}{listed:Array Bool}(h:oz B C listed):∀k x,listed.getD k false=true->C k x x:=by
 intro k x d;cases B with
 |none=>exact h k d x x (Kept.refl _ _)
 |some b=>exact h k d x x (Kept.refl _ _)
theorem oz.none(B:Option (Nat->Nat->Prop))(l:Array Bool):oz B (λ_ _ _=>True) l:=by
 cases B<;>exact λ_ _ _ _ _=>trivial
def Gf(B:Option (Nat->Prop))(x y:World):Prop:=
 match B with
 |none=>Kept (λk=>k<x.heap.size) x y
 |some b=>Kept b x y
theorem uB(B:Option (Nat->Prop))(x y z:World)(h:Gf B x y)(i:Gf B y z):Gf B x z:=by
 cases B with
 | none=>
  have d:Kept (λk=>k<x.heap.size) x y:=h;have f:Kept (λk=>k<y.heap.size) y z:=i;exact d.trans (f.mono λk j=>Nat.lt_of_lt_of_le j d.size)
 | some b=>
  have d:Kept b x y:=h;have f:Kept b y z:=i;exact d.trans f
theorem xq(B:Option (Nat->Prop))(x:World):Gf B x x:=by cases B<;>exact Kept.refl _ _
theorem Ge {B:Option (Nat->Prop)}{x y:World}(h:Gf B x y):Kept (held B x) x y:=by cases B<;>exact h
theorem tW {Qp:Option (List PanicEntry->World->Prop)}{M:OpT}{MS:Pg}{K:Fr->World->Prop}{ws:List Nat}{a0:Act}(hM:∀o fr w K,M o (ev fr) w K->opW P false Qp o (ev fr) w K)
 (af:∀B o fr w F,MS B o (ev fr) w F->∃v,F v/\∀w',Kept (held B w) w w'->(execOp (ev fr) o).run P w'=.ok (.value v) w')(hs:Region.noSelect ops=true)
 (hd:∀(i:Nat)(o:Oper),ops[i]? =some o->∀d,o.dst=some d->d∈ws):
 ∀(fuel:Nat)(B:Option (Nat->Nat->Prop))(G:Nat->World->World->Prop)(listed:Array Bool)(fr:Fr)(a:Act)(w:World),js ops listed->oz B G listed->Rep n fr a->Agr ws a0 a->td P M MS n N ops K fuel B listed fr w->
  fX P ops (Real n ws a0 Qp (λx fr w=>match x with|.normal=>K fr w|_=>False)) fuel G listed a w:=by
 intro fuel
 induction fuel with
 | zero=>
  intro B G listed fr a w z s O D h;simp only[td]at h;split at h
  ·rename_i t;exact⟨t,fr,O,h,D⟩
  ·exact h.elim
 | succ fuel R=>
  intro B G listed fr a w z s O D h;have hQ:∀o:Oper,(∀d,o.dst=some d->d∈ws)->∀v,∀c a w,Real n ws a0 Qp (λx fr w=>match x with|.normal=>K fr w|_=>False) (.panic c) (a.put o.dst v) w->
   Real n ws a0 Qp (λx fr w=>match x with|.normal=>K fr w|_=>False) (.panic c) a w:=by
   intro o hd v c a w h;have hp:=Agr.put a o.dst v hd;exact⟨h.1,λi hi=>(hp.tmps i hi).symm.trans (h.2.tmps i hi),λhi=>(hp.defers hi).symm.trans (h.2.defers hi)⟩
  have Uq:∀i,oz B (jL G i (Gf (B.map λb=>b i))) (listed.setIfInBounds i true):=by
   intro i;cases B with
   | none=>
    intro k f x y j;unfold jL;split
    ·exact j
    ·rename_i J;rw[getD_set_ne false (Ne.symm J)]at f;exact s k f x y j
   | some b=>
    intro k f x y j;unfold jL;split
    ·rename_i he;subst he;exact j
    ·rename_i J;rw[getD_set_ne false (Ne.symm J)]at f;exact s k f x y j
  have V:∀i,oz B (jL G i λ_ _=>True) (listed.setIfInBounds i true):=by
   intro i;cases B with
   | none=>
    intro k f x y j;unfold jL;split
    ·trivial
    ·rename_i J;rw[getD_set_ne false (Ne.symm J)]at f;exact s k f x y j
   | some b=>
    intro k f x y j;unfold jL;split
    ·trivial
    ·rename_i J;rw[getD_set_ne false (Ne.symm J)]at f;exact s k f x y j
  simp only[td]at h;split at h
  ·rename_i t;exact z4 t ⟨fr,O,h,D⟩ _
  ·rename_i i0 r0 t;split at h
   ·rename_i i ah;obtain⟨W,WD⟩:=mU ah;split at h
    ·rename_i o q;obtain⟨aa,L,p⟩:=lK O h;have ae:(Region.ready .any ops listed).contains i=true:=by rw[t];simpa using W
     rcases p with⟨hw,p⟩|⟨hw,p⟩
     ·obtain⟨v,f,SG⟩:=af _ _ _ _ _ p;obtain⟨E,H,I⟩:=iU L f;rw[<-L.eval]at SG;exact rY (uB _) (xq _) s.refl q hs WD z ae (hQ o (hd i o q) v) (.inl ⟨hw,λw' hb=>SG w' (Ge hb)⟩)
       (R _ _ _ E _ w (z.set (by rw[t];exact W)) (Uq i) H (D.trans (Agr.put a o.dst v (hd i o q))) I)
     ·obtain⟨E,H,I⟩:=iU L p;exact rY (uB _) (xq _) s.refl q hs WD z ae (hQ o (hd i o q) undef) (.inr ⟨hw,rfl⟩)
       (R _ _ _ E _ w (z.set (by rw[t];exact W)) (Uq i) H (D.trans (Agr.put a o.dst undef (hd i o q))) I)
    ·exact h.elim
   ·refine Ct t (by simp) λi hi=>?_;have SU:=vm h i hi;have ab:i∈Region.ready .any ops listed:=by rw[t];exact hi
    split at SU
    ·rename_i o q;obtain⟨aa,L,p⟩:=lK O SU;unfold wpOp;simp only[q];rcases p with⟨hw,p⟩|⟨hw,p⟩
     ·rw[if_pos hw];refine .inl (PU (Qp:=Qp) (N:=N) (K:=λaa w'=>Fa (behind ops listed i) B w w' λB'=>td P M MS n N ops K fuel B' (listed.setIfInBounds i true) aa w') L D (hd i o q) ?_ ?_ ?_)
      ·exact hM _ _ _ _ p
      ·intro E a2 w2 H I u;cases B with
       |none=>exact u.elim
       | some b=>
        simp only[Fa]at u;split at u
        ·rename_i an;obtain⟨b',UF,u⟩:=u;refine⟨λk f=>(by rw[an]at f;cases f),R (some b') _ _ E a2 w2 (z.set ab) ?_ H I u⟩;intro k f x y j;exact V i k f x y (Kept.mono j λm hm=>UF k m hm)
        ·obtain⟨az,b',UF,u⟩:=u;refine⟨λk f=>?_,R (some b') _ _ E a2 w2 (z.set ab) ?_ H I u⟩
         ·have hl:listed.getD k false=true:=by
           unfold behind at f;simp only[List.mem_filter,Bool.and_eq_true]at f;exact f.2.1.1
          exact s k hl w w2 (az.mono λm hm=>BD f hm)
         ·intro k f x y j;exact V i k f x y (Kept.mono j λm hm=>UF k m hm)
      ·intro ch w' hq;exact⟨hq,D⟩
     ·rw[if_neg (by rw[hw];simp)];obtain⟨E,H,I⟩:=iU L p;exact⟨λk f=>(by
       unfold behind at f;simp only[List.mem_filter,Bool.and_eq_true]at f;exact s.refl k w f.2.1.1),R _ _ _ E _ w (z.set ab) (V i) H (D.trans (Agr.put a o.dst undef (hd i o q))) I⟩
    ·exact SU.elim
theorem FX {Qp:Option (List PanicEntry->World->Prop)}{K:Fr->World->Prop}{ws:List Nat}{a0:Act}(b:eO P C=true)(hs:Region.noSelect ops=true)
 (hd:∀(i:Nat)(o:Oper),ops[i]? =some o->∀d,o.dst=some d->d∈ws)
 (fuel:Nat)(B:Option (Nat->Nat->Prop))(G:Nat->World->World->Prop)(listed:Array Bool)(fr:Fr)(a:Act)(w:World)(f:js ops listed)(j:oz B G listed)(m:Rep n fr a)(p:Agr ws a0 a)(h:vcD P C n N ops Qp K fuel B listed fr w):
  fX P ops (Real n ws a0 Qp (λx fr w=>match x with|.normal=>K fr w|_=>False)) fuel G listed a w:=
 tW (λ_ _ _ _ h=>E5 b h) (λ_ _ fr _ _ h=>Lt (Rep.Be fr) h) hs hd fuel B G listed fr a w f j m p h
end
def ShT:Sh->Type->Type
 |.int _,T=>Int->T
 |.bool,T=>Bool->T
 |.str,T=>ByteArray->T
 |.ptr,T=>Option Addr->T
 |.slice,T=>Option Addr->Nat->Nat->T
 |.map,T=>Option Nat->T
 |.val,T=>Value->T
def Kv:List Sh->Type->Type
 | [],T=>T
 |s::l,T=>ShT s (Kv l T)
def Kw:Sh2->Type->Type
 |.one s,T=>ShT s T
 |.agg l,T=>Kv l T
 |.row _,T=>Array Value->T
def JT:List (Nat×Sh2)->Type
 | []=>World->Prop
 |(_,s)::r=>Kw s (JT r)
def Ka {T:Type}:(s:Sh)->ShT s T->Value->(T->Prop)->Prop
 | .int k,J,v,F=>match v with
  | .int b x=>match kEq k b with
   |true=>F (J x)
   |false=>False
  |_=>False
 | .bool,J,v,F=>match v with
  |.bool x=>F (J x)
  |_=>False
 | .str,J,v,F=>match v with
  |.string x=>F (J x)
  |_=>False
 | .ptr,J,v,F=>match v with
  |.pointer x=>F (J x)
  |_=>False
 | .slice,J,v,F=>match v with
  |.slice a n c=>F (J a n c)
  |_=>False
 | .map,J,v,F=>match v with
  |.map x=>F (J x)
  |_=>False
 |.val,J,v,F=>F (J v)
def J9 {T:Type}:(l:List Sh)->Kv l T->List Value->(T->Prop)->Prop
 | [],J,[],F=>F J
 |s::l,J,v::vs,F=>Ka s J v λb=>J9 l b vs F
 |_,_,_,_=>False
def Bw {T:Type}:(s:Sh2)->Kw s T->Value->(T->Prop)->Prop
 |.one s,J,v,F=>Ka s J v F
 | .agg l,J,v,F=>match v with
  |.agg cs=>J9 l J cs.toList F
  |_=>False
 | .row _,J,v,F=>match v with
  |.agg cs=>F (J cs)
  |_=>False
def FY:(l:List (Nat×Sh2))->JT l->Fr->World->Prop
 | [],J,_,w=>J w
 |(s,sh)::r,J,fr,w=>Bw sh J (lk fr.g s fr.e) λb=>FY r b fr w
def FF {T:Type}:(s:Sh)->ShT s T->(T->Value->Prop)->Prop
 |.int k,J,F=>∀x:Int,F (J x) (.int k x)
 |.bool,J,F=>∀x:Bool,F (J x) (.bool x)
 |.str,J,F=>∀x:ByteArray,F (J x) (.string x)
 |.ptr,J,F=>∀x:Option Addr,F (J x) (.pointer x)
 |.slice,J,F=>∀(a:Option Addr)(n c:Nat),F (J a n c) (.slice a n c)
 |.map,J,F=>∀x:Option Nat,F (J x) (.map x)
 |.val,J,F=>∀x:Value,F (J x) x
def zj {T:Type}:(l:List Sh)->Kv l T->(T->List Value->Prop)->Prop
 | [],J,F=>F J []
 |s::l,J,F=>FF s J λb v=>zj l b λd vs=>F d (v::vs)
def Dz {T:Type}:(s:Sh2)->Kw s T->(T->Value->Prop)->Prop
 |.one s,J,F=>FF s J F
 |.agg l,J,F=>zj l J λb vs=>F b (.agg ⟨vs⟩)
 |.row _,J,F=>∀cs:Array Value,F (J cs) (.agg cs)
def Ki:(l:List (Nat×Sh2))->JT l->(List (Nat×Value)->World->Prop)->Prop
 | [],J,F=>∀w,J w->F [] w
 |(s,sh)::r,J,F=>Dz sh J λb v=>Ki r b λvs w=>F ((s,v)::vs) w
theorem qx {T:Type}{s:Sh}{J:ShT s T}{v:Value}{F:T->Prop}(h:Ka s J v F):∃d,F d/\∀G:T->Value->Prop,FF s J G->G d v:=by
 cases s<;>simp only[Ka]at h
 case int k=>
  split at h
  ·split at h
   ·rename_i f;obtain rfl:=qh f;exact⟨_,h,λG b=>b _⟩
   ·exact h.elim
  ·exact h.elim
 case slice=>
  split at h
  ·exact⟨_,h,λG b=>b _ _ _⟩
  ·exact h.elim
 case val=>exact⟨_,h,λG b=>b _⟩
 all_goals
  split at h
  ·exact⟨_,h,λG b=>b _⟩
  ·exact h.elim
theorem xR {T:Type}:∀ {l:List Sh}{J:Kv l T}{vs:List Value}{F:T->Prop},J9 l J vs F->∃b,F b/\∀G:T->List Value->Prop,zj l J G->G b vs
 | [],J,[],F,h=>⟨_,h,λG f=>f⟩
 | s::l,J,v::vs,F,h=>by
  obtain⟨b,i,j⟩:=qx h;obtain⟨d,m,p⟩:=xR i;exact⟨d,m,λG f=>p (λd vs=>G d (v::vs)) (j (λb v=>zj l b λd vs=>G d (v::vs)) f)⟩
 | [],_,_::_,_,h=>h.elim
 |_::_,_,[],_,h=>h.elim
theorem xS {T:Type}{s:Sh2}{J:Kw s T}{v:Value}{F:T->Prop}(h:Bw s J v F):∃b,F b/\∀G:T->Value->Prop,Dz s J G->G b v:=by
 cases s with
 |one s=>exact qx h
 | agg l=>
  simp only[Bw]at h;split at h
  ·obtain⟨b,f,i⟩:=xR h;exact⟨b,f,λG d=>i (λb vs=>G b (.agg ⟨vs⟩)) d⟩
  ·exact h.elim
 | row n=>
  simp only[Bw]at h;split at h
  ·exact⟨_,h,λG d=>d _⟩
  ·exact h.elim
theorem tX:∀(l:List (Nat×Sh2))(J:JT l)(fr:Fr)(w:World),FY l J fr w->
 ∃vs:List (Nat×Value),(∀s v,(s,v)∈vs->lk fr.g s fr.e=v)/\∀F,Ki l J F->F vs w
 | [],J,fr,w,h=>⟨[],by simp,λF b=>b w h⟩
 | (s,sh)::r,J,fr,w,h=>by
  obtain⟨d,f,i⟩:=xS h;obtain⟨vs,j,m⟩:=tX r d fr w f;refine⟨(s,lk fr.g s fr.e)::vs,λs' p hm=>?_,λF b=>m _ (i (λd v=>Ki r d λvs w=>F ((s,v)::vs) w) b)⟩;rcases List.mem_cons.1 hm with e|hm
  ·cases e;rfl
  ·exact j _ _ hm
def Kh:Sh->(Value->Prop)->Prop
 |.int k,F=>∀x:Int,F (.int k x)
 |.bool,F=>∀x:Bool,F (.bool x)
 |.str,F=>∀x:ByteArray,F (.string x)
 |.ptr,F=>∀x:Option Addr,F (.pointer x)
 |.slice,F=>∀(a:Option Addr)(n c:Nat),F (.slice a n c)
 |.map,F=>∀x:Option Nat,F (.map x)
 |.val,F=>∀x:Value,F x
def Kg:List Sh->(List Value->Prop)->Prop
 | [],F=>F []
 |s::l,F=>Kh s λv=>Kg l λvs=>F (v::vs)
def Ni:Sh2->(Value->Prop)->Prop
 |.one s,F=>Kh s F
 |.agg l,F=>Kg l λvs=>F (.agg ⟨vs⟩)
 |.row _,F=>∀cs:Array Value,F (.agg cs)
def O6:List Sh2->(List Value->Prop)->Prop
 | [],F=>F []
 |s::l,F=>Ni s λv=>O6 l λvs=>F (v::vs)
theorem xV {s:Sh}{F G:Value->Prop}(h:s.ex F)(b:Kh s G):∃v,F v/\G v:=by
 cases s<;>simp only[Sh.ex]at h
 case slice=>obtain⟨a,n,c,h⟩:=h;exact⟨_,h,b _ _ _⟩
 all_goals obtain⟨x,h⟩:=h;exact⟨_,h,b _⟩
theorem xU:∀ {l:List Sh}{F G:List Value->Prop},exs l F->Kg l G->∃vs,F vs/\G vs
 | [],_,_,h,b=>⟨[],h,b⟩
 | s::l,F,G,h,b=>by
  obtain⟨v,d,f⟩:=xV h b;obtain⟨vs,i,j⟩:=xU d f;exact⟨_,i,j⟩
theorem GV {s:Sh2}{F G:Value->Prop}(h:s.ex F)(b:Ni s G):∃v,F v/\G v:=by
 cases s with
 |one s=>exact xV h b
 |agg l=>obtain⟨vs,d,f⟩:=xU h b;exact⟨_,d,f⟩
 |row n=>obtain⟨cs,h⟩:=h;exact⟨_,h,b _⟩
theorem BE:∀ {l:List Sh2}{F G:List Value->Prop},Dm l F->O6 l G->∃vs,F vs/\G vs
 | [],_,_,h,b=>⟨[],h,b⟩
 | s::l,F,G,h,b=>by
  obtain⟨v,d,f⟩:=GV h b;obtain⟨vs,i,j⟩:=BE d f;exact⟨_,i,j⟩
theorem Bc:∀ {l:List Sh2}{x:List Value},Dm l (λvs=>x=vs)->x.length=l.length:=by
 have key:∀(l:List Sh2)(pre x:List Value),Dm l (λvs=>x=pre++vs)->x.length=pre.length+l.length:=by
  intro l
  induction l with
  |nil=>intro pre x h;have:x=pre++ []:=h;rw[this];simp
  | cons s l b=>
   intro pre x h;obtain⟨v,h⟩:=Sh2.lM h;have:=b (pre++ [v]) x (by simpa using h);rw[this];simp;omega
 intro l x h;simpa using key l [] x (by simpa using h)
def writes:Code->List Nat
 |.region _ ops _=>ops.toList.filterMap (·.dst)
 |.seq x y=>writes x++writes y
 |.cond _ x y=>writes x++writes y
 |.block _ c=>writes c
 |.loop c=>writes c
 |.scope c=>writes c
 |.rangeFunc _ _ _ _=>[sG]
 |_=>[]
def FG(ws:List Nat):List Nat->Bool
 | []=>true
 | d::r=>match ws.elem d with
  |true=>FG ws r
  |false=>false
theorem xX {ws:List Nat}:∀ {l:List Nat},FG ws l=true->∀d∈l,d∈ws
 | [],_,d,hd=>by cases hd
 | e::r,h,d,hd=>by
  unfold FG at h;split at h
  ·rename_i he;rcases List.mem_cons.1 hd with rfl|hd
   ·exact List.elem_iff.1 he
   ·exact xX h d hd
  ·cases h
structure Cut where
 live:List (Nat×Sh2)
 wr:List Nat
inductive Ann where
 |leaf
 |node (cut:Option Cut)(l r:Ann)
def Ann.cut:Ann->Option Cut
 |.leaf=>none
 |.node c _ _=>c
def Ann.l:Ann->Ann
 |.leaf=>.leaf
 |.node _ l _=>l
def Ann.r:Ann->Ann
 |.leaf=>.leaf
 |.node _ _ r=>r
def forget(wr:List Nat):List (Nat×Value)->List (Nat×Value)
 | []=>[]
 | (d,v)::r=>match wr.elem d with
  |true=>forget wr r
  |false=>(d,v)::forget wr r
def vd(wr ws:List Nat):Bool:=
 match FG wr ws with
 |true=>!(wr.elem sG)
 |false=>false
theorem ry {wr ws:List Nat}(h:vd wr ws=true):(∀d∈ws,d∈wr)/\sG ∉ wr:=by
 unfold vd at h;split at h
 ·rename_i b;refine⟨xX b,λhm=>?_⟩;rw[List.elem_iff.2 hm]at h;cases h
 ·cases h
def j3(c:Code)(a:Ann)(Q:QF)(fr:Fr)(F:QF->Prop):Prop:=
 match a.cut with
 |none=>F Q
 | some ⟨live,wr⟩=>match vd wr (writes c)with
  |true=>∃J:JT live,F (λx b w'=>match x with|.normal=>FY live J b w'|x=>Q x b w')/\∀g:Nat->Value,Ki live J λvs w'=>Q .normal ⟨vs++forget wr fr.e,g,fr.ds⟩ w'
  |false=>False
def nb(P:Program):List Oper->Bool
 | []=>true
 | o::r=>match ahead P o with
  |true=>nb P r
  |false=>false
def fF(l:List Oper):Bool:=
 match l with
 | []=>true
 | o::r=>match gO o with
  |true=>fF r
  |false=>false
theorem jS:∀ {l:List Oper},fF l=true->∀o∈l,gO o=true
 | [],_,o,b=>by cases b
 | e::r,h,o,b=>by
  unfold fF at h;split at h
  ·rename_i he;rcases List.mem_cons.1 b with rfl|b
   ·exact he
   ·exact jS h o b
  ·cases h
structure Ys where
 n:Nat
 is:Nat->List Value->World->Prop
@[reducible] def Ys.of(xs:List (List Value)):Ys:=⟨xs.length,λi x _=>xs[i]? =some x⟩
def Iter(P:Program)(d:Nat)(cap:Array Value)(xs:Ys)(X:Nat->Prop)(D:Nat->World->Prop):Prop:=(∀i A B,D i A->Kept X A B->D i B)/\∀(l:Nat)(J b:Nat->World->Prop)(W:World),(∀i A B,J i A->Kept (λk=>k<A.heap.size/\¬X k) A B->J i B)->(∀i A B,b i A->Kept (λk=>k<A.heap.size/\¬X k) A B->b i B)->J 0 W->D 0 W->(∀i x A,xs.is i x A->J i A->D i A->YieldAt Fence.wide 0 P l ⟨x⟩ A λe B=>(e=.returned (.bool true)/\J (i+1) B/\Kept X A B)\/(e=.returned (.bool false)/\b (i+1) B/\Kept X A B))->Calls P d (#[.func (.yield l) #[] #[]]++cap) W λe B=>(∃v,e=.returned v)/\((J xs.n B/\D xs.n B)\/∃i,b i B/\D i B)
def Pb(X:Nat->Prop)(l:Nat)(J:Nat->World->Prop):Prop:=∀i A B,J i A->Kept (λk=>k<A.heap.size/\¬X k/\k≠l) A B->J i B
def EV:List Tmp->List Value->List (Nat×Value)->List (Nat×Value)
 |p::b,v::vs,e=>EV b vs ((p,v)::e)
 |_,_,e=>e
def mark(dl:Nat):Deferred:= {target:=.collected dl,args:= #[]}
def At(b:List Tmp)(n:Nat):Bool:=
 match b with
 | []=>true
 | p::r=>match Nat.blt p n with
  |true=>At r n
  |false=>false
def vcC(P:Program)(C:List Nat)(n:Nat)(N:List Nat):Bool->Option (List PanicEntry->World->Prop)->Code->Ann->QF->Fr->World->Prop
 |_,_,.skip,_,Q,fr,w=>Q .normal fr w
 |_,Qp,.region id ops false,a,Q,fr,w=>j3 (.region id ops false) a Q fr λQ=>vcL P C n N ops Qp (Q .normal) ops.toList fr w
 | _,Qp,.region id ops true,a,Q,fr,w=>j3 (.region id ops true) a Q fr λQ=>match Region.noSelect ops,fF ops.toList with
  | true,true=>(match nb P ops.toList with
   |true=>vcD P C n N ops Qp (Q .normal) ops.size none (Array.replicate ops.size false) fr w.drew
   |false=>∃b:Nat->Nat->Prop,vcD P C n N ops Qp (Q .normal) ops.size (some b) (Array.replicate ops.size false) fr w.drew)
  |_,_=>False
 |R,Qp,.seq x y,a,Q,fr,w=>j3 (.seq x y) a Q fr λQ=>vcC P C n N R Qp x a.l (λe d w'=>match e with|.normal=>vcC P C n N R Qp y a.r Q d w'|e=>Q e d w') fr w
 | R,Qp,.cond c x y,a,Q,fr,w=>j3 (.cond c x y) a Q fr λQ=>match ev fr c with
  |.bool b=>split b (vcC P C n N R Qp x a.l Q fr w) (vcC P C n N R Qp y a.r Q fr w)
  |_=>False
 | R,Qp,.block id c,a,Q,fr,w=>j3 (.block id c) a Q fr λQ=>vcC P C n N R Qp c a.l (λe d w'=>match e with
  |.exit s=>(match Nat.beq s id with|true=>Q .normal d w'|false=>Q (.exit s) d w')
  |e=>Q e d w') fr w
 | R,Qp,.loop c,a,Q,fr,w=>match a.cut with
  |none=>False
  | some ⟨live,wr⟩=>match vd wr (writes c)with
   | true=>∃I:Nat->JT live,(∃m,FY live (I m) fr w)/\∀(m:Nat)(g:Nat->Value),Ki live (I m) λvs w'=>
    vcC P C n N R Qp c a.l (λe d t=>match e with
     |.normal=>∃u,u<m/\FY live (I u) d t
     |e=>Q e d t) ⟨vs++forget wr fr.e,g,fr.ds⟩ w'
   |false=>False
 | false,_,.rangeFunc g h assign body,a,Q,fr,w=>match a.cut with
  |none=>False
  | some ⟨live,ids⟩=>match Nat.beq live.length h.size && At h.toList n with
   |false=>False
   | true=>∃(j:Nat)(cap:Array Value),ev fr g=.func (.func j) #[] cap/\C.elem j=true/\∀(l dl:Nat)(w1:World),dl=w.heap.size->l=w.heap.size+1->Kept (λk=>k<w.heap.size) w w1->l<w1.heap.size->w1.heap[dl]? =some (.deferred (some []))->∃(xs:Ys)(X:Nat->Prop)(D J p:Nat->World->Prop)(q:Nat->Nat->World->Prop),Iter P j cap xs X D/\(∀k,X k->k<w.heap.size)/\(∀i x A,xs.is i x A->Dm (live.map (·.2)) λvs=>x=vs)/\(Pb X l J/\Pb X l p/\∀id,Pb X l (q id))/\D 0 w1/\J 0 w1/\(∀(i:Nat)(A:World),J i A->D i A->O6 (live.map (·.2)) λx=>xs.is i x A->vcC P C n N true none assign a.l (λe z w2=>match e with
        | .normal=>Kept (λk=>X k\/k=l) A w2/\∀w3,Kept (λk=>k<w2.heap.size/\k≠l) w2 w3->vcC P C n N true none body a.r (λe _ f=>match e with
          |.normal=>Kept (λk=>X k\/k=l) w3 f/\J (i+1) f
          |.ret=>Kept (λk=>X k\/k=l) w3 f/\p (i+1) f
          | .exit id=>(match ids.elem id with
           |true=>Kept (λk=>X k\/k=l) w3 f/\q id (i+1) f
           |false=>False)
          |_=>False) z w3
        |_=>False) ⟨EV h.toList x fr.e,fr.g,[]⟩ A)/\(∀W,J xs.n W->D xs.n W->Q .normal ⟨fr.e,fr.g,mark dl::fr.ds⟩ W)/\(∀i W,p i W->D i W->Q .ret ⟨fr.e,fr.g,mark dl::fr.ds⟩ W)/\DA (λid=>∀i W,q id i W->D i W->Q (.exit id) ⟨fr.e,fr.g,mark dl::fr.ds⟩ W) ids
 |_,_,.exit id,_,Q,fr,w=>Q (.exit id) fr w
 |_,_,.ret,_,Q,fr,w=>Q .ret fr w
 |_,_,.label _,_,Q,fr,w=>Q .normal fr w
 | false,Qp,.scope c,a,Q,fr,w=>j3 (.scope c) a Q fr λQ=>vcC P C n N false Qp c a.l (λe d w'=>match e with
  |.goto _=>False
  |e=>Q e d w') fr w
 |_,_,_,_,_,_,_=>False
section
variable {P:Program}{C:List Nat}{n:Nat}{N:List Nat}{Qp:Option (List PanicEntry->World->Prop)}{r:Option Nat}
theorem xG(g:Nat->Value)(i:Nat):∀(x y:List (Nat×Value)),(∃v,(i,v)∈x/\lk g i (x++y)=v)\/((∀v,(i,v) ∉ x)/\lk g i (x++y)=lk g i y)
 | [],y=>.inr ⟨by simp,rfl⟩
 | (d,v)::r,y=>by
  simp only[List.cons_append,lk];split
  ·rename_i h;obtain rfl:=Nat.eq_of_beq_eq_true h;exact .inl ⟨v,List.mem_cons_self ..,rfl⟩
  ·rename_i h;have b:i≠d:=by rintro rfl;simp at h
   rcases xG g i r y with⟨u,hu,he⟩|⟨hu,he⟩
   ·exact .inl ⟨u,List.mem_cons_of_mem _ hu,he⟩
   ·refine .inr ⟨λu hm=>?_,he⟩;rcases List.mem_cons.1 hm with e|hm
    ·cases e;exact b rfl
    ·exact hu u hm
theorem rl(wr:List Nat)(g g':Nat->Value)(i:Nat):∀(e:List (Nat×Value)),lk g' i (forget wr e)=g' i\/(i ∉ wr/\lk g' i (forget wr e)=lk g i e)
 | []=>.inl rfl
 | (d,v)::r=>by
  simp only[forget];split
  ·rename_i h;rcases rl wr g g' i r with b|⟨f,b⟩
   ·exact .inl b
   ·refine .inr ⟨f,?_⟩;simp only[lk];split
    ·rename_i hi;obtain rfl:=Nat.eq_of_beq_eq_true hi;exact absurd (List.elem_iff.1 h) f
    ·exact b
  ·rename_i h;simp only[lk];split
   ·rename_i hi;obtain rfl:=Nat.eq_of_beq_eq_true hi;refine .inr ⟨λhm=>?_,rfl⟩;rw[List.elem_iff.2 hm]at h;cases h
   ·exact rl wr g g' i r
theorem yE {fr b:Fr}{a a':Act}{wr:List Nat}{vs:List (Nat×Value)}(f:Rep n fr a)(h:Rep n b a')(j:Agr wr a a')(m:sG ∉ wr)(p:∀s v,(s,v)∈vs->lk b.g s b.e=v):
 Rep n ⟨vs++forget wr fr.e,λi=>a'.tmps.getD i undef,fr.ds⟩ a':=by
 refine⟨h.size,λi=>?_,(j.defers m).trans f.defers⟩;rcases xG (λi=>a'.tmps.getD i undef) i vs (forget wr fr.e)with⟨v,q,he⟩|⟨_,he⟩
 ·show _=lk _ i (vs++forget wr fr.e);rw[he,h.get,p _ _ q]
 ·show _=lk _ i (vs++forget wr fr.e);rw[he];rcases rl wr fr.g (λi=>a'.tmps.getD i undef) i fr.e with d|⟨t,d⟩
  ·rw[d]
  ·rw[d,<-f.get];exact j.tmps i t
theorem Real.mono {ws b:List Nat}{a0 a:Act}{Q d:QF}{x:Exit}{w:World}(h:Real n ws a0 Qp Q x a w)(f:∀i,i∈ws->i∈b)(hq:∀x fr w,Q x fr w->d x fr w):Real n b a0 Qp d x a w:=by
 cases x<;>first|exact h.elim|exact⟨h.1,h.2.mono f⟩|(obtain⟨fr,j,m,p⟩:=h;exact⟨fr,j,hq _ _ _ m,p.mono f⟩)
theorem mG {ws:List Nat}{a0 a:Act}{Q:QF}{x:Exit}{w:World}(h:Real n ws a0 Qp (λx fr w=>match x with|.normal=>Q .normal fr w|_=>False) x a w):Real n ws a0 Qp Q x a w:=by
 cases x<;>first|exact h|(obtain⟨_,_,h,_⟩:=h;exact h.elim)
theorem pB {F:Fence}{nn:Nat}{c:Code}{Q:Exit->Act->World->Prop}(I:Nat->Act->World->Prop)(m:Nat){a:Act}{w:World}(p:I m a w)
 (round:∀m a w,I m a w->c.wpIn F nn P (Exit.then (λa' w'=>∃i,i<m/\I i a' w') Q) a w):(Code.loop c).wpIn F nn P Q a w:=by
 intro b k cs q hb j;have key:∀n a w,I n a w->
  ∃e a' w',Q e a' w'/\ArrivesIn (Machine.fenced P F) P (lone (b.atR a (.code c:: .inLoop c::k)) cs w) b k cs e a' w':=by
  intro n
  induction n using Nat.strongRecOn with
  | _ n s=>
   intro a w hI;obtain⟨e,f,h,hq,d⟩:=round n a w hI b (.inLoop c::k) cs q hb j;cases e with
   | normal=>
    obtain⟨i,t,u⟩:=hq;obtain⟨y,z,D,E,G⟩:=s i t f h u;exact⟨y,z,D,E,.of_steps (StepsIn.trans d (.one (fenced_calm hb j rfl) stepR_inLoop)) G⟩
   |exit id=>exact⟨_,f,h,hq,.pass (x:=.inLoop c) rfl (λ_ _=>.inl (by simp)) d⟩
   |goto l=>exact⟨_,f,h,hq,.pass (x:=.inLoop c) rfl (λ_ _=>.inl (by simp)) d⟩
   |ret=>exact⟨_,f,h,hq,.pass (x:=.inLoop c) rfl (λ_ _=>.inl (by simp)) d⟩
   |panic ch=>exact⟨_,f,h,hq,.pass (x:=.inLoop c) rfl (λ_ _=>.inl (by simp)) d⟩
   |outgrown=>exact⟨_,f,h,hq,.pass (x:=.inLoop c) rfl (λ_ _=>.inl (by simp)) d⟩
 obtain⟨e,a',w',hq,d⟩:=key _ a w p;exact⟨e,a',w',hq,.of_steps (.one (fenced_calm hb j rfl) stepR_loop) d⟩
def Sound(P:Program)(n:Nat)(r:Option Nat)(Qp:Option (List PanicEntry->World->Prop))(c:Code)(V:QF->Fr->World->Prop):Prop:=∀(Q:QF)(fr:Fr)(a:Act)(w:World),Rep n fr a->V Q fr w->c.wpIn (WF r) 0 P (Real n (writes c) a Qp Q) a w
theorem jH {c:Code}{j:Ann}{V:QF->Fr->World->Prop}(h:Sound P n r Qp c V):Sound P n r Qp c λQ fr w=>j3 c j Q fr λQ=>V Q fr w:=by
 intro Q fr a w d b;simp only[j3]at b;split at b
 ·exact h Q fr a w d b
 ·rename_i live wr z;split at b
  ·rename_i f;obtain⟨f,m⟩:=ry f;obtain⟨J,p,q⟩:=b;refine wpIn_mono (h _ fr a w d p) λe a' w' he=>?_;cases e
   case normal=>
    obtain⟨s,t,u,i⟩:=he;obtain⟨vs,x,y⟩:=tX live J s w' u;exact⟨_,yE d t (i.mono f) m x,y _ (q _),i⟩
   all_goals exact he
  ·exact b.elim
theorem uL {ops:Array Oper}{id:Nat}{b:Bool}{i:Nat}{o:Oper}(f:ops[i]? =some o){d:Nat}(hd:o.dst=some d):d∈writes (.region id ops b):=by
 refine List.mem_filterMap.2 ⟨o,?_,hd⟩;obtain⟨h,j⟩:=Array.getElem?_eq_some_iff.1 f;rw[<-j];exact Array.mem_toList_iff.2 (Array.getElem_mem h)
theorem kF {id:Nat}{ops:Array Oper}{Q:Exit->Act->World->Prop}{G:Nat->World->World->Prop}{a:Act}{w:World}(hm:P.follows .mixedOrders=true)(b:¬LetsOut Q)(d:∀o∈ops,gO o=true)
 (h:fX P ops Q ops.size G (Array.replicate ops.size false) a w.drew):(Code.region id ops true).wpIn (WF r) 0 P Q a w:=
 wpIn_region_draw λt=>fC b d _ _ _ (by
  simp only[Region.schedule,hm,Bool.true_or,if_true];exact wpAny_sound ops.size t _ a _ (tP _ _ _ _ _ h))
theorem pW {ws:List Nat}{a0:Act}{Q:QF}:¬LetsOut (Real n ws a0 Qp Q):=fun⟨_,_,h⟩=>h
theorem xr:∀(d:List Tmp)(vs:List Value)(fr:Fr)(a:Act),At d n=true->Rep n fr a->
 Rep n ⟨EV d vs fr.e,fr.g,[]⟩ {tmps:=(d.zip vs).foldl (λt (p,v)=>t.setIfInBounds p v) a.tmps,defers:= []}
 | [],vs,fr,a,_,b=>⟨b.size,b.get,rfl⟩
 |_::_,[],fr,a,_,b=>⟨b.size,b.get,rfl⟩
 | p::d,v::vs,fr,a,hp,b=>by
  simp only[At]at hp;split at hp
  ·rename_i hb;have j:p<n:=by simpa[Nat.blt_eq]using hb
   obtain⟨f,h,i⟩:=iU (N:= []) (dst:=some p) (v:=v) (F:=λf=>f=⟨(p,v)::fr.e,fr.g,fr.ds⟩) b (by simp[kq,hb,List.elem]);subst i;exact xr d vs _ _ hp h
  ·cases hp
theorem Kept.putObj {B:Nat->Prop}(w:World)(l:Nat)(o:Obj)(h:¬B l):Kept B w (w.putObj l o):=
 ⟨rfl,rfl,rfl,by simp,λ_ b=>World.putObj_heap_other (by rintro rfl;exact h b)⟩
theorem Kept.zi(w:World)(o:Obj):Kept (λk=>k<w.heap.size) w (w.alloc o):=
 Kept.IJ ((Below.refl _ w).alloc (Nat.le_refl _) o)
theorem Ao(hC:eO P C=true){g:Operand}{f:Array Tmp}{assign body:Code}{O:Ann}(As:∀l,Sound P n (some l) none assign (vcC P C n N true none assign O.l))(Bo:∀l,Sound P n (some l) none body (vcC P C n N true none body O.r)):
 Sound P n none Qp (.rangeFunc g f assign body) (vcC P C n N false Qp (.rangeFunc g f assign body) O):=by
 intro Q fr a w z s;simp only[vcC]at s;split at s
 ·exact s.elim
 rename_i live ids bb;split at s
 ·exact s.elim
 rename_i hlen;simp only[Bool.and_eq_true]at hlen;obtain⟨hlen,Z5⟩:=hlen;have hlen:live.length=f.size:=Nat.eq_of_beq_eq_true hlen;obtain⟨K,cap,hg,az,s⟩:=s;have hw:(writes (.rangeFunc g f assign body))= [sG]:=rfl;have R:Agr [sG] a {a with defers:=mark w.heap.size::a.defers}:=⟨λ_ _=>rfl,λh=>absurd (List.mem_singleton.2 rfl) h⟩;have V:Rep n ⟨fr.e,fr.g,mark w.heap.size::fr.ds⟩ {a with defers:=mark w.heap.size::a.defers}:=⟨z.size,z.get,by show _::_=_;rw[z.defers]⟩;refine wpIn_rangeFunc λfn bc=>?_;obtain⟨rec,j⟩:∃rec:LoopState->Option Code->Loop,rec=λst pe=> {state:=st,pending:=pe,fn,tmps:=a.tmps,params:=f,assign,body,defers:=w.heap.size}:=⟨_,rfl⟩;obtain⟨b,L⟩:∃b,(w.alloc (.deferred (some []))).alloc (.loop (rec .ready none))=b:=⟨_,rfl⟩;have aa:b.heap[w.heap.size+1]? =some (.loop (rec .ready none)):=by
  rw[<-L];have:=World.alloc_heap_new (w.alloc (.deferred (some []))) (.loop (rec .ready none));rwa[World.size_alloc]at this
 have aA:b.heap[w.heap.size]? =some (.deferred (some [])):=by
  rw[<-L];exact(Below.heap_alloc _ _ _ (by simp)).trans (World.alloc_heap_new w _)
 have aC:Kept (λk=>k<w.heap.size) w b:=by
  rw[<-L];exact(Kept.zi w _).trans ((Kept.zi _ _).mono (λk m=>by rw[World.size_alloc];omega))
 obtain⟨xs,X,D,J,Jr,Je,W,hX,aN,⟨sJ,sR,sE⟩,a0,a1,Ve,a3,a5,a6⟩:=s _ _ b rfl rfl aC (Array.getElem?_eq_some_iff.1 aa).1 aA;have y:∀k,X k->k≠w.heap.size+1:=λk m=>by have:=hX k m;omega
 refine⟨w.heap.size+1,[mark w.heap.size],b,{target:=.fn (.func K) cap,args:= #[.func (.yield (w.heap.size+1)) #[] #[]]},b,K,
  #[.func (.yield (w.heap.size+1)) #[] #[]]++cap,b,?_,?_,λ_ _=>trivial,?_,(by intro h;cases h),vC ?_⟩
 ·rw[<-L,j];exact run_enterLoop_outer _ _ _ _ _
 ·have a7:a.eval g=.func (.func K) #[] cap:=by rw[z.eval];exact hg
  simp only[resolve,a7,Deferred.ofValue];simp[Act.eval]
 ·show(callFunc K (#[.func (.yield (w.heap.size+1)) #[] #[]]++cap)).run P b=_;exact dL hC az _ _
 have key:=W.2 (w.heap.size+1)
  (λi A=>J i A/\A.heap[w.heap.size+1]? =some (.loop (rec .ready none)))
  (λi A=>∃c,((c=.ret/\Jr i A)\/∃id,c=.exit id/\id∈ids/\Je id i A)/\A.heap[w.heap.size+1]? =some (.loop (rec .done (some c)))) b
  (λi A B h m=>⟨sJ i A B h.1 (m.mono λk h=>⟨h.1,h.2.1⟩),(m.block _ ⟨(Array.getElem?_eq_some_iff.1 h.2).1,λh=>y _ h rfl⟩).trans h.2⟩)
  (λi A B h m=>by
   obtain⟨c,hc,q⟩:=h;refine⟨c,?_,(m.block _ ⟨(Array.getElem?_eq_some_iff.1 q).1,λh=>y _ h rfl⟩).trans q⟩;rcases hc with⟨e,h⟩|⟨id,e,hm,h⟩
   ·exact .inl ⟨e,sR i A B h (m.mono λk h=>⟨h.1,h.2.1⟩)⟩
   ·exact .inr ⟨id,e,hm,sE id i A B h (m.mono λk h=>⟨h.1,h.2.1⟩)⟩)
  ⟨a1,aa⟩ a0 ?_
 ·refine key.mono ?_;rintro e B ⟨⟨v,rfl⟩,⟨⟨hj,q⟩,hd⟩|⟨i,⟨c,hc,q⟩,hd⟩⟩
  ·have d:=run_endLoop (P:=P) q (by rw[j];simp);rw[show(rec .ready none).pending=none by rw[j]]at d;refine⟨none,_,d,?_⟩;exact⟨_,V,a3 _ (sJ _ _ _ hj (Kept.putObj _ _ _ (by simp))) (W.1 _ _ _ hd (Kept.putObj _ _ _ (λh=>y _ h rfl))),R⟩
  ·have d:=run_endLoop (P:=P) q (by rw[j];simp);rw[show(rec .done (some c)).pending=some c by rw[j]]at d;refine⟨some c,_,d,?_⟩;have ab:∀o,D i (B.putObj (w.heap.size+1) o):=λo=>W.1 _ _ _ hd (Kept.putObj _ _ _ (λh=>y _ h rfl));rcases hc with⟨rfl,h⟩|⟨id,rfl,hm,h⟩
   ·exact wpIn_ret ⟨_,V,a5 _ _ (sR _ _ _ h (Kept.putObj _ _ _ (by simp))) (ab _),R⟩
   ·exact wpIn_exit ⟨_,V,vm a6 id hm _ _ (sE id _ _ _ h (Kept.putObj _ _ _ (by simp))) (ab _),R⟩
 ·rintro i x A hx ⟨hj,q⟩ hd;have ae:=aN _ _ _ hx;have ZY:x.length=f.size:=by rw[Bc ae,List.length_map,hlen]
  obtain⟨vs,rfl,VL⟩:=BE ae (Ve i A hj hd);have VL:=VL hx;have hy:=run_yield (P:=P) (args:=⟨x⟩) q (by rw[j];exact ZY);rw[j]at hy;refine⟨fn,_,assign,body,hy,roundIn_of_wpIn (F:=Fence.wide) (n:=0) trivial ?_⟩;have TS:Rep n ⟨EV f.toList x fr.e,fr.g,[]⟩ {tmps:=(f.zip ⟨x⟩).foldl (λt (p,v)=>t.setIfInBounds p v) a.tmps,defers:= []}:=by
   have:=xr f.toList x fr a Z5 z
   rwa[<-Array.foldl_toList,Array.toList_zip]
  refine wpIn_mono (F:=WF (some (w.heap.size+1))) (As (w.heap.size+1) _ _ _ A TS VL) λe a2 w2 he=>?_;cases e
  case normal=>
   obtain⟨Sm,TO,⟨Ss,hb⟩,_⟩:=he;have V7:w2.heap[w.heap.size+1]? =some (.loop (rec .ready none)):=(Ss.block _ (.inr rfl)).trans q;have a8:=(Array.getElem?_eq_some_iff.1 V7).1;refine⟨_,run_beginRound V7 (by rw[j]),?_⟩;have XE:(w2.putObj (w.heap.size+1) (.loop {rec .ready none with state:=.busy})).heap[w.heap.size+1]? =some (.loop {rec .ready none with state:=.busy}):=World.putObj_heap_same a8;have a9:Kept X w2 (w2.putObj (w.heap.size+1) (.loop {rec .ready none with state:=.busy})):=Kept.putObj _ _ _ (λh=>y _ h rfl);refine wpIn_mono (F:=WF (some (w.heap.size+1))) (Bo (w.heap.size+1) _ _ _ _ TO (hb _ (Kept.putObj _ _ _ (by simp)))) λe a4 E he=>?_;have fin:∀(jump:Option Code),Kept (λk=>X k\/k=w.heap.size+1) (w2.putObj (w.heap.size+1) (.loop {rec .ready none with state:=.busy})) E->
    (Instr.endRound (w.heap.size+1) jump).run P E=.ok (.bool jump.isNone) (E.putObj (w.heap.size+1) (.loop (rec (if jump.isNone then .ready else .done) jump)))/\
    (E.putObj (w.heap.size+1) (.loop (rec (if jump.isNone then .ready else .done) jump))).heap[w.heap.size+1]? =some (.loop (rec (if jump.isNone then .ready else .done) jump))/\
    Kept X A (E.putObj (w.heap.size+1) (.loop (rec (if jump.isNone then .ready else .done) jump))):=by
    intro jump u;have af:=(u.block _ (.inr rfl)).trans XE;have:=run_endRound (P:=P) jump af;refine⟨by rw[j]at this ⊢;exact this,World.putObj_heap_same (Array.getElem?_eq_some_iff.1 af).1,?_⟩;exact(((Ss.mono λk h=>.inl h).trans a9).trans (u.mono λk h=>.inl h)).trans (Kept.putObj _ _ _ (λh=>y _ h rfl))
   cases e
   case normal=>
    obtain⟨ah,_,⟨u,G⟩,_⟩:=he;obtain⟨d,H,I⟩:=fin none u;exact⟨_,_,d,.inl ⟨rfl,⟨sJ _ _ _ G (Kept.putObj _ _ _ (by simp)),H⟩,I⟩⟩
   case ret=>
    obtain⟨ah,_,⟨u,G⟩,_⟩:=he;obtain⟨d,H,I⟩:=fin (some .ret) u;exact⟨_,_,d,.inr ⟨rfl,⟨.ret,.inl ⟨rfl,sR _ _ _ G (Kept.putObj _ _ _ (by simp))⟩,H⟩,I⟩⟩
   case exit id=>
    obtain⟨ah,_,M,_⟩:=he;simp only at M;split at M
    ·rename_i ba;obtain⟨u,G⟩:=M;obtain⟨d,H,I⟩:=fin (some (.exit id)) u;exact⟨_,_,d,.inr ⟨rfl,⟨.exit id,.inr ⟨id,rfl,List.elem_iff.1 ba,sE id _ _ _ G (Kept.putObj _ _ _ (by simp))⟩,H⟩,I⟩⟩
    ·exact M.elim
   case goto t=>obtain⟨_,_,h,_⟩:=he;exact h.elim
   case panic ch=>exact he.1.elim
   case outgrown=>exact he.elim
  case panic ch=>exact he.1.elim
  case outgrown=>exact he.elim
  all_goals obtain⟨_,_,h,_⟩:=he;exact h.elim
theorem eV(t:eO P C=true)(hm:P.follows .mixedOrders=true):∀(c:Code)(R:Bool)(Qp:Option (List PanicEntry->World->Prop))(r:Option Nat)(_:R=false->r=none)(p:Ann),Sound P n r Qp c (vcC P C n N R Qp c p)
 |.skip,R,Qp,r,_,p=>λQ fr a w j f=>wpIn_skip ⟨fr,j,f,Agr.refl _ _⟩
 | .region id ops false,R,Qp,r,_,p=>jH (c:=.region id ops false) (V:=λQ fr w=>vcL P C n N ops Qp (Q .normal) ops.toList fr w) λQ fr a w j f=>by
  exact wpIn_mono (wpIn_region_list (FU (ws:=writes (.region id ops false)) (a0:=a) t ops.toList (λo E d hd=>List.mem_filterMap.2 ⟨o,E,hd⟩) fr a w j (Agr.refl _ _) f)) λe a' w' he=>mG he
 | .region id ops true,R,Qp,r,_,p=>jH (c:=.region id ops true) (V:=λQ fr w=>match Region.noSelect ops,fF ops.toList with
  | true,true=>(match nb P ops.toList with
   |true=>vcD P C n N ops Qp (Q .normal) ops.size none (Array.replicate ops.size false) fr w.drew
   |false=>∃b:Nat->Nat->Prop,vcD P C n N ops Qp (Q .normal) ops.size (some b) (Array.replicate ops.size false) fr w.drew)
  |_,_=>False) λQ fr a w j f=>by
  dsimp only at f;split at f
  ·rename_i hs UQ;obtain⟨B,f⟩:∃B,vcD P C n N ops Qp (Q .normal) ops.size B (Array.replicate ops.size false) fr w.drew:=by
    split at f
    ·exact⟨_,f⟩
    ·obtain⟨b,f⟩:=f;exact⟨_,f⟩
   exact wpIn_mono (kF hm pW (λo E=>jS UQ o (Array.mem_toList_iff.2 E)) (FX (ws:=writes (.region id ops true)) (a0:=a) t hs (λi o E d hd=>uL E hd) ops.size _ (λ_ _ _=>True) _ fr a w.drew (js.none _ _) (oz.none _ _) j (Agr.refl _ _) f)) λe a' w' he=>mG he
  ·exact f.elim
 | .seq x y,R,Qp,r,s,p=>jH (c:=.seq x y) (V:=λQ fr w=>vcC P C n N R Qp x p.l (λe q w'=>match e with|.normal=>vcC P C n N R Qp y p.r Q q w'|e=>Q e q w') fr w) λQ fr a w j f=>by
  refine wpIn_seq (wpIn_mono (eV t hm x R Qp r s p.l _ fr a w j f) λe a' w' he=>?_);cases e
  case normal=>
   obtain⟨q,z,D,u⟩:=he;refine wpIn_mono (eV t hm y R Qp r s p.r Q q a' w' z D) λe a2 w2 he=>?_;cases e<;>first
    |exact he.elim
    |exact⟨he.1,(u.mono λi hi=>List.mem_append_left _ hi).trans (he.2.mono λi hi=>List.mem_append_right _ hi)⟩
    | (obtain⟨G,H,J,K⟩:=he
       exact⟨G,H,J,(u.mono λi hi=>List.mem_append_left _ hi).trans (K.mono λi hi=>List.mem_append_right _ hi)⟩)
  all_goals first
   |exact he.elim
   |exact⟨he.1,he.2.mono λi hi=>List.mem_append_left _ hi⟩
   | (obtain⟨G,H,J,K⟩:=he
      exact⟨G,H,J,K.mono λi hi=>List.mem_append_left _ hi⟩)
 | .cond c x y,R,Qp,r,s,p=>jH (c:=.cond c x y) (V:=λQ fr w=>match ev fr c with
  |.bool b=>split b (vcC P C n N R Qp x p.l Q fr w) (vcC P C n N R Qp y p.r Q fr w)
  |_=>False) λQ fr a w j f=>by
  dsimp only at f;split at f
  ·rename_i b hb;rw[<-j.eval]at hb;rcases gK f with⟨rfl,L⟩|⟨rfl,L⟩
   ·exact wpIn_cond_true hb (wpIn_mono (eV t hm x R Qp r s p.l Q fr a w j L) λe a' w' he=>he.mono (λi hi=>List.mem_append_left _ hi) (λ_ _ _ h=>h))
   ·exact wpIn_cond_false hb (wpIn_mono (eV t hm y R Qp r s p.r Q fr a w j L) λe a' w' he=>he.mono (λi hi=>List.mem_append_right _ hi) (λ_ _ _ h=>h))
  ·exact f.elim
 | .block id c,R,Qp,r,s,p=>jH (c:=.block id c) (V:=λQ fr w=>vcC P C n N R Qp c p.l (λe q w'=>match e with
  |.exit M=>(match Nat.beq M id with|true=>Q .normal q w'|false=>Q (.exit M) q w')
  |e=>Q e q w') fr w) λQ fr a w j f=>by
  refine wpIn_block (wpIn_mono (eV t hm c R Qp r s p.l _ fr a w j f) λe a' w' he=>?_);cases e
  case exit M=>
   obtain⟨q,z,D,u⟩:=he;simp only at D;simp only[Exit.inBlock];split at D
   ·rename_i hi;rw[if_pos (Nat.eq_of_beq_eq_true hi)];exact⟨q,z,D,u⟩
   ·rename_i hi;rw[if_neg (by rintro rfl;simp at hi)];exact⟨q,z,D,u⟩
  all_goals exact he
 | .loop c,R,Qp,r,s,p=>λQ fr a w j f=>by
  simp only[vcC]at f;split at f
  ·exact f.elim
  ·rename_i live wr ab;split at f
   ·rename_i O;obtain⟨O,TR⟩:=ry O;obtain⟨I,⟨m0,h0⟩,Ve⟩:=f;refine pB (λm a' w'=>∃q,Rep n q a'/\FY live (I m) q w'/\Agr (writes c) a a') m0 ⟨fr,j,h0,Agr.refl _ _⟩ ?_;rintro m a1 w1 ⟨XL,VL,hj,u⟩;obtain⟨vs,aa,SB⟩:=tX live (I m) XL w1 hj;have TO:=yE j VL (u.mono O) TR aa;refine wpIn_mono (eV t hm c R Qp r s p.l _ _ a1 w1 TO (SB _ (Ve m _))) λe a' w' he=>?_;cases e
    case normal=>
     obtain⟨q,z,⟨m',RV,WZ⟩,W⟩:=he;exact⟨m',RV,q,z,WZ,u.trans W⟩
    case panic=>exact⟨he.1,u.trans he.2⟩
    case outgrown=>exact he
    all_goals
     obtain⟨q,z,hq,W⟩:=he;exact⟨q,z,hq,u.trans W⟩
   ·exact f.elim
 |.exit id,R,Qp,r,_,p=>λQ fr a w j f=>wpIn_exit ⟨fr,j,by cases R<;>exact f,Agr.refl _ _⟩
 |.ret,R,Qp,r,_,p=>λQ fr a w j f=>wpIn_ret ⟨fr,j,by cases R<;>exact f,Agr.refl _ _⟩
 | .rangeFunc g ps assign body,false,Qp,r,s,p=>by
  obtain rfl:=s rfl;exact Ao t (λl=>eV t hm assign true none (some l) (by simp) p.l) (λl=>eV t hm body true none (some l) (by simp) p.r)
 |.rangeFunc _ _ _ _,true,_,_,_,_=>λQ fr a w j f=>by simp only[vcC]at f
 | .scope c,false,Qp,r,s,p=>by
  obtain rfl:=s rfl;refine jH (c:=.scope c) (V:=λQ fr w=>vcC P C n N false Qp c p.l (λe q w'=>match e with
   |.goto _=>False
   |e=>Q e q w') fr w) λQ fr a w j f=>?_
  refine(wpIn_wide (n:=0)).2 (wp_scope_straight ((wpIn_wide (n:=0)).1 (wpIn_mono (eV t hm c false Qp none (λ_=>rfl) p.l _ fr a w j f) λe a' w' he=>?_)));cases e
  case goto l=>obtain⟨_,_,h,_⟩:=he;exact h.elim
  all_goals exact he
 |.scope _,true,_,_,_,_=>λQ fr a w j f=>by simp only[vcC]at f
 |.label _,R,_,_,_,_=>λQ fr a w j f=>wpIn_label ⟨fr,j,by cases R<;>exact f,Agr.refl _ _⟩
 |.goto _,R,_,_,_,_=>λQ fr a w j f=>by cases R<;>simp only[vcC]at f
 |.refuse _,R,_,_,_,_=>λQ fr a w j f=>by cases R<;>simp only[vcC]at f
end
def pV(P:Program)(fr:Fr)(w:World):List ResultVar->(List Value->Prop)->Prop
 | [],F=>F []
 |.tmp t::r,F=>pV P fr w r λvs=>F (lk fr.g t fr.e::vs)
 | .cell a t::r,F=>match lk fr.g a fr.e with
  | .pointer p=>match ej P t,vp P t (uh (ej P t)) && hasType P t && Nat.beq (jh (ej P t)) (aZ P t)with
   |s,true=>aF p λp=>s.ex λv=>jy w p s v/\pV P fr w r λvs=>F (v::vs)
   |_,false=>False
  |_=>False
def PN(P:Program)(rs:List ResultVar)(R:aV)(fr:Fr)(w:World):Prop:=
 pV P fr w rs λvs=>match vs with
  | [v]=>R v w
  |vs=>R (.tuple ⟨vs⟩) w
def uU(P:Program)(rs:List ResultVar)(R:aV)(fr:Fr):List Deferred->World->Prop
 | [],w=>PN P rs R fr w
 | d::ds,w=>match d.target with
  |.collected D=>w.heap[D]? =some (.deferred (some []))/\uU P rs R fr ds (w.putObj D (.deferred none))
  |_=>False
def num:Nat->List Value->List (Nat×Value)
 |_,[]=>[]
 |i,v::r=>(i,v)::num (i+1) r
def Fi {α:Type}:Option α->Bool
 |none=>false
 |some _=>true
def vcF(P:Program)(C N:List Nat)(fn:Func)(b:Ann)(args:List Value)(R:aV)(Qp:Option (List PanicEntry->World->Prop))(w:World):Prop:=
 match fn.body,Nat.ble args.length fn.ntmps with
 | some c,true=>(match Fi Qp && (writes c).elem sG with
  |true=>False
  | false=>vcC P C fn.ntmps N false Qp c b (λe fr w'=>match e with
   |.normal=>uU P fn.results.toList R fr fr.ds w'
   |.ret=>uU P fn.results.toList R fr fr.ds w'
   |_=>False) ⟨num 0 args,λ_=>undef,[]⟩ w)
 |_,_=>False
section
variable {P:Program}{C N:List Nat}
def my(tmps:Array Value):ResultVar->Sem Value
 |.tmp t=>pure (tmps.getD t undef)
 |.cell a t=>do loadVar t (<-asAddr (tmps.getD a undef))
theorem mE {fr:Fr}{w:World}{tmps:Array Value}(b:∀i,tmps.getD i undef=lk fr.g i fr.e):∀(rs:List ResultVar){F:List Value->Prop},pV P fr w rs F->
 ∃vs,F vs/\(rs.mapM (my tmps)).run P w=.ok vs w
 | [],F,h=>⟨[],h,rfl⟩
 | .tmp t::r,F,h=>by
  obtain⟨vs,f,j⟩:=mE b r h;refine⟨_,f,?_⟩;have m:(my tmps (.tmp t)).run P w=.ok (lk fr.g t fr.e) w:=by rw[<-b];rfl
  rw[List.mapM_cons,Sem.run_bind,m];show(Sem.run P (do let u <-r.mapM (my tmps);pure (lk fr.g t fr.e::u)) w)=_;rw[Sem.run_bind,j];rfl
 | .cell a t::r,F,h=>by
  simp only[pV]at h;split at h
  ·rename_i p hp;split at h
   ·rename_i s hs d;simp only[Bool.and_eq_true]at d;obtain⟨q,rfl,x⟩:=dq h;obtain⟨v,y,z⟩:=Sh2.lM x;obtain⟨vs,f,j⟩:=mE b r z;have:=mC (P:=P) d.1.1 d.1.2 d.2 y;refine⟨_,f,?_⟩;have m:(my tmps (.cell a t)).run P w=.ok v w:=by
     show(do loadVar t (<-asAddr (tmps.getD a undef)):Sem Value).run P w=_;rw[b,hp];exact this
    rw[List.mapM_cons,Sem.run_bind,m];show(Sem.run P (do let u <-r.mapM (my tmps);pure (v::u)) w)=_;rw[Sem.run_bind,j];rfl
   ·exact h.elim
  ·exact h.elim
theorem It {fn:Func}{fr:Fr}{w:World}{tmps:Array Value}{R:aV}(d:∀i,tmps.getD i undef=lk fr.g i fr.e)(h:PN P fn.results.toList R fr w):
 ∃v,R v w/\(results fn tmps).run P w=.ok v w:=by
 obtain⟨vs,b,f⟩:=mE d _ h;have hm:(fn.results.mapM (my tmps)).run P w=.ok ⟨vs⟩ w:=by
  rw[Array.mapM_eq_mapM_toList];simp[f]
 have j:results fn tmps=(do let vs <-fn.results.mapM (my tmps);pure (if h:vs.size=1 then vs[0]else .tuple vs)):=by
  unfold results my;congr 1
 rw[j,Sem.run_bind,hm];cases vs with
 |nil=>exact⟨_,b,rfl⟩
 | cons v r=>
  cases r with
  |nil=>exact⟨_,b,rfl⟩
  |cons u r=>exact⟨_,b,rfl⟩
theorem uR(g:Nat->Value):∀(l:List Value)(k i:Nat),lk g i (num k l)=if h:k<=i/\i - k<l.length then l[i - k]'h.2 else g i
 | [],k,i=>by simp[num,lk]
 | v::r,k,i=>by
  simp only[num,lk];split
  ·rename_i h;obtain rfl:=Nat.eq_of_beq_eq_true h;simp
  ·rename_i h;have d:i≠k:=by rintro rfl;simp at h
   rw[uR g r (k+1) i];by_cases b:k+1<=i/\i - (k+1)<r.length
   ·rw[dif_pos b,dif_pos ⟨by omega,by simp;omega⟩];have:i - k=(i - (k+1))+1:=by omega
    simp[this]
   ·rw[dif_neg b,dif_neg (by simp;omega)]
theorem oV {fn:Func}{fr:Fr}{tmps:Array Value}{R:aV}{b:Ending->World->Prop}(f:∀v w,R v w->b (.returned v) w)(j:∀i,tmps.getD i undef=lk fr.g i fr.e):∀(ds:List Deferred)(w:World),uU P fn.results.toList R fr ds w->
 LeavesInM (WF none) 0 P fn tmps b ds .returning w
 | [],w,h=>by
  obtain⟨v,m,p⟩:=It j h;exact⟨v,p,f _ _ m⟩
 | d::ds,w,h=>by
  simp only[uU]at h;split at h
  ·rename_i D q;exact⟨by simp,.inl ⟨D,_,q,run_takeDeferred h.1,oV f j ds _ h.2⟩⟩
  ·exact h.elim
theorem Bp {f:FuncId}{fn:Func}{args:List Value}{m:Ann}{R:aV}{Qp:Option (List PanicEntry->World->Prop)}{w:World}(s:P.funcs[f]? =some fn)(t:eO P C=true)(hm:P.follows .mixedOrders=true)
 (h:vcF P C N fn m args R Qp w):Calls P f ⟨args⟩ w λe w'=>(∃v,e=.returned v/\R v w')\/∃ch,e=.panicked ch/\QpP Qp ch w':=by
 unfold vcF at h;split at h
 ·rename_i c hb u;have z:args.length<=fn.ntmps:=Nat.le_of_ble_eq_true u;split at h
  ·exact h.elim
  rename_i hq;refine(callsIn_wide (n:=0)).1 (callsIn_of_wp_marks (F:=WF none) s hb trivial ?_);have x:Rep fn.ntmps ⟨num 0 args,λ_=>undef,[]⟩ {tmps:=(⟨args⟩:Array Value)++Array.replicate (fn.ntmps - (⟨args⟩:Array Value).size) undef,defers:= []}:=by
   refine⟨by simp;omega,λi=>?_,rfl⟩;rw[uR];simp only[Nat.zero_le,Nat.sub_zero,true_and,Array.getD_eq_getD_getElem?];by_cases hi:i<args.length
   ·rw[dif_pos hi,Array.getElem?_append_left (by simpa using hi)];simp[hi]
   ·rw[dif_neg hi,Array.getElem?_append_right (by simpa using hi)];rw[Array.getElem?_replicate];split<;>rfl
  refine wpIn_mono (eV t hm c false Qp none (λ_=>rfl) m _ _ _ w x h) λe a' w' he=>?_;cases e
  case normal=>
   obtain⟨fr,b,d,_⟩:=he;show LeavesInM _ _ _ _ _ _ _ _ _;rw[b.defers];exact oV (λv w j=>.inl ⟨v,rfl,j⟩) b.get _ _ d
  case ret=>
   obtain⟨fr,b,d,_⟩:=he;show LeavesInM _ _ _ _ _ _ _ _ _;rw[b.defers];exact oV (λv w j=>.inl ⟨v,rfl,j⟩) b.get _ _ d
  case panic ch=>
   obtain⟨p,y⟩:=he;cases Qp with
   |none=>exact p.elim
   | some q=>
    simp only[Fi,Bool.true_and]at hq;have hd:=y.defers (λhm=>by rw[List.elem_iff.2 hm]at hq;cases hq);show LeavesInM _ _ _ _ _ _ _ _ _;rw[hd];exact .inr ⟨ch,rfl,p⟩
  case outgrown=>exact he.elim
  all_goals obtain⟨_,_,h,_⟩:=he;exact h.elim
 ·exact h.elim
theorem wy {f:FuncId}{fn:Func}{args:List Value}{b:Ann}{R:aV}{w:World}(d:P.funcs[f]? =some fn)(i:eO P C=true)(hm:P.follows .mixedOrders=true)
 (h:vcF P C N fn b args R none w):Calls P f ⟨args⟩ w λe w'=>∃v,e=.returned v/\R v w':=
 (Bp d i hm h).mono λe w' he=>by
  rcases he with he|⟨_,_,he⟩
  ·exact he
  ·exact he.elim
end
end
section
theorem ay {x:Int}(h: -9223372036854775808<=x/\x<=9223372036854775807):i64.wrap x=x:=IntWalk.i64_in x h
theorem u32_eq(x:Int):u32.wrap x=x % 4294967296:=by rw[wrap_u32]
theorem dV {x:Int}(h:0<=x/\x<4294967296):u32.wrap x=x:=by rw[u32_eq];omega
variable {P:Program}{w w0 w1 w2 w3 w':World}{g g':Nat}{cs cs':Array Value}{T T':TypeId}{X Y Z:Nat->Prop}{v:Value}
theorem Blk.lt(h:Blk w g cs T):g<w.heap.size:=(Array.getElem?_eq_some_iff.1 h).1
theorem Blk.cell(h:Blk w g cs T){i:Nat}(hi:cs[i]? =some v):w.cell? ⟨g,i,none⟩=some v:=by
 unfold Blk at h;simp[World.cell?,h,hi]
theorem Blk.at(h:Blk w g cs T){i:Nat}(hi:cs[i]? =some v):w.cell? ((Addr.mk g 0 none).add i)=some v:=by
 rw[aY,Nat.zero_add];exact h.cell hi
theorem Blk.kept {B:Nat->Prop}(h:Blk w g cs T)(b:Kept B w w')(hb:B g):Blk w' g cs T:=(b.block g hb).trans h
theorem Blk.drew(h:Blk w g cs T):Blk w.drew g cs T:=h
theorem Blk.inj(h:Blk w g cs T)(b:Blk w g cs' T'):cs=cs'/\T=T':=by
 unfold Blk at h b;rw[h]at b;simpa using b
theorem Kept.drew {B:Nat->Prop}(h:Kept B w w'):Kept B w w'.drew:=⟨h.os,h.tape,h.output,h.size,h.block⟩
structure Made(w:World)(g:Nat)(cs:Array Value)(T:TypeId)(w2:World):Prop where
 num:g=w.heap.size
 blk:Blk w2 g cs T
 kept:Kept (λk=>k<w.heap.size) w w2
 size:w2.heap.size=w.heap.size+1
theorem made(b:g=w.heap.size)(hw:w2=w.alloc (.cells cs T)):Made w g cs T w2:=by
 subst b;subst hw;exact⟨rfl,World.alloc_heap_new w _,Kept.zi w _,by simp⟩
structure Ch(X:Nat->Prop)(w0 w:World):Prop where
 kept:Kept (λk=>k<w0.heap.size/\¬X k) w0 w
abbrev Pu(w0 w:World):Prop:=Ch (λ_=>False) w0 w
theorem Ch.refl(X:Nat->Prop)(w:World):Ch X w w:=⟨Kept.refl _ _⟩
theorem Ch.size(h:Ch X w0 w):w0.heap.size<=w.heap.size:=h.kept.size
theorem Ch.call(h:Ch X w0 w)(k:Ch Y w w2)(b:∀k,Y k->X k\/w0.heap.size<=k):Ch X w0 w2:=
 ⟨h.kept.trans (k.kept.mono λi hi=>⟨Nat.lt_of_lt_of_le hi.1 h.size,λd=>(b i d).elim hi.2 (λhle=>absurd hi.1 (by omega))⟩)⟩
theorem Ch.trans(h:Ch X w0 w)(k:Ch X w w2):Ch X w0 w2:=h.call k λ_ h=>.inl h
theorem Ch.pu(h:Ch X w0 w)(k:Pu w w2):Ch X w0 w2:=h.call k λ_ h=>h.elim
theorem Ch.made(h:Ch X w0 w)(hm:Made w g cs T w2):Ch X w0 w2:=
 h.pu ⟨hm.kept.mono λ_ h=>h.1⟩
theorem Ch.stored(h:Ch X w0 w)(hs:cp w g cs T w2)(b:X g\/w0.heap.size<=g):Ch X w0 w2:=
 h.call (Y:=λk=>k=g) ⟨hs.kept.mono λ_ h=>h.2⟩ λk d=>by cases d;exact b
theorem Ch.drew(h:Ch X w0 w):Ch X w0 w.drew:=⟨h.kept.drew⟩
theorem Ch.mono(h:Ch X w0 w)(d:∀k,X k->Y k):Ch Y w0 w:=⟨h.kept.mono λk b=>⟨b.1,λh=>b.2 (d k h)⟩⟩
theorem Ch.blk(h:Ch X w0 w)(hb:Blk w0 g cs T)(b:¬X g):Blk w g cs T:=hb.kept h.kept ⟨hb.lt,b⟩
theorem Pu.blk(h:Pu w0 w)(hb:Blk w0 g cs T):Blk w g cs T:=Ch.blk h hb (by simp)
theorem Ch.ij {B:Nat->Prop}(h:Ch X w0 w)(hb:∀k,B k->k<w0.heap.size/\¬X k):Kept B w0 w:=h.kept.mono hb
theorem Pu.ij {B:Nat->Prop}(h:Pu w0 w)(hb:∀k,B k->k<w0.heap.size):Kept B w0 w:=h.kept.mono λk b=>⟨hb k b,by simp⟩
theorem Kept.pu(h:Kept (λk=>k<w.heap.size) w w2):Pu w w2:=⟨h.mono λ_ h=>h.1⟩
theorem Made.pu(h:Made w g cs T w2):Pu w w2:=h.kept.pu
theorem Pu.aU(w:World):Pu w w.drew:=(Ch.refl _ w).drew
theorem Made.old(h:Made w g cs T w2)(hb:Blk w g' cs' T'):Blk w2 g' cs' T':=hb.kept h.kept hb.lt
theorem Made.lt(h:Made w g cs T w2):g<w2.heap.size:=h.blk.lt
theorem cp.old(h:cp w g cs T w2)(hb:Blk w g' cs' T')(b:g'≠g):Blk w2 g' cs' T':=hb.kept h.kept b
theorem bB {K:World->Prop}{i:Nat}{vs:List Value}(hb:Blk w g cs T)(hi:i+vs.length<=cs.size)(h:∀w2,cp w g (setAt cs i vs) T w2->K w2):aB w ((Addr.mk g 0 none).add i) vs K:=
 ⟨g,i,cs,T,by rw[aY,Nat.zero_add],hb,hi,h⟩
theorem bz {K:World->Prop}{vs:List Value}(hb:Blk w g cs T)(hi:vs.length<=cs.size)(h:∀w2,cp w g (setAt cs 0 vs) T w2->K w2):aB w (Addr.mk g 0 none) vs K:=
 ⟨g,0,cs,T,rfl,hb,by omega,h⟩
theorem eJ {K:World->Prop}{i:Nat}{vs:List Value}(hb:Blk w g cs T)(hi:i+vs.length<=cs.size)(h:∀w2,cp w g (setAt cs i vs) T w2->K w2):aB w (Addr.mk g i none) vs K:=
 ⟨g,i,cs,T,rfl,hb,hi,h⟩
theorem kK(cs:Array Value)(i:Nat)(v:Value):setAt cs i [v]=cs.setIfInBounds i v:=rfl
theorem eW:∀(vs:List Value)(cs:Array Value)(o i:Nat),o+vs.length<=cs.size->(setAt cs o vs)[i]? =if o<=i/\i<o+vs.length then vs[i - o]? else cs[i]?
 | [],cs,o,i,_=>by simp[setAt];intro b d;omega
 | v::r,cs,o,i,h=>by
  simp only[List.length_cons]at h;rw[setAt,eW r _ (o+1) i (by simp;omega)];by_cases b:o+1<=i/\i<o+1+r.length
  ·rw[if_pos b,if_pos (by simp;omega)];obtain⟨j,rfl⟩:∃j,i=o+1+j:=⟨i - (o+1),by omega⟩;rw[show o+1+j - (o+1)=j by omega,show o+1+j - o=j+1 by omega];rfl
  ·rw[if_neg b];by_cases d:i=o
   ·subst d;rw[if_pos (by simp)];simp[Array.getElem?_setIfInBounds];omega
   ·rw[if_neg (by simp;omega),Array.getElem?_setIfInBounds,if_neg (by omega)]
structure dz(w:World)(Z:Nat->Prop)(k:IntKind)(A:Option Addr)(n c:Nat)(l:List Int):Prop where
 len:l.length=n
 cap:n<=c
 cell:∀j x,l[j]? =some x->∃p,A=some p/\Z p.block/\w.cell? (p.add j)=some (.int k x)
section
variable {k:IntKind}{A:Option Addr}{n c:Nat}{l:List Int}
theorem add_add(p:Addr)(i j:Nat):(p.add i).add j=p.add (i+j):=by
 unfold Addr.add;by_cases hi:i=0<;>by_cases b:j=0<;>simp[hi,b,Nat.add_assoc]
theorem Blk.at2(h:Blk w g cs T){i j:Nat}(hi:cs[i+j]? =some v):w.cell? (((Addr.mk g 0 none).add i).add j)=some v:=by
 rw[add_add];exact h.at hi
theorem dz.kept {B:Nat->Prop}(h:dz w Z k A n c l)(b:Kept B w w')(hb:∀k,Z k->B k):dz w' Z k A n c l:=
 ⟨h.len,h.cap,λj x d=>by
  obtain⟨p,f,hp,i⟩:=h.cell j x d;exact⟨p,f,hp,(b.cell (by rw[block_add];exact hb _ hp)).trans i⟩⟩
theorem dz.ch(h:dz w Z k A n c l)(d:Ch X w w')(hb:∀k,Z k->¬X k):dz w' Z k A n c l:=
 ⟨h.len,h.cap,λj x f=>by
  obtain⟨p,i,hp,b⟩:=h.cell j x f;refine⟨p,i,hp,(d.kept.cell ⟨World.block_lt_of_cell? w _ b,?_⟩).trans b⟩;rw[block_add];exact hb _ hp⟩
theorem dz.pu(h:dz w Z k A n c l)(b:Pu w w'):dz w' Z k A n c l:=h.ch b (by simp)
theorem dz.mono(h:dz w Z k A n c l)(hb:∀k,Z k->Y k):dz w Y k A n c l:=
 ⟨h.len,h.cap,λj x b=>by
  obtain⟨p,d,hp,f⟩:=h.cell j x b;exact⟨p,d,hb _ hp,f⟩⟩
theorem dz.drew(h:dz w Z k A n c l):dz w.drew Z k A n c l:=⟨h.len,h.cap,h.cell⟩
theorem dz.nil:dz w Z k none 0 c []:=⟨rfl,Nat.zero_le _,by simp⟩
theorem dz.blk(h:Blk w g cs T)(b:Z g){m:Nat}(d:n<=c)(f:l.length=n)(hm:∀j x,l[j]? =some x->cs[m+j]? =some (.int k x)):dz w Z k (some (Addr.mk g m none)) n c l:=
 ⟨f,d,λj x i=>⟨_,rfl,b,by rw[aY];exact h.cell (hm j x i)⟩⟩
theorem dz.rd {i:Int}{K:Int->Prop}(h:dz w Z k A n c l)(d:0<=i)(f:i<(n:Int))(j:K (l.getD i.toNat 0)):
 (0<=i/\i<((n:Nat):Int))/\aF A λp=>∃x:Int,w.cell? (p.add (i.toNat *1))=some (.int k x)/\K x:=by
 have s:=h.len;have b:i.toNat<l.length:=by omega
 obtain⟨p,m,_,q⟩:=h.cell i.toNat _ (List.getElem?_eq_getElem b);refine⟨⟨d,f⟩,au p m ⟨_,by rw[Nat.mul_one];exact q,?_⟩⟩
 rwa[List.getD_eq_getElem?_getD,List.getElem?_eq_getElem b]at j
theorem dz.rdB {i:Int}{B:Nat->Prop}{K:Int->Prop}(h:dz w Z k A n c l)(d:0<=i)(f:i<(n:Int))(hb:∀k,Z k->B k)(j:K (l.getD i.toNat 0)):
 (0<=i/\i<((n:Nat):Int))/\aF A λp=>B ((p.add (i.toNat *1)).block)/\∃x:Int,w.cell? (p.add (i.toNat *1))=some (.int k x)/\K x:=by
 have s:=h.len;have b:i.toNat<l.length:=by omega
 obtain⟨p,m,hp,q⟩:=h.cell i.toNat _ (List.getElem?_eq_getElem b);refine⟨⟨d,f⟩,au p m ⟨by rw[block_add];exact hb _ hp,_,by rw[Nat.mul_one];exact q,?_⟩⟩
 rwa[List.getD_eq_getElem?_getD,List.getElem?_eq_getElem b]at j
theorem dz.cut {lo hi m:Nat}{A':Option Addr}{n' c':Nat}(h:dz w Z k A n c l)(d:A'=(if m=lo then A else A.map (·.add (lo*1))))(i:n'=hi - lo)(q:c'=m - lo)(s:lo<=hi)(t:hi<=n)(u:hi<=m):
 dz w Z k A' n' c' ((l.take hi).drop lo):=by
 have y:=h.len;refine⟨by simp;omega,by omega,λj x b=>?_⟩;rw[List.getElem?_drop,List.getElem?_take]at b;split at b
 ·rename_i z;obtain⟨p,hp,hb,f⟩:=h.cell _ x b;rw[if_neg (by omega)]at d;subst hp;refine⟨p.add (lo*1),by rw[d];rfl,by rw[block_add];exact hb,?_⟩;rw[add_add,Nat.mul_one];exact f
 ·cases b
end
end
section
variable {P:Program}{w w0 w1 w2 w3 w':World}{g g':Nat}{cs cs':Array Value}{T T':TypeId}{X Y Z:Nat->Prop}{v:Value}
theorem Blk.cast(h:Blk w g cs T)(e:cs'=cs):Blk w g cs' T:=e▸h
theorem mkd {K:Nat->World->Prop}(h:∀g w2,Made w g cs T w2->K g w2):∀(g:Nat)(w2:World),g=w.heap.size->w2=w.alloc (.cells cs T)->K g w2:=
 λg w2 b hw=>h g w2 (made b hw)
theorem Made.lo(m:Made w g cs T w2)(hp:Ch X w0 w):w0.heap.size<=g:=by rw[m.num];exact hp.size
theorem Made.ne(m:Made w g cs T w2)(b:Blk w g' cs' T'):g'≠g:=by have:=b.lt;rw[m.num];omega
theorem Made.off(m:Made w g cs T w2)(h:∀k,X k->k<w.heap.size):¬X g:=λb=>by have:=h g b;rw[m.num]at this;omega
theorem cp.ch(s:cp w g cs T w2):Ch (λk=>k=g) w w2:=⟨s.kept.mono λ_ h=>h.2⟩
def bX(w:World)(Y:Nat->Prop):Nat->Prop:=λk=>k<w.heap.size/\¬Y k
theorem bX.ld(b:Blk w g cs T)(d:¬Y g)(i:Nat):bX w Y ((Addr.mk g 0 none).add i).block:=by
 rw[block_add];exact⟨b.lt,d⟩
theorem bX.lt(h:g<w.heap.size)(b:¬Y g):bX w Y g:=⟨h,b⟩
def bXU(U V:List Nat)(w:World)(Y:Nat->Prop):Nat->Nat->Prop:=λi k=>V.elem i=true\/(U.elem i=true/\bX w Y k)
theorem bXU.any {U V l:List Nat}(b:l.all (λi=>!(V.elem i))=true){k:Nat}(h:bY (bXU U V w Y) l k):bX w Y k:=by
 induction l with
 |nil=>exact h.elim
 | cons i r d=>
  simp only[List.all_cons,Bool.and_eq_true,Bool.not_eq_true']at b;have hd:bXU U V w Y i k->bX w Y k:=λh=>h.elim (λh=>by rw[b.1]at h;cases h) (·.2);cases r with
  |nil=>exact hd h
  |cons j r=>exact h.elim hd (d b.2)
theorem bXU.more {U V l:List Nat}{F:(Nat->Nat->Prop)->Prop}(q:Ch Z w w2)(d:∀k,Z k->Y k\/w.heap.size<=k)(f:l.all (λi=>!(V.elem i))=true)(h:F (bXU U V w2 Y)):Kept (bY (bXU U V w Y) l) w w2/\∃b2:Nat->Nat->Prop,(∀i k,bXU U V w Y i k->b2 i k)/\F b2:=
 ⟨q.kept.mono λk b=>by
  have hb:=bXU.any f b;exact⟨hb.1,λj=>(d k j).elim hb.2 λh=>absurd hb.1 (Nat.not_lt.2 h)⟩,_,λi k b=>b.imp id λhu=>⟨hu.1,Nat.lt_of_lt_of_le hu.2.1 q.size,hu.2.2⟩,h⟩
theorem bXU.iX {U V l:List Nat}{F:(Nat->Nat->Prop)->Prop}(q:Pu w w2)(b:l.all (λi=>!(V.elem i))=true)(h:F (bXU U V w2 Y)):Kept (bY (bXU U V w Y) l) w w2/\∃b2:Nat->Nat->Prop,(∀i k,bXU U V w Y i k->b2 i k)/\F b2:=
 bXU.more q (λ_ h=>h.elim) b h
theorem bXU.grow {U V:List Nat}{F:(Nat->Nat->Prop)->Prop}(q:Ch Z w w2)(h:F (bXU U V w2 Y)):∃b2:Nat->Nat->Prop,(∀i k,bXU U V w Y i k->b2 i k)/\F b2:=
 ⟨_,λi k b=>b.imp id λhu=>⟨hu.1,Nat.lt_of_lt_of_le hu.2.1 q.size,hu.2.2⟩,h⟩
theorem bXU.Qz {V:List Nat}:∀ {l:List Nat}(_:l.all (λi=>!(V.elem i))=true){k:Nat},¬bY (bXU [] V w Y) l k
 | [],_,_,h=>h
 | [i],b,k,h=>by
  simp only[List.all_cons,Bool.and_eq_true,Bool.not_eq_true']at b;rcases h with h|h
  ·rw[b.1]at h;cases h
  ·cases h.1
 | i::j::r,b,k,h=>by
  simp only[List.all_cons,Bool.and_eq_true,Bool.not_eq_true']at b;rcases h with(h|h)|h
  ·rw[b.1]at h;cases h
  ·cases h.1
  ·exact bXU.Qz (l:=j::r) (by simp only[List.all_cons,Bool.and_eq_true,Bool.not_eq_true'];exact b.2) h
theorem bXU.xy {V l:List Nat}{F:(Nat->Nat->Prop)->Prop}(q:Ch Z w w2)(d:l.all (λi=>!(V.elem i))=true)(h:F (bXU [] V w2 Y)):Kept (bY (bXU [] V w Y) l) w w2/\∃b2:Nat->Nat->Prop,(∀i k,bXU [] V w Y i k->b2 i k)/\F b2:=
 ⟨q.kept.mono λ_ b=>absurd b (bXU.Qz d),_,λ_ _ b=>b.imp id λhu=>(by cases hu.1),h⟩
theorem wB {a0 b b0 b1:Value}(d:a0=b0)(f:b=b1):(#[a0,b]:Array Value)= #[b0,b1]:=by subst d;subst f;rfl
theorem Mm {a0 b d f h i j m b0 b1 b2 b3 b4 b5 b6 b7:Value}(p:a0=b0)(q:b=b1)(s:d=b2)(t:f=b3)(u:h=b4)(x:i=b5)(y:j=b6)(z:m=b7):(#[a0,b,d,f,h,i,j,m]:Array Value)= #[b0,b1,b2,b3,b4,b5,b6,b7]:=by subst p;subst q;subst s;subst t;subst u;subst x;subst y;subst z;rfl
theorem eK {x y:Prop}(h:x):split true x y:=ao (λ_=>h) (λe=>nomatch e)
theorem jw {x y:Prop}(h:y):split false x y:=ao (λe=>nomatch e) (λ_=>h)
theorem av {p:Prop} [Decidable p]{x y:Prop}(b:p->x)(d:¬p->y):split (decide p) x y:=
 ao (λh=>b (of_decide_eq_true h)) (λh=>d (of_decide_eq_false h))
theorem ud {p:Prop} [Decidable p]{x y:Prop}(b:¬p->x)(d:p->y):split (!decide p) x y:=
 ao (λh=>b (by simpa using h)) (λh=>d (by simpa using h))
theorem dj {b:Bool}{x y:Prop}(d:b=false->x)(f:b=true->y):split (!b) x y:=
 ao (λh=>d (by simpa using h)) (λh=>f (by simpa using h))
theorem ar {a b:Int}{x y:Prop}(d:a=b->x)(f:¬a=b->y):split (a==b) x y:=
 ao (λh=>d (by simpa using h)) (λh=>f (by simpa using h))
theorem ax {a b:Int}{x y:Prop}(d:¬a=b->x)(f:a=b->y):split (a !=b) x y:=
 ao (λh=>d (by simpa using h)) (λh=>f (by simpa using h))
theorem bZ {a b:Bool}{x y:Prop}(d:a=true\/b=true->x)(f:a=false/\b=false->y):split (a || b) x y:=
 ao (λh=>d (by simpa using h)) (λh=>f (by simpa using h))
theorem cT {a b:Bool}{x y:Prop}(d:a=true/\b=true->x)(f:¬(a=true/\b=true)->y):split (a && b) x y:=
 ao (λh=>d (by simpa using h)) (λh=>f (by simpa using h))
end
section
variable {P:Program}{w w0 w1 w2 w3 w':World}{g g':Nat}{cs cs':Array Value}{T T':TypeId}{X Y Z:Nat->Prop}{v:Value}
structure S1(P:Program)(t e:TypeId)(z:Value)(bytes:Nat):Prop where
 und:P.underlying t=some (.slice e)
 info:∃i,P.info? e=some i/\i.zero=some z/\i.size=1/\i.bytes=bytes
 cells:z.cells= #[z]
theorem S1.of {t e:TypeId}{z:Value}{bytes:Nat}(h:P.underlying t=some (.slice e))(b:(P.info? e).map (λi=>(i.zero,i.size,i.bytes))=some (some z,1,bytes))(d:z.cells= #[z]):S1 P t e z bytes:=by
 refine⟨h,?_,d⟩;cases hi:P.info? e with
 |none=>rw[hi]at b;cases b
 |some i=>rw[hi]at b;simp at b;exact⟨i,rfl,b.1,b.2.1,b.2.2⟩
structure SN(P:Program)(t e:TypeId)(z:Value)(size bytes:Nat):Prop where
 und:P.underlying t=some (.slice e)
 info:∃i,P.info? e=some i/\i.zero=some z/\i.size=size/\i.bytes=bytes
 cells:z.cells.size=size
 pos:0<size
theorem SN.of {t e:TypeId}{z:Value}{size bytes:Nat}(h:P.underlying t=some (.slice e))(b:(P.info? e).map (λi=>(i.zero,i.size,i.bytes))=some (some z,size,bytes))(d:z.cells.size=size)(f:0<size):SN P t e z size bytes:=by
 refine⟨h,?_,d,f⟩;cases hi:P.info? e with
 |none=>rw[hi]at b;cases b
 |some i=>rw[hi]at b;simp at b;exact⟨i,rfl,b.1,b.2.1,b.2.2⟩
theorem S1.sn {t e:TypeId}{z:Value}{bytes:Nat}(h:S1 P t e z bytes):SN P t e z 1 bytes:=⟨h.und,h.info,by rw[h.cells];rfl,by omega⟩
theorem j7 {t e:TypeId}{z:Value}{bytes:Nat}(h:S1 P t e z bytes){n:Int}(d:0<=n)(f:(bytes:Int)*n<=281474976710656)(j:n<=9223372036854775807){K:Option Addr->Nat->Nat->World->Prop}
 (m:∀g w2,Made w g (Array.replicate n.toNat z) e w2->K (some (Addr.mk g 0 none)) n.toNat n.toNat w2):
 ∃(A:Option Addr)(N C:Nat)(w2:World),(Instr.makeSlice t (.int .i64 n) (.int .i64 n):Sem Value).run P w=.ok (.slice A N C) w2/\K A N C w2:=by
 obtain⟨i,hi,p,hs,hb⟩:=h.info;have b:=run_make (P:=P) w t e i z h.und hi p .i64 .i64 n n d (Int.le_refl _) (by rw[hb];exact f) j;have hm:madeCells z.cells (n.toNat *i.size)=Array.replicate n.toNat z:=by
  apply Array.ext';rw[h.cells,hs,Nat.mul_one,toList_madeCells_one];simp
 rw[hm]at b;exact⟨_,_,_,_,b,m _ _ (made rfl rfl)⟩
theorem gy(g:Nat)(T:TypeId):∀(vs:List Value)(o:Nat)(w:World)(cs:Array Value),Blk w g cs T->cp w g (setAt cs o vs) T (w.setCells g o vs)
 | [],o,w,cs,h=>⟨h,Kept.refl _ _,rfl⟩
 | v::r,o,w,cs,h=>by
  have b:=h.set o v;exact b.trans (gy g T r (o+1) _ _ b.blk)
theorem JU {t e ty:TypeId}{z:Value}{bytes:Nat}(h:S1 P t e z bytes)(b:z.oneCell'=true)(hb:Blk w g cs T){o n c:Nat}(d:0<n)(hs:o+n<=cs.size){K:World->Prop}
 (f:∀w2,cp w g (setAt cs o (List.replicate n z)) T w2->K w2):
 ∃w2,(Builtin.clear_ #[t] ty #[.slice (some (Addr.mk g o none)) n c]:Sem Value).run P w=.ok (.tuple #[]) w2/\K w2:=by
 obtain⟨i,hi,m,_,_⟩:=h.info;have p:∀w,(zeroValue e).run P w=.ok z w:=λw=>by simp[zeroValue,typeInfo,hi,m]
 have q:∀j,j<n->(w.cell? ⟨g,o+j,none⟩).isSome=true:=λj s=>by
  have:cs[o+j]? =some (cs[o+j]'(by omega)):=Array.getElem?_eq_getElem (by omega);rw[hb.cell this];rfl
 have u:∀j,j<n->w.frozen? ⟨g,o+j,none⟩=false:=λj s=>by
  unfold Blk at hb;simp[World.frozen?,hb]
 exact⟨_,Go.Lib.run_clear_slice w t e ty z h.und p h.cells b g o n c d q u,f _ (gy g T _ o w cs hb)⟩
theorem nN {dT sT ty e:TypeId}{k:IntKind}{bytes:Nat}(h:S1 P dT e (.int k 0) bytes)(hb:Blk w g cs T){o dn dc:Nat}{A:Option Addr}{n c:Nat}{l:List Int}(d:dz w Z k A n c l)(hs:o+min n dn<=cs.size){K:World->Prop}
 (f:∀w2,cp w g (setAt cs o ((l.take (min n dn)).map (Value.int k))) T w2->K w2):
 ∃(x:Int)(w2:World),(Builtin.copy_ #[dT,sT] ty #[.slice (some (Addr.mk g o none)) dn dc,.slice A n c]:Sem Value).run P w=.ok (.int .i64 x) w2/\K w2:=by
 obtain⟨i,hi,_,m,_⟩:=h.info;have q:(P.info? e).map (·.size)=some 1:=by rw[hi];simp[m]
 have hlen:=d.len;cases A with
 | none=>
  have s:n=0:=by
   cases l with
   |nil=>simpa using hlen.symm
   |cons x r=>obtain⟨p,hp,_⟩:=d.cell 0 x rfl;cases hp
  subst s;refine⟨0,w,?_,f w ?_⟩
  ·simp[Builtin.copy_,run_underlying h.und,Builtin.lenOf,Builtin.firstCells,sizeOf,typeInfo,hi,storeCells,goInt]
  ·simpa[setAt]using (⟨hb,Kept.refl _ _,rfl⟩:cp w g cs T w)
 | some a=>
  have hm:((l.take (min n dn)).map (Value.int k)).length=Nat.min n dn:=by
   rw[List.length_map,List.length_take,hlen];show min (min n dn) n=min n dn;omega
  have t:=run_copy_cells (P:=P) w dT sT ty e g o dn dc a n c ((l.take (min n dn)).map (Value.int k)) h.und q hm
   (by
    intro j u hu;rw[List.getElem?_map,List.getElem?_take]at hu;split at hu
    ·cases b:l[j]? with
     |none=>rw[b]at hu;cases hu
     | some x=>
      rw[b]at hu;injection hu with hu
      subst hu;obtain⟨p,hp,_,y⟩:=d.cell j x b;injection hp with hp
      subst hp;exact y
    ·cases hu)
   (by
    intro j b;rw[hm]at b;have z:j<min n dn:=b;have:cs[o+j]? =some (cs[o+j]'(by omega)):=Array.getElem?_eq_getElem (by omega);rw[hb.cell this];rfl)
   (by
    intro j b;unfold Blk at hb;simp[World.frozen?,hb])
   (by
    intro u hu;obtain⟨x,_,rfl⟩:=List.mem_map.1 hu;rfl)
  exact⟨_,_,t,f _ (gy g T _ o w cs hb)⟩
def gY(w:World)(Z:Nat->Prop)(e:TypeId)(size:Nat)(A:Option Addr)(n c:Nat)(xs:List Value):Prop:=w.ownsRow 0 e size (.slice A n c) n xs/\∀a,A=some a->Z a.block
section
variable {e:TypeId}{size:Nat}{A:Option Addr}{n c:Nat}{xs:List Value}
theorem gY.nil:gY w Z e size none 0 0 []:=⟨⟨by simp,.inl ⟨rfl,rfl⟩⟩,by simp⟩
theorem gY.len(h:gY w Z e size A n c xs):xs.length=n*size:=h.1.1
theorem gY.mono(h:gY w Z e size A n c xs)(b:∀k,Z k->Y k):gY w Y e size A n c xs:=⟨h.1,λa d=>b _ (h.2 a d)⟩
theorem gY.kept {B:Nat->Prop}(h:gY w Z e size A n c xs)(d:Kept B w w')(hb:∀k,Z k->B k):gY w' Z e size A n c xs:=by
 refine⟨⟨h.1.1,?_⟩,h.2⟩;rcases h.1.2 with b|⟨g,cap,cur,b,f,i,rest⟩
 ·exact .inl b
 ·have j:A=some ⟨g,0,none⟩:=by injection b
  exact .inr ⟨g,cap,cur,b,f,by rw[d.block g (hb _ (h.2 _ j))];exact i,rest⟩
theorem gY.ch(h:gY w Z e size A n c xs)(f:Ch X w w')(hb:∀k,Z k->¬X k):gY w' Z e size A n c xs:=by
 refine⟨⟨h.1.1,?_⟩,h.2⟩;rcases h.1.2 with b|⟨g,cap,cur,b,i,d,rest⟩
 ·exact .inl b
 ·have j:A=some ⟨g,0,none⟩:=by injection b
  exact .inr ⟨g,cap,cur,b,i,by rw[f.kept.block g ⟨(Array.getElem?_eq_some_iff.1 d).1,hb _ (h.2 _ j)⟩];exact d,rest⟩
theorem gY.pu(h:gY w Z e size A n c xs)(b:Pu w w'):gY w' Z e size A n c xs:=h.ch b (by simp)
theorem gY.JW(h:gY w Z e size A n c xs):n<=c:=by
 rcases h.1.2 with⟨b,d⟩|⟨g,cap,cur,b,_,_,f,_⟩
 ·omega
 ·injection b with _ _ i;omega
theorem gY.cell(h:gY w Z e size A n c xs){j:Nat}(b:xs[j]? =some v):∃g,A=some (Addr.mk g 0 none)/\Z g/\w.cell? ((Addr.mk g 0 none).add j)=some v:=by
 have i:=h.1.1;rcases h.1.2 with⟨d,m⟩|⟨g,cap,cur,d,s,p,t,u,x,q⟩
 ·have:xs= []:=List.eq_nil_of_length_eq_zero (by rw[i,m,Nat.zero_mul]);subst this;simp at b
 ·injection d with f _ _
  refine⟨g,f,h.2 _ f,?_⟩;rw[<-q,List.getElem?_take]at b;split at b
  ·exact Blk.at (show Blk w g cur e from p) (by simpa using b)
  ·cases b
theorem gY.blk(h:gY w Z e size A n c xs)(p:0<n):∃g cur,A=some (Addr.mk g 0 none)/\Z g/\Blk w g cur e/\n*size<=cur.size/\cur.toList.take (n*size)=xs:=by
 rcases h.1.2 with⟨_,q⟩|⟨g,cap,cur,d,s,f,i,t,j,m⟩
 ·omega
 ·injection d with b _ _
  exact⟨g,cur,b,h.2 _ b,f,by rw[j];exact Nat.mul_le_mul_right _ i,m⟩
theorem Dw {t ty:TypeId}{z:Value}{bytes:Nat}(q:SN P t e z size bytes)(h:gY w Z e size A n c xs){a:Addr}{m d:Nat}{news:List Value}(I:news.length=m*size)
 (J:∀j u,news[j]? =some u->w.cell? (a.add j)=some u)(L:∀u∈news,u.oneCell'=true)(VP:n+m<=9223372036854775807)(M:(n+m)*bytes<=140737488355328){K:Option Addr->Nat->Nat->World->Prop}
 (y:∀A' c' w2,gY w2 (λk=>Z k\/k=w.heap.size) e size A' (n+m) c' (xs++news)->Ch (λk=>∃b,A=some b/\b.block=k) w w2->K A' (n+m) c' w2):
 ∃(A':Option Addr)(n' c':Nat)(w2:World),(Builtin.append_ #[t,t] ty #[.slice A n c,.slice (some a) m d]:Sem Value).run P w=.ok (.slice A' n' c') w2/\K A' n' c' w2:=by
 obtain⟨i,hi,O,R,hb⟩:=q.info;obtain⟨v',w2,D,s,p,_,V⟩:=run_append_own_at (P:=P) w 0 t ty e i z size bytes q.und hi O R hb q.cells q.pos (.slice A n c) n xs h.1 a m d news I J L (by simp only[maxLen];omega) M (Nat.zero_le _);have E:Ch (λk=>∃b,A=some b/\b.block=k) w w2:=by
  refine⟨⟨p.os,p.tape,p.output,p.size,λk G=>p.block k G.1 λe=>G.2 ?_⟩⟩;cases A with
  |none=>cases e
  |some b=>exact⟨b,rfl,by simpa[Value.ownBlock]using e.symm⟩
 have W:∀A':Option Addr,(Value.slice A' (n+m) 0).ownBlock=(Value.slice A n c).ownBlock\/(Value.slice A' (n+m) 0).ownBlock=some w.heap.size->∀b,A'=some b->Z b.block\/b.block=w.heap.size:=by
  rintro A' (f|f) b rfl
  ·cases A with
   |none=>simp[Value.ownBlock]at f
   |some b'=>simp[Value.ownBlock]at f;rw[f];exact .inl (h.2 b' rfl)
  ·simp[Value.ownBlock]at f;exact .inr f
 rcases s.2 with⟨x,H⟩|⟨g,cap,cur,x,rest⟩
 ·subst x;refine⟨none,0,0,w2,D,?_⟩;have:=y none 0 w2 ⟨by rw[H]at s ⊢;exact s,by simp⟩ E
  rwa[H]at this
 ·subst x;exact⟨_,_,_,w2,D,y _ _ _ ⟨s,W _ (by simpa[Value.ownBlock]using V)⟩ E⟩
end
end
section
variable {P:Program}{w w0 w1 w2 w3 w':World}{g g':Nat}{cs cs':Array Value}{T T':TypeId}{X Y Z:Nat->Prop}{v:Value}
class Enc (α:Type) where
 enc:α→List Value
 size:Nat
 len:∀x,(enc x).length=size
 one:∀x,∀u∈enc x,u.oneCell'=true
 pos:0<size
open Enc (enc)
structure I64 where
 v:Int
structure U32 where
 v:Int
abbrev uM(x:Int):U32:=U32.mk x
abbrev vG(l:List U32)(i:Nat):Int:=(l.getD i (U32.mk 0)).v
structure U8 where
 v:Int
structure Bl where
 v:Bool
instance:Enc I64:=⟨λx=>[.int .i64 x.v],1,λ_=>rfl,by simp[Value.oneCell'],by omega⟩
instance:Enc U32:=⟨λx=>[.int .u32 x.v],1,λ_=>rfl,by simp[Value.oneCell'],by omega⟩
instance:Enc U8:=⟨λx=>[.int .u8 x.v],1,λ_=>rfl,by simp[Value.oneCell'],by omega⟩
instance:Enc Bl:=⟨λx=>[.bool x.v],1,λ_=>rfl,by simp[Value.oneCell'],by omega⟩
section
variable {α:Type} [Enc α]
structure Rd(w:World)(Z:Nat->Prop)(A:Option Addr)(n c:Nat)(l:List α):Prop where
 len:l.length=n
 cap:n<=c
 lt:∀k,Z k->k<w.heap.size
 cell:∀(i:Nat)(x:α),l[i]? =some x->∃p,A=some p/\Z p.block/\∀j,j<Enc.size α->w.cell? ((p.add (i*Enc.size α)).add j)=(enc x)[j]?
variable {A:Option Addr}{n c:Nat}{l:List α}
theorem cE(x:α):(enc x).length=Enc.size α:=Enc.len x
theorem Rd.nil:Rd w (λ_=>False) none 0 c ([]:List α):=⟨rfl,Nat.zero_le _,by simp,by simp⟩
theorem Rd.ch(h:Rd w Z A n c l)(d:Ch X w w')(hb:∀k,Z k->¬X k):Rd w' Z A n c l:=by
 refine⟨h.len,h.cap,λk q=>Nat.lt_of_lt_of_le (h.lt k q) d.size,λi x s=>?_⟩;obtain⟨p,t,f,m⟩:=h.cell i x s;refine⟨p,t,f,λj b=>?_⟩;rw[<-m j b];have:j<(enc x).length:=by rw[cE];exact b
 have u:=(m j b).trans (List.getElem?_eq_getElem this);exact d.kept.cell ⟨World.block_lt_of_cell? w _ u,by rw[block_add,block_add];exact hb _ f⟩
theorem Rd.pu(h:Rd w Z A n c l)(b:Pu w w'):Rd w' Z A n c l:=h.ch b (by simp)
theorem Rd.mono(h:Rd w Z A n c l)(b:∀k,Z k->Y k)(d:∀k,Y k->k<w.heap.size):Rd w Y A n c l:=
 ⟨h.len,h.cap,d,λi x f=>by obtain⟨p,j,m,q⟩:=h.cell i x f;exact⟨p,j,b _ m,q⟩⟩
theorem Rd.ld(h:Rd w Z A n c l){i:Int}(m:0<=i)(q:i<(n:Int)):∃p x,A=some p/\l[i.toNat]? =some x/\Z p.block/\∀j,j<Enc.size α->w.cell? ((p.add (i.toNat *Enc.size α)).add j)=(enc x)[j]? :=by
 have s:=h.len;have hi:i.toNat<l.length:=by omega
 obtain⟨p,b,d,f⟩:=h.cell i.toNat _ (List.getElem?_eq_getElem hi);exact⟨p,_,b,List.getElem?_eq_getElem hi,d,f⟩
theorem Rd.u32 {l:List U32}(h:Rd w Z A n c l)(m:0<n):∃p,A=some p/\Z p.block/\∀i,i<n->w.cell? (p.add i)=some (.int .u32 (l.getD i ⟨0⟩).v):=by
 have s:=h.len;obtain⟨p,d,f,_⟩:=h.cell 0 _ (List.getElem?_eq_getElem (by omega));refine⟨p,d,f,λi hi=>?_⟩;obtain⟨q,b,_,j⟩:=h.cell i _ (List.getElem?_eq_getElem (by omega));rw[d]at b;injection b with b
 subst b;have:=j 0 (by decide);rw[add_add,Nat.add_zero,show i*Enc.size U32=i from Nat.mul_one i]at this;rw[this,List.getD_eq_getElem?_getD,List.getElem?_eq_getElem (show i<l.length by omega)];rfl
structure Own(w:World)(Z:Nat->Prop)(e:TypeId)(A:Option Addr)(n c:Nat)(l:List α):Prop where
 own:gY w Z e (Enc.size α) A n c (l.flatMap enc)
 len:l.length=n
theorem ek(l:List α):(l.flatMap enc).length=l.length*Enc.size α:=by
 induction l with
 |nil=>simp
 |cons x r b=>simp[b,cE,Nat.add_mul,Nat.add_comm]
theorem flat_get:∀(l:List α)(i j:Nat)(x:α),l[i]? =some x->j<Enc.size α->(l.flatMap enc)[i*Enc.size α+j]? =(enc x)[j]?
 | [],i,j,x,h,b=>by simp at h
 | y::r,0,j,x,h,b=>by
  simp at h;subst h;simp only[List.flatMap_cons,Nat.zero_mul,Nat.zero_add];rw[List.getElem?_append_left (by rw[cE];exact b)]
 | y::r,i+1,j,x,h,b=>by
  simp only[List.getElem?_cons_succ]at h;have d:=flat_get r i j x h b;rw[<-d,List.flatMap_cons,List.getElem?_append_right (by rw[cE,Nat.add_mul,Nat.one_mul];omega),cE];congr 1;rw[Nat.add_mul,Nat.one_mul];omega
variable {e:TypeId}
theorem Own.nil:Own w Z e none 0 0 ([]:List α):=⟨gY.nil,rfl⟩
theorem Own.mono(h:Own w Z e A n c l)(b:∀k,Z k->Y k):Own w Y e A n c l:=⟨h.own.mono b,h.len⟩
theorem Own.ch(h:Own w Z e A n c l)(b:Ch X w w')(hb:∀k,Z k->¬X k):Own w' Z e A n c l:=⟨h.own.ch b hb,h.len⟩
theorem Own.pu(h:Own w Z e A n c l)(b:Pu w w'):Own w' Z e A n c l:=h.ch b (by simp)
theorem Own.rd(h:Own w Z e A n c l):Rd w (λk=>Z k/\k<w.heap.size) A n c l:=by
 refine⟨h.len,h.own.JW,λk f=>f.2,λi x b=>?_⟩;have hi:i<l.length:=(List.getElem?_eq_some_iff.1 b).1;have m:0<n:=by have:=h.len;omega
 obtain⟨g,cur,p,q,hb,_,s⟩:=h.own.blk m;refine⟨_,p,⟨q,hb.lt⟩,λj t=>?_⟩;have u:=flat_get l i j x b t;rw[<-u,add_add,<-s,List.getElem?_take];have y:i*Enc.size α+j<n*Enc.size α:=by
  have z:(i+1)*Enc.size α<=n*Enc.size α:=Nat.mul_le_mul_right _ (by have:=h.len;omega);rw[Nat.add_mul,Nat.one_mul]at z;omega
 rw[if_pos y,aY,Nat.zero_add];have d:i*Enc.size α+j<cur.size:=by omega
 rw[hb.cell (i:=i*Enc.size α+j) (v:=cur[i*Enc.size α+j]) (Array.getElem?_eq_getElem d)];simp[d]
theorem Own.lt(h:Own w Z e A n c l)(b:0<n):∃g,A=some (Addr.mk g 0 none)/\Z g/\g<w.heap.size:=by
 obtain⟨g,cur,d,f,hb,_⟩:=h.own.blk b;exact⟨g,d,f,hb.lt⟩
theorem Own.app {t ty:TypeId}{z:Value}{bytes:Nat}(h:Own w Z e A n c l)(d:SN P t e z (Enc.size α) bytes){g:Nat}{news:Array Value}{x:α}(hb:Blk w g news e)(f:news.toList=enc x)(i:n+1<=9223372036854775807)(m:(n+1)*bytes<=140737488355328)(p:Z w.heap.size)
 {K:Option Addr->Nat->Nat->World->Prop}(q:∀A' c' w2,Own w2 Z e A' (n+1) c' (l++ [x])->Ch Z w w2->K A' (n+1) c' w2):
 ∃(A':Option Addr)(n' c':Nat)(w2:World),(Builtin.append_ #[t,t] ty #[.slice A n c,.slice (some (Addr.mk g 0 none)) 1 1]:Sem Value).run P w=.ok (.slice A' n' c') w2/\K A' n' c' w2:=by
 refine Dw d h.own (news:=enc x) (by rw[cE,Nat.one_mul]) (λj u hu=>hb.at (by rw[<-f]at hu;simpa using hu)) (Enc.one x) i m λA' c' w2 s y=>?_;refine q A' c' w2 ⟨?_,by simp[h.len]⟩ (y.mono ?_)
 ·rw[List.flatMap_append,List.flatMap_cons,List.flatMap_nil,List.append_nil];exact s.mono λk D=>D.elim id λe=>e▸p
 ·rintro k ⟨b,E,rfl⟩;exact h.own.2 b E
theorem Own.apps {t ty:TypeId}{z:Value}{bytes:Nat}(h:Own w Z e A n c l)(H:SN P t e z (Enc.size α) bytes){B:Option Addr}{m d:Nat}{l2:List α}(f:Rd w Y B m d l2)(I:n+m<=9223372036854775807)(J:(n+m)*bytes<=140737488355328)(L:Z w.heap.size)
 {K:Option Addr->Nat->Nat->World->Prop}(M:∀A' c' w2,Own w2 Z e A' (n+m) c' (l++l2)->Ch Z w w2->K A' (n+m) c' w2)
 (O:m=0->B=none->∃(A':Option Addr)(n' c':Nat)(w2:World),(Builtin.append_ #[t,t] ty #[.slice A n c,.slice none 0 d]:Sem Value).run P w=.ok (.slice A' n' c') w2/\K A' n' c' w2):
 ∃(A':Option Addr)(n' c':Nat)(w2:World),(Builtin.append_ #[t,t] ty #[.slice A n c,.slice B m d]:Sem Value).run P w=.ok (.slice A' n' c') w2/\K A' n' c' w2:=by
 cases B with
 | none=>
  have hm:m=0:=by
   cases q:l2 with
   |nil=>have:=f.len;rw[q]at this;simpa using this.symm
   |cons x r=>obtain⟨p,hp,_⟩:=f.cell 0 x (by rw[q];rfl);cases hp
  subst hm;exact O rfl rfl
 | some a=>
  refine Dw H h.own (news:=l2.flatMap enc) (by rw[ek,f.len]) (λj u hu=>?_) (λu hu=>?_) I J λA' c' w2 R V=>?_
  ·have hp:0<Enc.size α:=Enc.pos;have s:j<(l2.flatMap enc).length:=(List.getElem?_eq_some_iff.1 hu).1;rw[ek]at s;have hq:j / Enc.size α<l2.length:=(Nat.div_lt_iff_lt_mul hp).2 s;have y:j % Enc.size α<Enc.size α:=Nat.mod_lt _ hp;obtain⟨p,i,_,W⟩:=f.cell (j / Enc.size α) _ (List.getElem?_eq_getElem hq);injection i with i
   subst i;have D:=W (j % Enc.size α) y;have E:=flat_get l2 (j / Enc.size α) (j % Enc.size α) _ (List.getElem?_eq_getElem hq) y;have G:j / Enc.size α*Enc.size α+j % Enc.size α=j:=by rw[Nat.mul_comm];exact Nat.div_add_mod j (Enc.size α)
   rw[G]at E;rw[add_add,G]at D;rw[D,<-E,hu]
  ·obtain⟨x,_,hx⟩:=List.mem_flatMap.1 hu;exact Enc.one x u hx
  ·refine M A' c' w2 ⟨?_,by simp[h.len,f.len]⟩ (V.mono ?_)
   ·rw[List.flatMap_append];exact R.mono λk hk=>hk.elim id λe=>e▸L
   ·rintro k ⟨b,i,rfl⟩;exact h.own.2 b i
theorem AH {t e:TypeId}{z:Value}{bytes:Nat}(h:S1 P t e z bytes)(x:α)(d:enc x= [z]){n:Int}(j:0<=n)(m:(bytes:Int)*n<=281474976710656)(p:n<=9223372036854775807){K:Option Addr->Nat->Nat->World->Prop}
 (q:∀g w2,Made w g (Array.replicate n.toNat z) e w2->Own w2 (λk=>k=g) e (some (Addr.mk g 0 none)) n.toNat n.toNat (List.replicate n.toNat x)->K (some (Addr.mk g 0 none)) n.toNat n.toNat w2):
 ∃(A:Option Addr)(N C:Nat)(w2:World),(Instr.makeSlice t (.int .i64 n) (.int .i64 n):Sem Value).run P w=.ok (.slice A N C) w2/\K A N C w2:=by
 have hs:Enc.size α=1:=by rw[<-cE x,d];rfl
 have f:(List.replicate n.toNat x).flatMap enc=List.replicate n.toNat z:=by
  generalize n.toNat=k
  induction k with
  |zero=>rfl
  |succ k s=>rw[List.replicate_succ,List.flatMap_cons,s,d];rfl
 refine j7 h j m p λg w2 i=>q g w2 i ⟨⟨⟨by rw[f,hs];simp,.inr ⟨g,n.toNat,Array.replicate n.toNat z,rfl,Nat.zero_le _,i.blk,Nat.le_refl _,by simp only[maxLen];omega,by rw[hs];simp,by rw[hs,f];simp⟩⟩,?_⟩,by simp⟩;intro a b;injection b with b
 rw[<-b]
theorem AS:∀(l:List α)(i:Nat)(x:α),i<l.length->(l.set i x).flatMap enc=((l.flatMap enc).take (i*Enc.size α))++enc x++((l.flatMap enc).drop ((i+1)*Enc.size α))
 | [],i,x,h=>by simp at h
 | y::r,0,x,h=>by
  simp only[List.set_cons_zero,List.flatMap_cons,Nat.zero_mul,List.take_zero,List.nil_append,Nat.zero_add,Nat.one_mul];rw[List.drop_append_of_le_length (by rw[cE];omega),List.drop_of_length_le (by rw[cE];omega),List.nil_append]
 | y::r,i+1,x,h=>by
  have b:=AS r i x (by simpa using h);simp only[List.set_cons_succ,List.flatMap_cons];rw[b];have e1:(i+1)*Enc.size α=Enc.size α+i*Enc.size α:=by rw[Nat.add_mul,Nat.one_mul,Nat.add_comm]
  have d:(i+1+1)*Enc.size α=Enc.size α+(i+1)*Enc.size α:=by rw[Nat.add_mul (i+1),Nat.one_mul,Nat.add_comm]
  rw[e1,d,<-cE y,List.take_length_add_append,List.drop_length_add_append];simp[cE,List.append_assoc,Nat.add_mul,Nat.add_comm]
theorem Own.st(h:Own w Z e A n c l){p:Addr}(b:A=some p){i:Nat}(hi:i<n){x y:α}(u:l[i]? =some x){o:Nat}{vs:List Value}(ho:o+vs.length<=Enc.size α)(z:enc y=(enc x).take o++vs++(enc x).drop (o+vs.length)){K:World->Prop}
 (D:∀w2,Own w2 Z e A n c (l.set i y)->Ch Z w w2->K w2):aB w ((p.add (i*Enc.size α)).add o) vs K:=by
 have hn:0<n:=by omega
 have f:=h.len;rcases h.own.1.2 with⟨_,V1⟩|⟨g,cap,cur,E,hg,G,m,H,s,I⟩
 ·omega
 injection E with t _ J
 have hp:p=Addr.mk g 0 none:=by rw[t]at b;injection b with b;exact b.symm
 subst hp;have L:=h.own.2 _ b;have hb:Blk w g cur e:=G;have Sa:n*Enc.size α<=cur.size:=by rw[s];exact Nat.mul_le_mul_right _ m
 have h3:(i+1)*Enc.size α<=n*Enc.size α:=Nat.mul_le_mul_right _ (by omega);have aa:(i+1)*Enc.size α=i*Enc.size α+Enc.size α:=by rw[Nat.add_mul,Nat.one_mul]
 rw[add_add,aY,Nat.zero_add];refine eJ hb (by omega) λw2 hs=>D w2 ⟨⟨⟨by rw[ek];simp[f],.inr ⟨g,cap,setAt cur (i*Enc.size α+o) vs,by rw[t,J],Nat.zero_le _,hs.blk,m,H,by rw[jO];exact s,?_⟩⟩,h.own.2⟩,by simp[f]⟩ (hs.ch.mono λk d=>d▸L);apply List.ext_getElem?;intro k;rw[AS l i y (by omega)];have M:(l.flatMap enc).length=n*Enc.size α:=by rw[ek,f]
 have hex:(enc x).length=Enc.size α:=cE x;have O:(enc y).length=Enc.size α:=cE y;rw[List.getElem?_take];have j:∀q,q<n*Enc.size α->(l.flatMap enc)[q]? =cur[q]? :=λq hq=>by
  rw[<-I,List.getElem?_take,if_pos hq];simp
 have R:(setAt cur (i*Enc.size α+o) vs).toList[k]? =if i*Enc.size α+o<=k/\k<i*Enc.size α+o+vs.length then vs[k - (i*Enc.size α+o)]? else cur[k]? :=by
  have:=eW vs cur (i*Enc.size α+o) k (by omega);simpa using this
 rw[R];have V:∀q,q<Enc.size α->cur[i*Enc.size α+q]? =(enc x)[q]? :=λq hq=>by
  rw[<-j _ (by omega)];exact flat_get l i q x u hq
 by_cases d:k<n*Enc.size α
 ·rw[if_pos d];by_cases W:k<i*Enc.size α
  ·rw[if_neg (by omega),List.append_assoc,List.getElem?_append_left (by rw[List.length_take];omega),List.getElem?_take,if_pos W,j k d]
  ·obtain⟨q,rfl⟩:∃q,k=i*Enc.size α+q:=⟨k - i*Enc.size α,by omega⟩;have ht:((l.flatMap enc).take (i*Enc.size α)).length=i*Enc.size α:=by rw[List.length_take];omega
   rw[List.append_assoc,List.getElem?_append_right (by omega),ht,show i*Enc.size α+q - i*Enc.size α=q by omega];by_cases hq:q<Enc.size α
   ·rw[List.getElem?_append_left (by omega),z];by_cases h5:o<=q/\q<o+vs.length
    ·rw[if_pos (by omega),List.append_assoc,List.getElem?_append_right (by rw[List.length_take];omega),List.length_take,hex,show min o (Enc.size α)=o by omega,List.getElem?_append_left (by omega)];congr 1;omega
    ·rw[if_neg (by omega),V q hq];by_cases h6:q<o
     ·rw[List.append_assoc,List.getElem?_append_left (by rw[List.length_take];omega),List.getElem?_take,if_pos h6]
     ·rw[List.getElem?_append_right (by simp[List.length_take];omega),List.getElem?_drop];congr 1;simp[List.length_take];omega
   ·rw[if_neg (by omega),List.getElem?_append_right (by omega),List.getElem?_drop,j _ (by omega)];congr 1;omega
 ·rw[if_neg d];symm;apply List.getElem?_eq_none;simp only[List.length_append,List.length_take,List.length_drop,M,O];omega
theorem Own.st0(h:Own w Z e A n c l){p:Addr}(d:A=some p){i:Nat}(hi:i<n){x y:α}(f:l[i]? =some x){vs:List Value}(b:enc y=vs){K:World->Prop}
 (j:∀w2,Own w2 Z e A n c (l.set i y)->Ch Z w w2->K w2):aB w (p.add (i*Enc.size α)) vs K:=by
 have:=Own.st h d hi f (o:=0) (vs:=vs) (y:=y) (by rw[<-b,cE];omega) (by rw[<-b];simp[cE]) j
 rwa[add_add,Nat.add_zero]at this
end
theorem gY.within {w:World}{Z:Nat->Prop}{e:TypeId}{size:Nat}{A:Option Addr}{n c:Nat}{xs:List Value}(h:gY w Z e size A n c xs):gY w (λk=>Z k/\k<w.heap.size) e size A n c xs:=by
 refine⟨h.1,λa d=>⟨h.2 a d,?_⟩⟩;rcases h.1.2 with⟨f,j⟩|⟨g,cap,cur,f,m,i,rest⟩
 ·injection f with b _ _
  rw[d]at b;cases b
 ·injection f with b _ _
  rw[d]at b;injection b with b
  rw[b];exact(Array.getElem?_eq_some_iff.1 i).1
theorem Own.within {α:Type} [Enc α]{w:World}{Z:Nat->Prop}{e:TypeId}{A:Option Addr}{n c:Nat}{l:List α}(h:Own w Z e A n c l):Own w (λk=>Z k/\k<w.heap.size) e A n c l:=⟨h.own.within,h.len⟩
end
section
variable {P:Program}{w w0 w1 w2 w3 w':World}{g g':Nat}{T T':TypeId}{X Y Z:Nat->Prop}{l l':List Int}
theorem F7 {vs:List Value}{cs:Array Value}(h:vs.length=cs.size):setAt cs 0 vs=vs.toArray:=by
 apply Array.ext_getElem?;intro i;rw[eW _ _ _ _ (by omega)];by_cases hi:i<vs.length
 ·rw[if_pos (by omega)];simp
 ·rw[if_neg (by omega),Array.getElem?_eq_none (by omega),Array.getElem?_eq_none (by simp;omega)]
theorem di {K:World->Prop}{vs:List Value}{cs:Array Value}(hb:Blk w g cs T)(hi:vs.length=cs.size)(h:∀w2,cp w g vs.toArray T w2->K w2):aB w (vA g) vs K:=
 bz hb (by omega) λw2 s=>h w2 (by rw[<-F7 hi];exact s)
theorem Qx {a0 b d f h i j m p q b0 b1 b2 b3 b4 b5 b6 b7 b8 b9:Value}(s:a0=b0)(t:b=b1)(u:d=b2)(x:f=b3)(y:h=b4)(z:i=b5)(D:j=b6)(E:m=b7)(G:p=b8)(H:q=b9):(#[a0,b,d,f,h,i,j,m,p,q]:Array Value)= #[b0,b1,b2,b3,b4,b5,b6,b7,b8,b9]:=by subst s;subst t;subst u;subst x;subst y;subst z;subst D;subst E;subst G;subst H;rfl
def bW(l:List Int):Array Value:=(l.map (Value.int .u32)).toArray
@[simp] theorem gL(l:List Int):(bW l).size=l.length:=by simp[bW]
theorem jR {i:Nat}(h:i<l.length):(bW l)[i]? =some (O (l.getD i 0)):=by
 simp[bW,List.getElem?_eq_getElem h,List.getD_eq_getElem?_getD]
theorem Al {i:Int}(h:i.toNat<l.length):(bW l)[i.toNat *1]? =some (O (l.getD i.toNat 0)):=by
 rw[Nat.mul_one];exact jR h
theorem iT(n:Nat)(x:Int):bW (List.replicate n x)=Array.replicate n (O x):=by simp[bW]
theorem pT:∀v∈(bW l).toList,one? v True:=by
 intro v b;simp only[bW,List.mem_map]at b;obtain⟨x,_,rfl⟩:=b;unfold one?;trivial
theorem Blk.uw(h:Blk w g (bW l) T){i:Int}(hi:i.toNat<l.length):w.cell? ((vA g).add (i.toNat *1))=some (O (l.getD i.toNat 0)):=h.at (Al hi)
theorem Blk.yD(h:Blk w g (bW l) T){n:Nat}(b:l.length=n):(bW l).size=n/\∀i u,(bW l)[i]? =some u->w.cell? ((vA g).add i)=some u:=
 ⟨by rw[gL,b],λi u hu=>h.at hu⟩
def ko:List Int->Nat->List Int->List Int
 |l,_,[]=>l
 |l,o,v::r=>ko (l.set o v) (o+1) r
@[simp] theorem Ib:∀(r l:List Int)(o:Nat),(ko l o r).length=l.length
 | [],l,o=>rfl
 |v::r,l,o=>by rw[ko,Ib r];simp
theorem uj(a r b x:List Int)(d:x.length=r.length):ko (a++(x++b)) a.length r=a++(r++b):=by
 induction r generalizing a x with
 | nil=>cases x with
  |nil=>rfl
  |cons=>simp at d
 | cons v r f=>cases x with
  |nil=>simp at d
  | cons y x=>
   have:=f (a++ [v]) x (by simpa using d);rw[ko];simpa using this
theorem uv {i:Nat}{v:Int}:setAt (bW l) i [.int .u32 v]=bW (l.set i v):=by
 simp[setAt,bW,List.setIfInBounds_toArray,List.map_set]
theorem nF:∀(r l:List Int)(o:Nat),setAt (bW l) o (r.map (Value.int .u32))=bW (ko l o r)
 | [],l,o=>rfl
 | v::r,l,o=>by
  rw[List.map_cons,setAt,ko,<-nF r];congr 1;simp[bW,List.setIfInBounds_toArray,List.map_set]
theorem CG {K:World->Prop}{i v:Int}(hb:Blk w g (bW l) T)(hi:i.toNat<l.length)(h:∀w2,cp w g (bW (l.set i.toNat v)) T w2->K w2):aB w ((vA g).add (i.toNat *1)) [.int .u32 v] K:=
 bB hb (by simp;omega) λw2 s=>h w2 (by rw[<-uv];rw[Nat.mul_one]at s;exact s)
theorem oI {K:World->Prop}{i:Nat}{v:Int}(hb:Blk w g (bW l) T)(hi:i<l.length)(h:∀w2,cp w g (bW (l.set i v)) T w2->K w2):aB w ((vA g).add i) [.int .u32 v] K:=
 bB hb (by simp;omega) λw2 s=>h w2 (by rw[<-uv];exact s)
theorem uk(r l:List Int)(h:r.length=l.length):ko l 0 r=r:=by simpa using uj [] r [] l h.symm
theorem qS {K:World->Prop}(hb:Blk w g (bW l) T)(b:l'.length=l.length)(h:∀w2,cp w g (bW l') T w2->K w2):aB w (vA g) (bW l').toList K:=
 bz hb (by simp[bW,b]) λw2 s=>h w2 (by
  have e:(bW l').toList=l'.map (Value.int .u32):=by simp[bW]
  rw[e,nF,uk _ _ b]at s;exact s)
theorem qp {dT sT ty e:TypeId}{bytes:Nat}(h:S1 P dT e (O 0) bytes)(hb:Blk w g (bW l) T){o m dn dc:Nat}{A B:Option Addr}{n c:Nat}{r:List Int}(i:B=some (if m=o then Addr.mk g 0 none else(vA g).add (o*1)))(hm:m=o->min n dn=0)(d:dz w Z .u32 A n c r)(hs:o+min n dn<=l.length){K:World->Prop}
 (f:∀w2,cp w g (bW (ko l o (r.take (min n dn)))) T w2->K w2):
 ∃(x:Int)(w2:World),(Builtin.copy_ #[dT,sT] ty #[.slice B dn dc,.slice A n c]:Sem Value).run P w=.ok (J x) w2/\K w2:=by
 subst i;by_cases b:m=o
 ·rw[if_pos b];have j:=hm b;refine nN (K:=K) h hb (o:=0) d (by rw[gL];omega) λw2 s=>f w2 ?_;rw[j]at s ⊢;simpa[setAt,ko]using s
 ·rw[if_neg b,aY,Nat.zero_add,Nat.mul_one];exact nN (K:=K) h hb d (by rw[gL];exact hs) λw2 s=>f w2 (by rw[<-nF];exact s)
theorem xM {dT sT ty e:TypeId}{bytes:Nat}(h:S1 P dT e (O 0) bytes)(hb:Blk w g (bW l) T){dn dc:Nat}{A B:Option Addr}{n c:Nat}{r:List Int}(b:B=some (vA g))(d:dz w Z .u32 A n c r)(hs:min n dn<=l.length){K:World->Prop}
 (f:∀w2,cp w g (bW (ko l 0 (r.take (min n dn)))) T w2->K w2):
 ∃(x:Int)(w2:World),(Builtin.copy_ #[dT,sT] ty #[.slice B dn dc,.slice A n c]:Sem Value).run P w=.ok (J x) w2/\K w2:=by
 subst b;exact nN (K:=K) h hb (o:=0) d (by rw[gL];omega) λw2 s=>f w2 (by rw[<-nF];exact s)
theorem dz.row(h:Blk w g (bW l) T)(d:Z g){o n c:Nat}(f:n<=c)(i:o+n<=l.length):dz w Z .u32 (some (Addr.mk g o none)) n c ((l.drop o).take n):=
 dz.blk h d f (by simp;omega) (by
  intro j x b;rw[List.getElem?_take]at b;split at b
  ·rw[List.getElem?_drop]at b;rw[jR (by omega),List.getD_eq_getElem?_getD,b];rfl
  ·cases b)
theorem Rd.ints {A:Option Addr}{n c:Nat}{l:List U32}(h:Rd w Z A n c l):dz w Z .u32 A n c (l.map U32.v):=
 ⟨by rw[List.length_map,h.len],h.cap,λj x b=>by
  rw[List.getElem?_map]at b;cases d:l[j]? with
  |none=>rw[d]at b;cases b
  | some y=>
   rw[d]at b;injection b with b
   subst b;obtain⟨p,f,i,m⟩:=h.cell j y d;refine⟨p,f,i,?_⟩;have:=m 0 (by decide);rw[add_add,Nat.add_zero,show j*Enc.size U32=j from Nat.mul_one j]at this;exact this⟩
theorem dz.pre {cs:Array Value}{A:Option Addr}{n c m o:Nat}{k:IntKind}{r:List Int}(h:Blk w g cs T)(d:Z g)(f:A=some (if m=0 then(vA g).add o else((vA g).add o).add (0*1)))(i:n<=c)(p:r.length=n)(he:((cs.toList.drop o).take n)=r.map (Value.int k)):dz w Z k A n c r:=by
 have e:A=some (Addr.mk g o none):=by
  rw[f];split<;>simp[aY]
 subst e;refine dz.blk h d i p λj x q=>?_;have b:((cs.toList.drop o).take n)[j]? =some (Value.int k x):=by rw[he,List.getElem?_map,q];rfl
 rw[List.getElem?_take]at b;split at b
 ·rw[List.getElem?_drop]at b;simpa using b
 ·cases b
theorem dz.QS {A:Option Addr}{n c m o:Nat}(h:Blk w g (bW l) T)(d:Z g)(f:A=some (if m=o then Addr.mk g 0 none else(vA g).add (o*1)))(hm:m=o->n=0)(i:n<=c)(j:o+n<=l.length):dz w Z .u32 A n c ((l.drop o).take n):=by
 subst f;by_cases b:m=o
 ·have:=hm b;subst this;rw[if_pos b,List.take_zero];exact⟨rfl,Nat.zero_le _,by simp⟩
 ·rw[if_neg b,aY,Nat.zero_add,Nat.mul_one];exact dz.row h d i j
structure jB(w:World)(g:Nat)(l:List Int):Prop where
 len:l.length=64
 blk:∃T,Blk w g (bW l) T
theorem jB.lt(h:jB w g l):∀k,k=g->k<w.heap.size:=λk e=>e▸h.blk.elim λ_ b=>b.lt
theorem jB.ch(h:jB w g l)(d:Ch X w w')(f:∀k,k=g->¬X k):jB w' g l:=⟨h.len,h.blk.imp λ_ b=>d.blk b (f g rfl)⟩
theorem jB.pu(h:jB w g l)(b:Pu w w'):jB w' g l:=h.ch b (by simp)
end
open Enc (enc)
section
variable {P:Program}{w w0 w1 w2 w3 w':World}{g g':Nat}{T T':TypeId}{X Y Z:Nat->Prop}
theorem Ch.fresh(h:Ch (λk=>w.heap.size<=k) w w2):Pu w w2:=
 ⟨h.kept.mono λk b=>⟨b.1,λh=>absurd b.1 (Nat.not_lt.2 h)⟩⟩
section
variable {α:Type} [Enc α]{A:Option Addr}{n c:Nat}{l:List α}
theorem Rd.flat(h:Rd w Z A n c l){p:Addr}(s:A=some p)(j:Nat)(u:Value)(hu:(l.flatMap enc)[j]? =some u):w.cell? (p.add j)=some u:=by
 have hp:0<Enc.size α:=Enc.pos;have d:j<(l.flatMap enc).length:=(List.getElem?_eq_some_iff.1 hu).1;rw[ek]at d;have hq:j / Enc.size α<l.length:=(Nat.div_lt_iff_lt_mul hp).2 d;have f:j % Enc.size α<Enc.size α:=Nat.mod_lt _ hp;obtain⟨x,b,_,t⟩:=h.cell (j / Enc.size α) _ (List.getElem?_eq_getElem hq);rw[s]at b;injection b with b
 subst b;have i:=t (j % Enc.size α) f;have m:=flat_get l (j / Enc.size α) (j % Enc.size α) _ (List.getElem?_eq_getElem hq) f;have q:j / Enc.size α*Enc.size α+j % Enc.size α=j:=by rw[Nat.mul_comm];exact Nat.div_add_mod j (Enc.size α)
 rw[q]at m;rw[add_add,q]at i;rw[i,<-m,hu]
theorem Jq(u:Value)(hu:u∈l.flatMap enc):u.oneCell'=true:=by
 obtain⟨x,_,b⟩:=List.mem_flatMap.1 hu;exact Enc.one x u b
theorem Rd.Od(h:Rd w Z none n c l):l= []/\n=0:=by
 cases l with
 |nil=>exact⟨rfl,by simpa using h.len.symm⟩
 |cons x r=>obtain⟨p,hp,_⟩:=h.cell 0 x rfl;cases hp
theorem Rd.cut {lo hi m:Nat}{A':Option Addr}{n' c':Nat}(h:Rd w Z A n c l)(d:A'=(if m=lo then A else A.map (·.add (lo*Enc.size α))))(f:n'=hi - lo)(q:c'=m - lo)(y:lo<=hi)(z:hi<=n)(D:hi<=m):
 Rd w Z A' n' c' ((l.drop lo).take (hi - lo)):=by
 subst f q;have E:=h.len;refine⟨by simp;omega,by omega,h.lt,λi x b=>?_⟩;rw[List.getElem?_take]at b;split at b
 ·rename_i G;rw[List.getElem?_drop]at b;obtain⟨p,hp,s,t⟩:=h.cell _ _ b;subst hp;refine⟨p.add (lo*Enc.size α),?_,?_,λj u=>?_⟩
  ·rw[d,if_neg (by omega)];rfl
  ·rw[block_add];exact s
  ·rw[<-t j u,add_add,add_add,add_add,Nat.add_mul,Nat.add_assoc]
 ·cases b
theorem Rd.from_ {lo m:Nat}{A':Option Addr}{n' c':Nat}(h:Rd w Z A n c l)(b:A'=(if m=lo then A else A.map (·.add (lo*Enc.size α))))(d:n'=n - lo)(f:c'=m - lo)(i:lo<=n)(j:n<=m):Rd w Z A' n' c' (l.drop lo):=by
 have:=h.cut (hi:=n) b d f i (Nat.le_refl _) j
 rwa[List.take_of_length_le (by rw[List.length_drop,h.len];omega)]at this
theorem Rd.all {hi m:Nat}{A':Option Addr}{n' c':Nat}(h:Rd w Z A n c l)(b:A'=(if m=0 then A else A.map (·.add (0*Enc.size α))))(d:n'=hi - 0)(f:c'=m - 0)(i:hi=n)(j:m=n):Rd w Z A' n' c' l:=by
 subst i;have:=h.cut (hi:=hi) b d f (Nat.zero_le _) (Nat.le_refl _) (by omega)
 rwa[List.drop_zero,List.take_of_length_le (by rw[h.len];omega)]at this
theorem Own.NW {e:TypeId}(h:Own w Z e A n c l)(b:∀k,Z k/\k<w.heap.size->Y k)(d:∀k,Y k->k<w.heap.size):Rd w Y A n c l:=h.rd.mono b d
theorem O5 {t ty e:TypeId}{z:Value}{bytes:Nat}(j:SN P t e z (Enc.size α) bytes)(x:Rd w Z A n c l)(E:c=n){B:Option Addr}{m d:Nat}{l2:List α}(p:Rd w Y B m d l2)(M:n+m<=9223372036854775807)(J:(n+m)*bytes<=140737488355328)
 {K:Option Addr->Nat->Nat->World->Prop}(G:∀A' c' w2,Rd w2 (λk=>(Z k\/w.heap.size<=k)/\k<w2.heap.size) A' (n+m) c' (l++l2)->Pu w w2->K A' (n+m) c' w2):
 ∃(A':oA)(n' c':Nat)(w2:World),(Builtin.append_ #[t,t] ty #[.slice A n c,.slice B m d]:Sem Value).run P w=.ok (.slice A' n' c') w2/\K A' n' c' w2:=by
 obtain⟨i,hi,O,R,hb⟩:=j.info;obtain rfl:n=c:=E.symm;by_cases hm:m=0
 ·subst hm;have V:l2= []:=List.eq_nil_of_length_eq_zero p.len;subst V;have y:(Builtin.append_ #[t,t] ty #[.slice A n n,.slice B 0 d]:Sem Value).run P w=.ok (.slice A n n) w:=by
   refine run_append_nothing w t t ty e i j.und hi A n n (Nat.le_refl _) _ ?_;cases B with
   |none=>exact Src.ofNil _ j.und d
   |some b=>exact Src.ofSlice _ j.und b 0 d [] (by simp) (by simp) (by simp)
  exact⟨_,_,_,_,y,G A n w (by rw[List.append_nil];exact x.mono (λk f=>⟨.inl f,x.lt k f⟩) λk f=>f.2) (Ch.refl _ _)⟩
 ·obtain⟨b,W⟩:∃b,B=some b:=by
   cases B with
   |none=>exact absurd p.Od.2 hm
   |some b=>exact⟨b,rfl⟩
  subst W;have aa:∀D w2,(Builtin.append_ #[t,t] ty #[.slice A n n,.slice (some b) m d]:Sem Value).run P w=.ok D w2->w2.ownsRow w.heap.size e (Enc.size α) D (n+m) ((l++l2).flatMap enc)->Pu w w2->∃(A':oA)(n' c':Nat)(w2:World),(Builtin.append_ #[t,t] ty #[.slice A n n,.slice (some b) m d]:Sem Value).run P w=.ok (.slice A' n' c') w2/\K A' n' c' w2:=by
   intro D w2 y q hp;have L:=q;rcases q.2 with⟨_,V1⟩|⟨g,cap,cur,hv,s,Ur,_⟩
   ·omega
   ·subst hv;have H:Own w2 (λk=>w.heap.size<=k) e (pvA g) (n+m) cap (l++l2):=
     ⟨⟨⟨L.1,by rcases L.2 with h|⟨g',ab,ae,VX,_,rest⟩;exact .inl h;exact .inr ⟨g',ab,ae,VX,Nat.zero_le _,rest⟩⟩,λa I=>by injection I with I;rw[<-I];exact s⟩,by rw[List.length_append,x.len,p.len]⟩
    exact⟨_,_,_,_,y,G _ _ _ (H.NW (Y:=λk=>(Z k\/w.heap.size<=k)/\k<w2.heap.size) (λk f=>⟨.inr f.1,f.2⟩) λk f=>f.2) hp⟩
  cases A with
  | none=>
   obtain⟨WY,hn⟩:=x.Od;subst WY hn;refine Dw j (gY.nil (w:=w) (Z:=λk=>w.heap.size<=k)) (a:=b) (news:=l2.flatMap enc) (by rw[ek,p.len]) (p.flat rfl) (λu hu=>Jq u hu) M J λA' c' w2 q E=>?_;rw[Nat.zero_add]at q ⊢;have H:Own w2 (λk=>w.heap.size<=k) e A' m c' l2:=⟨q.mono λk f=>f.elim id λe=>by rw[e];omega,p.len⟩;have V0:Pu w w2:=E.mono λk f=>by obtain⟨b,hb,_⟩:=f;cases hb
   have:=G A' c' w2;rw[Nat.zero_add,List.nil_append]at this;exact this (H.NW (λk f=>⟨.inr f.1,f.2⟩) λk f=>f.2) V0
  | some a=>
   obtain⟨D,w2,y,q,s⟩:=run_append_arg_grows (P:=P) w t ty e i z (Enc.size α) bytes j.und hi O R hb j.cells j.pos a n n (l.flatMap enc) (by rw[ek,x.len]) (x.flat rfl) b m d (l2.flatMap enc) (by rw[ek,p.len]) (p.flat rfl) (by omega) (by simp only[maxLen];omega) J;rw[<-List.flatMap_append]at q;exact aa D w2 y q ⟨⟨s.os,s.tape,s.output,s.size,λk f=>s.block k f.1 (by simp)⟩⟩
theorem Own.narrow {e:TypeId}(h:Own w Z e A n c l):Own w (λk=>Z k/\k<w.heap.size) e A n c l:=by
 refine⟨⟨h.own.1,λa b=>⟨h.own.2 a b,?_⟩⟩,h.len⟩;rcases h.own.1.2 with⟨d,_⟩|⟨g,cap,cur,d,_,i,_⟩
 ·injection d with f _ _;rw[f]at b;cases b
 ·injection d with f _ _
  rw[f]at b;injection b with b
  rw[<-b];exact Blk.lt (show Blk w g cur e from i)
theorem Own.to {e:TypeId}(h:Own w Z e A n c l)(d:∀k,Z k->k<w.heap.size->Y k):Own w Y e A n c l:=h.narrow.mono λk b=>d k b.1 b.2
theorem qw {t ty e:TypeId}{z:Value}{bytes:Nat}(b:SN P t e z (Enc.size α) bytes){B:Option Addr}{m d:Nat}{l2:List α}(h:Rd w Y B m d l2)(x:m<=9223372036854775807)(p:m*bytes<=140737488355328)
 {K:Option Addr->Nat->Nat->World->Prop}(j:∀A' c' w2,Own w2 (λk=>w.heap.size<=k/\k<w2.heap.size) e A' m c' l2->Pu w w2->K A' m c' w2):
 ∃(A':oA)(n' c':Nat)(w2:World),(Builtin.append_ #[t,t] ty #[.slice none 0 0,.slice B m d]:Sem Value).run P w=.ok (.slice A' n' c') w2/\K A' n' c' w2:=by
 obtain⟨i,hi,y,D,hb⟩:=b.info;refine Own.apps (Own.nil (w:=w) (Z:=λk=>w.heap.size<=k)) b h (by omega) (by rw[Nat.zero_add];exact p) (Nat.le_refl _) (λA' c' w2 f q=>?_) (λhm s=>?_)
 ·rw[Nat.zero_add]at f ⊢;rw[List.nil_append]at f;exact j A' c' w2 f.narrow q.fresh
 ·subst hm s;have u:l2= []:=List.eq_nil_of_length_eq_zero h.len;subst u;exact⟨_,_,_,_,run_append_nothing w t t ty e i b.und hi none 0 0 (Nat.le_refl _) _ (Src.ofNil _ b.und d),j none 0 w Own.nil (Ch.refl _ _)⟩
end
theorem Own.ofRow {e:TypeId}{l:List Int}{g n:Nat}(h:Blk w g (bW l) e)(d:l.length=n)(hm:n<=9000000000000000000):Own w (λk=>k=g) e (pvA g) n n (l.map uM):=by
 have f:∀l:List Int,(l.map uM).flatMap enc=l.map (Value.int .u32):=by
  intro l
  induction l with
  |nil=>rfl
  |cons x r i=>rw[List.map_cons,List.flatMap_cons,i];rfl
 subst d;refine⟨⟨⟨by rw[ek];simp,.inr ⟨g,l.length,bW l,rfl,Nat.zero_le _,h,Nat.le_refl _,by simp only[maxLen];omega,?_,?_⟩⟩,λa b=>by injection b with b;rw[<-b]⟩,by simp⟩
 ·rw[gL,show Enc.size U32=1 from rfl,Nat.mul_one]
 ·rw[f,show Enc.size U32=1 from rfl,Nat.mul_one];show((l.map (Value.int .u32)).toArray.toList).take l.length=_;rw[List.take_of_length_le (by simp)]
theorem JN {a:Addr}{m o:Nat}:(if m=o then(some a)else(some a:oA).map (·.add (o*1)))=some (if m=o then a else a.add (o*1)):=by
 split<;>rfl
end
section
variable {w w0 w1 w2 A B:World}{X Y Z:Nat->Prop}
theorem Pu.join(p:Pu w w0)(d:Kept X w0 A)(j:Ch X w A):Pu w A:=
 ⟨⟨j.kept.os,j.kept.tape,j.kept.output,j.kept.size,λk b=>by
  by_cases f:X k
  ·rw[d.block k f];exact p.kept.block k b
  ·exact j.kept.block k ⟨b.1,f⟩⟩⟩
theorem Pu.put(w:World)(l:Nat)(o:Obj)(X:Nat->Prop)(b:X l):Ch X w (w.putObj l o):=⟨Kept.putObj w l o λh=>h.2 b⟩
theorem Ch.obj {o:Obj}{g:Nat}(q:Ch X w A)(h:w.heap[g]? =some o)(b:¬X g):A.heap[g]? =some o:=
 (q.kept.block g ⟨(Array.getElem?_eq_some_iff.1 h).1,b⟩).trans h
end
open Go.MapKept
def pz(w:World)(g:Nat)(l:List (Int×Value)):Prop:=∃es c,w.heap[g]? =some (.map es c)/\es.toList.map (λe=>(e.key,e.val))=l.map λp=>(Value.int .u32 p.1,p.2)
def lkF:List (Int×Value)->Int->Option Value
 | [],_=>none
 |(a,v)::r,i=>if i=a then some v else lkF r i
theorem mV:∀(l:List MapEntry)(m:List (Int×Value))(i:Int)(n:Nat),l.map (λe=>(e.key,e.val))=m.map (λp=>(Value.int .u32 p.1,p.2))->∃k,Instr.findNow (.int .u32) (.int .u32 i) l n=some ((lkF m i).map λv=>(k,v))
 | [],[],i,n,_=>⟨0,rfl⟩
 | [],_::_,i,n,h=>by simp at h
 |_::_,[],i,n,h=>by simp at h
 | e::l,(a,v)::m,i,n,h=>by
  simp only[List.map_cons,List.cons.injEq,Prod.mk.injEq]at h;obtain⟨⟨b,d⟩,f⟩:=h;by_cases hi:i=a
  ·refine⟨n,?_⟩;simp[Instr.findNow,Instr.sameNow,b,lkF,hi,d]
  ·obtain⟨k,j⟩:=mV l m i (n+1) f;refine⟨k,?_⟩;have hb:(i==a)=false:=by simpa using hi
   simp[Instr.findNow,Instr.sameNow,b,lkF,hi,j,hb]
theorem Gb {P:Program}{w:World}{T K E:TypeId}{z:Value}{g:Nat}{l:List (Int×Value)}(d:P.underlying T=some (.map K E))(f:P.underlying K=some (.int .u32))(p:(zeroValue E).run P w=.ok z w)(h:pz w g l)(i:Int):(Instr.lookup T (.map (some g)) (.int .u32 i) true).run P w=.ok (.tuple #[(lkF l i).getD z,.bool (lkF l i).isSome]) w:=by
 obtain⟨es,c,hb,he⟩:=h;obtain⟨k,q⟩:=mV es.toList l i 0 he;have b:=run_findKey (w:=w) f q;have j:(Instr.checkKey es.isEmpty 10000 K (.int .u32 i)).run P w=.ok () w:=run_checkKey f (show IsKey (.int .u32) (.int .u32 i)from rfl) _ _;cases m:lkF l i with
 | none=>
  rw[m]at b;simp[Instr.lookup,run_underlying d,MapKept.run_getObj_map hb,j,b,p,Result.andThen]
 | some v=>
  rw[m]at b;simp[Instr.lookup,run_underlying d,MapKept.run_getObj_map hb,j,b,Result.andThen]
theorem jP {P:Program}{w:World}{T K E:TypeId}{g:Nat}{l:List (Int×Value)}{v:Value}(f:P.underlying T=some (.map K E))(b:P.underlying K=some (.int .u32))(h:pz w g l){i:Int}(j:lkF l i=none):∃w',(Instr.mapUpdate T (.map (some g)) (.int .u32 i) v).run P w=.ok () w'/\pz w' g (l++ [(i,v)])/\Ch (λk=>k=g) w w':=by
 obtain⟨es,c,hb,he⟩:=h;obtain⟨k,m⟩:=mV es.toList l i 0 he;have d:=run_findKey (w:=w) b m;have p:(Instr.checkKey false 10000 K (.int .u32 i)).run P w=.ok () w:=run_checkKey b (show IsKey (.int .u32) (.int .u32 i)from rfl) _ _;rw[j]at d;have q:=(Array.getElem?_eq_some_iff.1 hb).1;refine⟨{w with heap:=w.heap.setIfInBounds g (.map (es.push {key:=.int .u32 i,val:=v,born:=c}) (c+1))},?_,⟨es.push {key:=.int .u32 i,val:=v,born:=c},c+1,by simp[q],by simp[he]⟩,?_⟩
 rotate_left
 ·exact⟨⟨rfl,rfl,rfl,by simp,λk b=>by simp[show ¬g=k from λe=>b.2 e.symm]⟩⟩
 simp[Instr.mapUpdate,run_underlying f,MapKept.run_getObj_map hb,p,d,MapKept.run_setObj_map _ hb,Result.andThen]
theorem pz.ch {w w':World}{g:Nat}{l:List (Int×Value)}{X:Nat->Prop}(h:pz w g l)(q:Ch X w w')(b:¬X g):pz w' g l:=by
 obtain⟨es,c,hb,he⟩:=h;exact⟨es,c,(q.kept.block g ⟨(Array.getElem?_eq_some_iff.1 hb).1,b⟩).trans hb,he⟩
theorem pz.lt {w:World}{g:Nat}{l:List (Int×Value)}(h:pz w g l):g<w.heap.size:=by
 obtain⟨es,c,hb,_⟩:=h;exact(Array.getElem?_eq_some_iff.1 hb).1
theorem pz.made(w:World):pz (w.alloc (.map #[] 0)) w.heap.size []:=⟨#[],0,(MapKept.heap_alloc w _).1,rfl⟩
section
structure Ls(el:Nat->Type) where
 t:Nat
 A:Option Addr
 c:Nat
 l:List (el t)
inductive FV where
 |v (x:Value)|o (path off:Nat)|l (li:Nat)
def fvV {el:Nat->Type}(r:Nat->Nat)(li:Nat->Option (Ls el)):FV->Option Value
 |.v x=>some x
 |.o p off=>some (.pointer (some ⟨r p,off,none⟩))
 | .l i=>match li i with
  |some L=>some (.slice L.A L.l.length L.c)
  |none=>none
structure Uni where
 ty:Nat->Type
 pred:(t:Nat)->(Nat->Nat)->ty t->(Nat->Prop)->World->Prop
 ch:∀ {t:Nat}{r:Nat->Nat}{s:ty t}{X Y:Nat->Prop}{w w':World},pred t r s X w->Ch Y w w'->(∀k,X k->¬Y k)->pred t r s X w'
 lt:∀ {t:Nat}{r:Nat->Nat}{s:ty t}{X:Nat->Prop}{w:World},pred t r s X w->∀k,X k->k<w.heap.size
 el:Nat->Type
 en:(t:Nat)->Enc (el t)
 df:(t:Nat)->el t
 dec:(t:Nat)->List Value->Option (el t)
 jn:∀ {t:Nat}{cs:List Value}{x:el t},dec t cs=some x->(en t).enc x=cs
 cd:TypeId->Option Nat
 li:(t:Nat)->(Nat->Nat)->ty t->Nat->Option (Ls el)
 oq:∀ {t:Nat}{r:Nat->Nat}{s:ty t}{X:Nat->Prop}{w:World}{i:Nat}{L:Ls el},pred t r s X w->li t r s i=some L-> @Rd (el L.t) (en L.t) w X L.A L.l.length L.c L.l
 ne:Nat->Nat->Bool
 AB:∀ {t:Nat}{r:Nat->Nat}{s:ty t}{X:Nat->Prop}{w:World}{j i:Nat}{L:Ls el}{x:el L.t},pred t r s X w->ne t j=true->li t r s j=some L->L.l[i]? =some x->∃L':Ls el,li t r s (i+1)=some L'/\(en L.t).enc x= [.slice L'.A L'.l.length L'.c]
 fs:(t:Nat)->(Nat->Nat)->ty t->Nat->Nat->Value->Option (Prop×ty t)
 sD:∀ {t:Nat}{r:Nat->Nat}{s s':ty t}{X:Nat->Prop}{w:World}{path off:Nat}{v:Value}{c:Prop},pred t r s X w->fs t r s path off v=some (c,s')->c->∀ {K:World->Prop},(∀w',pred t r s' X w'->Ch X w w'->K w')->aB w ⟨r path,off,none⟩ [v] K
 st:(t:Nat)->(Nat->Nat)->ty t->Nat->Nat->(tt:Nat)->el tt->Option (Prop×ty t)
 pP:∀ {t:Nat}{r:Nat->Nat}{s s':ty t}{X:Nat->Prop}{w:World}{j i:Nat}{L:Ls el}{x y:el L.t}{off:Nat}{vs:List Value}{c:Prop},pred t r s X w->li t r s j=some L->L.l[i]? =some x->off+vs.length<=(en L.t).size->(en L.t).enc y=((en L.t).enc x).take off++vs++((en L.t).enc x).drop (off+vs.length)->st t r s j i L.t y=some (c,s')->c->∀ {K:World->Prop},(∀w',pred t r s' X w'->Ch X w w'->K w')->aB w (((L.A.getD ⟨0,0,none⟩).add (i*(en L.t).size)).add off) vs K
 iv:Nat->Bool
 rw:Nat->Bool
 inv:(t:Nat)->ty t->Prop
 jk:∀ {t:Nat}{r:Nat->Nat}{s:ty t}{X:Nat->Prop}{w:World},pred t r s X w->inv t s
 fo:(t:Nat)->(Nat->Nat)->ty t->Nat->Nat->Option FV
 sF:∀ {t:Nat}{r:Nat->Nat}{s:ty t}{X:Nat->Prop}{w:World}{path off:Nat}{f:FV}{v:Value},pred t r s X w->fo t r s path off=some f->fvV r (li t r s) f=some v->X (r path)/\w.cell? ⟨r path,off,none⟩=some v
 mp:(t:Nat)->ty t->Option (List (Int×Value))
 AD:∀ {t:Nat}{r:Nat->Nat}{s:ty t}{X:Nat->Prop}{w:World}{l:List (Int×Value)},pred t r s X w->mp t s=some l->pz w (r 0) l
 mko:TypeId->List Value->Option ((t:Nat)×ty t)
 yQ:∀ {T:TypeId}{cs:List Value}{q:(t:Nat)×ty t}{w:World}{g:Nat},mko T cs=some q->Blk w g ⟨cs⟩ T->pred q.1 (λ_=>g) q.2 (λk=>k=g) w
 ix:Nat->Nat->Nat->Option Nat
 qi:∀ {t:Nat}{r:Nat->Nat}{s:ty t}{path off i:Nat}{L:Ls el},ix t path off=some i->li t r s i=some L->L.A=some ⟨r path,off,none⟩
 wl:(t:Nat)->(Nat->Nat)->ty t->Nat->Nat->Nat->Option (Prop×List Value)
 pC:∀ {t:Nat}{r:Nat->Nat}{s:ty t}{X:Nat->Prop}{w:World}{path off n:Nat}{c:Prop}{cs:List Value},pred t r s X w->wl t r s path off n=some (c,cs)->c->X (r path)/\∀j u,cs[j]? =some u->w.cell? ⟨r path,off+j,none⟩=some u
 ws:(t:Nat)->(Nat->Nat)->ty t->Nat->Nat->List Value->Option (Prop×ty t)
 od:∀ {t:Nat}{r:Nat->Nat}{s s':ty t}{X:Nat->Prop}{w:World}{path off:Nat}{vs:List Value}{c:Prop},pred t r s X w->ws t r s path off vs=some (c,s')->c->∀ {K:World->Prop},(∀w',pred t r s' X w'->Ch X w w'->K w')->aB w ⟨r path,off,none⟩ vs K
instance (U:Uni)(t:Nat):Enc (U.el t):=U.en t
inductive PK where
 |loc (id off:Nat)|obj (id path off:Nat)|sl (id li:Nat)|el (id li:Nat)(i:Int)(off:Nat)
inductive Kn where
 |p (k:PK)|t (l:List (Option PK))|f (a b:List (Option PK))|ag (l:List (Option PK))|pan|w (k:PK)(n:Nat)
inductive Key where
 |s (i:Nat)|c (id off:Nat)|l (id path:Nat)
inductive Res (U:Uni) where
 |blk (g:Nat)(cs:List Value)(T:TypeId)
 |ob (t:Nat)(r:Nat->Nat)(s:U.ty t)
 |lst (t:Nat)(own:Bool)(T:TypeId)(A:Option Addr)(c:Nat)(l:List (U.el t))
structure St(U:Uni) where
 rs:List (Res U)
 kn:List (Key×Kn)
 md:List Nat
def nth {α:Type}:List α->Nat->Option α
 | [],_=>none
 |a::_,0=>some a
 |_::l,n+1=>nth l n
def cf {α:Type}:List α->Nat->α->List α
 | [],_,_=>[]
 |_::l,0,x=>x::l
 |a::l,n+1,x=>a::cf l n x
theorem aX {α:Type}:∀ {l:List α}{i:Nat}{x:α},nth l i=some x->i<l.length
 |_::_,0,_,_=>by simp
 |_::l,i+1,x,h=>by have:=aX (l:=l) h;simp;omega
theorem cj {α:Type}:∀ {l:List α}{i:Nat},i<l.length->∃x,nth l i=some x
 |a::_,0,_=>⟨a,rfl⟩
 |_::l,i+1,h=>cj (l:=l) (by simpa using h)
theorem uI {α:Type}:∀ {l:List α}{i:Nat},l.length<=i->nth l i=none
 | [],_,_=>rfl
 |_::l,i+1,h=>uI (l:=l) (by simpa using h)
@[simp] theorem pQ {α:Type}:∀(l:List α)(i:Nat)(x:α),(cf l i x).length=l.length
 | [],_,_=>rfl
 |_::_,0,_=>rfl
 |_::l,i+1,x=>by simp[cf,pQ l i x]
theorem bD {α:Type}:∀(l:List α)(i j:Nat)(x:α),nth (cf l i x) j=if j=i/\i<l.length then some x else nth l j
 | [],i,j,x=>by simp[cf,nth]
 |a::l,0,0,x=>by simp[cf,nth]
 |a::l,0,j+1,x=>by simp[cf,nth]
 |a::l,i+1,0,x=>by simp[cf,nth]
 |a::l,i+1,j+1,x=>by simp[cf,nth,bD l i j x]
theorem aP {α:Type}:∀(l m:List α)(i:Nat),nth (l++m) i=if i<l.length then nth l i else nth m (i - l.length)
 | [],m,i=>by simp
 |a::l,m,0=>by simp[nth]
 |a::l,m,i+1=>by simp[nth,aP l m i]
theorem aM {α:Type}:∀(l:List α)(i:Nat),nth l i=l[i]?
 | [],_=>rfl
 |_::_,0=>rfl
 |_::l,i+1=>by simp[nth,aM l i]
section
variable {U:Uni}
def elA(U:Uni)(t:Nat)(A:Option Addr)(i:Int)(off:Nat):Addr:=((A.getD ⟨0,0,none⟩).add (i.toNat *(U.en t).size)).add off
def uV:List (Res U)->Prop->Prop
 | [],F=>F
 | .ob t _ s::l,F=>match U.iv t with
  |true=>U.inv t s->uV l F
  |false=>uV l F
 |_::l,F=>uV l F
def nmL:List (Res U)->List Nat->(List (Res U)->Prop)->Prop
 |rs,[],F=>F rs
 | rs,i::l,F=>match nth rs i with
  | some (.ob t r s)=>∀s':U.ty t,s'=s->(match U.iv t with
   |true=>U.inv t s'->nmL (cf rs i (.ob t r s')) l F
   |false=>nmL (cf rs i (.ob t r s')) l F)
  |some (.lst t own T A c x)=>∀b:List (U.el t),b=x->nmL (cf rs i (.lst t own T A c b)) l F
  |_=>nmL rs l F
def upto:Nat->Nat->List Nat
 |_,0=>[]
 |n,k+1=>n::upto (n+1) k
def Ic(rs:List (Res U)):List Nat->List (Res U)
 | []=>[]
 | i::l=>match nth rs i with
  |some r=>r::Ic rs l
  |none=>Ic rs l
def iu:Res U->Nat->Option (Ls U.el)
 |.lst t _ _ A c l,_=>some ⟨t,A,c,l⟩
 |.ob t r s,i=>U.li t r s i
 |_,_=>none
def cl(U:Uni):PK->Option (Res U)->Option Value
 |.loc _ off,some (.blk g _ _)=>some (.pointer (some ⟨g,off,none⟩))
 |.obj _ path off,some (.ob _ r _)=>some (.pointer (some ⟨r path,off,none⟩))
 | .sl _ li,some r=>(match iu r li with
  |some L=>some (.slice L.A L.l.length L.c)
  |none=>none)
 | .el _ li i off,some r=>(match iu r li with
  |some L=>if 0<=i/\i<L.l.length then some (.pointer (some (elA U L.t L.A i off)))else none
  |none=>none)
 |_,_=>none
def PK.id:PK->Nat
 |.loc i _=>i
 |.obj i _ _=>i
 |.sl i _=>i
 |.el i _ _ _=>i
def den(U:Uni)(rs:List (Res U))(k:PK):Option Value:=cl U k (nth rs k.id)
def jD(rs:List (Res U))(v:Value):Kn->Prop
 |.p k=>den U rs k=some v
 |.t l=>∃vs,v=.tuple vs/\∀j k,nth l j=some (some k)->∃u,vs[j]? =some u/\den U rs k=some u
 |.pan=>False
 |.w k n=>∃a c,den U rs k=some (.pointer (some a))/\v=.slice (some a) n c
 |.ag l=>∃cs,v=.agg cs/\∀j k,nth l j=some (some k)->∃u,cs[j]? =some u/\den U rs k=some u
 |.f a b=>∃f fs cs,v=.func f fs cs/\(a.length=fs.size/\b.length=cs.size)/\(∀j k,nth a j=some (some k)->∃u,fs[j]? =some u/\den U rs k=some u)/\(∀j k,nth b j=some (some k)->∃u,cs[j]? =some u/\den U rs k=some u)
def KnO(rs:List (Res U))(v:Value):Option Kn->Prop
 |none=>True
 |some k=>jD rs v k
def ei(rs:List (Res U))(fr:Fr):Key->Kn->Prop
 |.s i,k=>jD rs (lk fr.g i fr.e) k
 |.c id off,k=>∃g cs T v,nth rs id=some (.blk g cs T)/\nth cs off=some v/\jD rs v k
 |.l id path,k=>∃t r s,nth rs id=some (.ob t r s)/\jD rs (.pointer (some ⟨r path,0,none⟩)) k
def aG(rs:List (Res U))(fr:Fr)(kn:List (Key×Kn)):Prop:=∀key k,(key,k)∈kn->ei rs fr key k
def RS(X:Nat->Prop)(w:World):Res U->Prop
 |.blk g cs T=>X g/\(∀k,X k->k=g)/\Blk w g ⟨cs⟩ T
 |.ob t r s=>U.pred t r s X w
 |.lst _ true T A c l=>Own w X T A l.length c l/\∀k,X k->k<w.heap.size
 |.lst _ false _ A c l=>Rd w X A l.length c l
theorem RS.lt {X:Nat->Prop}{w:World}{r:Res U}(h:RS X w r):∀k,X k->k<w.heap.size:=by
 cases r with
 |blk g cs T=>intro k b;rw[h.2.1 k b];exact h.2.2.lt
 |ob t r s=>exact U.lt h
 |lst t own T A c l=>cases own;exact(show Rd w X A l.length c l from h).lt;exact h.2
theorem RS.ch {X Y:Nat->Prop}{w w':World}{r:Res U}(h:RS X w r)(q:Ch Y w w')(hb:∀k,X k->¬Y k):RS X w' r:=by
 cases r with
 |blk g cs T=>exact⟨h.1,h.2.1,q.blk h.2.2 (hb g h.1)⟩
 |ob t r s=>exact U.ch h q hb
 | lst t own T A c l=>
  cases own
  ·exact(show Rd w X A l.length c l from h).ch q hb
  ·exact⟨h.1.ch q hb,λk b=>Nat.lt_of_lt_of_le (h.2 k b) q.size⟩
theorem kY:∀ {l:List (Res U)}{F:Prop},(∀r,r∈l->∃(X:Nat->Prop)(w:World),RS X w r)->uV l F->F
 | [],F,_,h=>h
 | .ob t r s::l,F,b,h=>by
  unfold uV at h;have f:=λx d=>b x (List.mem_cons_of_mem _ d);split at h
  ·obtain⟨X,w,hw⟩:=b _ (List.mem_cons_self ..);exact kY f (h (U.jk hw))
  ·exact kY f h
 |.blk _ _ _::l,F,b,h=>kY (l:=l) (λx d=>b x (List.mem_cons_of_mem _ d)) h
 |.lst _ _ _ _ _ _::l,F,b,h=>kY (l:=l) (λx d=>b x (List.mem_cons_of_mem _ d)) h
theorem qU {α:Type}:∀ {l:List α}{i:Nat}{x:α},nth l i=some x->cf l i x=l
 | [],_,_,h=>by simp[nth]at h
 |a::l,0,x,h=>by simp[nth]at h;subst h;rfl
 |a::l,i+1,x,h=>by simp only[cf];rw[qU (l:=l) h]
theorem nI {rs:List (Res U)}(b:∀i r,nth rs i=some r->∃(X:Nat->Prop)(w:World),RS X w r):∀ {l:List Nat}{F:List (Res U)->Prop},nmL rs l F->F rs
 | [],F,h=>h
 | i::l,F,h=>by
  unfold nmL at h;split at h
  ·rename_i t r s d;have h:=h s rfl;rw[qU d]at h;split at h
   ·obtain⟨X,w,hw⟩:=b i _ d;exact nI b (h (U.jk hw))
   ·exact nI b h
  ·rename_i t own T A c x d;have h:=h x rfl;rw[qU d]at h;exact nI b h
  ·exact nI b h
theorem um {rs:List (Res U)}{r:Res U}:∀ {l:List Nat},r∈Ic rs l->∃i,nth rs i=some r
 | i::l,h=>by
  unfold Ic at h;split at h
  ·rename_i x b;rcases List.mem_cons.1 h with e|h
   ·exact⟨i,by rw[b,e]⟩
   ·exact um h
  ·exact um h
def rw1:Res U->Bool
 |.blk _ _ _=>true
 |.ob t _ _=>U.rw t
 |.lst _ own _ _ _ _=>own
def rwB(rs:List (Res U))(i:Nat):Bool:=match nth rs i with
 |some r=>rw1 r
 |none=>false
theorem dW {rs rs':List (Res U)}{i j:Nat}(h:nth rs' i=nth rs j):rwB rs' i=rwB rs j:=by unfold rwB;rw[h]
theorem MY {a b a' b':Bool}(h:(a || b)=true)(d:a=true->a'=true)(f:b=true->b'=true):(a' || b')=true:=by
 cases a
 ·cases b
  ·cases h
  ·rw[f rfl,Bool.or_true]
 ·rw[d rfl,Bool.true_or]
structure Sat(rs:List (Res U))(X:Nat->Nat->Prop)(w:World):Prop where
 res:∀i r,nth rs i=some r->RS (X i) w r
 gX:∀i j,i<rs.length->j<rs.length->i≠j->(rwB rs i || rwB rs j)=true->∀k,X i k->¬X j k
theorem Sat.dis {rs:List (Res U)}{X:Nat->Nat->Prop}{w:World}(h:Sat rs X w)(i j:Nat)(hi:i<rs.length)(b:j<rs.length)(d:i≠j)(k:Nat)(f:X i k)(m:X j k)(p:(rwB rs i || rwB rs j)=true:=by rfl):False:=h.gX i j hi b d p k f m
theorem Sat.lt {rs:List (Res U)}{X:Nat->Nat->Prop}{w:World}(h:Sat rs X w){i:Nat}(hi:i<rs.length):∀k,X i k->k<w.heap.size:=by
 obtain⟨r,b⟩:=cj hi;exact(h.res i r b).lt
structure Inv(w0:World)(k0:Nat)(X0:Nat->Nat->Prop)(may:List Nat)(rs:List (Res U))(X:Nat->Nat->Prop)(w:World):Prop where
 sat:Sat rs X w
 ch:Ch (λk=>∃j,j∈may/\X0 j k) w0 w
 old:∀i,i<k0->∀k,X i k->X0 i k\/w0.heap.size<=k
 new:∀i,k0<=i->i<rs.length->∀k,X i k->w0.heap.size<=k
 len:k0<=rs.length
variable {w0:World}{k0:Nat}{X0:Nat->Nat->Prop}{may:List Nat}{rs:List (Res U)}{X:Nat->Nat->Prop}{w w':World}
theorem Inv.step(h:Inv w0 k0 X0 may rs X w)(M:List Nat)(q:Ch (λk=>∃j,j∈M/\X j k) w w')(z:∀j,j∈M->(j<rs.length/\rwB rs j=true)/\(j∈may\/k0<=j)){rs':List (Res U)}{p:Nat->Nat->Prop}(J:rs.length<=rs'.length)
 (hs:∀i,i<rs.length->i ∉ M->nth rs' i=nth rs i/\p i=X i)
 (hm:∀i,(i∈M\/rs.length<=i)->∀r,nth rs' i=some r->RS (p i) w' r)
 (H:∀i,i∈M->∀k,p i k->X i k\/w.heap.size<=k)(K:∀i,rs.length<=i->i<rs'.length->∀k,p i k->w.heap.size<=k)
 (hd:∀i j,(i∈M\/rs.length<=i)->(j∈M\/rs.length<=j)->i≠j->i<rs'.length->j<rs'.length->(rwB rs' i || rwB rs' j)=true->∀k,p i k->¬p j k):Inv w0 k0 X0 may rs' p w':=by
 have hw:=h.ch.size;have low:∀i,i<rs.length->i ∉ M->∀k,p i k->k<w.heap.size:=λi hi hm k b=>h.sat.lt hi k (by rw[(hs i hi hm).2]at b;exact b);have apart:∀i j,i<rs.length->i ∉ M->(j∈M\/rs.length<=j)->j<rs'.length->i≠j->∀k,p i k->¬p j k:=by
  intro i j hi L d V x k b y;have J:=low i hi L k b;rw[(hs i hi L).2]at b;by_cases E:j∈M
  ·rcases H j E k y with m|m
   ·exact h.sat.gX i j hi (z j E).1.1 x (by rw[(z j E).1.2,Bool.or_true]) k b m
   ·omega
  ·have:=K j (by rcases d with d|d;exact absurd d E;exact d) V k y;omega
 refine⟨⟨λi r I=>?_,λi j hi d x O k b=>?_⟩,?_,λi hi k b=>?_,λi hi W k b=>?_,Nat.le_trans h.len J⟩
 ·by_cases f:i<rs.length/\i ∉ M
  ·obtain⟨e1,e2⟩:=hs i f.1 f.2;rw[e1]at I;rw[e2];exact(h.sat.res i r I).ch q λk b ⟨j,d,y⟩=>h.sat.gX i j f.1 (z j d).1.1 (λe=>f.2 (e▸d)) (by rw[(z j d).1.2,Bool.or_true]) k b y
  ·exact hm i (by by_cases hi:i∈M;exact .inl hi;exact .inr (Nat.le_of_not_lt λt=>f ⟨t,hi⟩)) r I
 ·by_cases u:i<rs.length/\i ∉ M
  ·by_cases s:j<rs.length/\j ∉ M
   ·rw[(hs i u.1 u.2).2]at b;rw[(hs j s.1 s.2).2];exact h.sat.gX i j u.1 s.1 x (by rw[<-dW (hs i u.1 u.2).1,<-dW (hs j s.1 s.2).1];exact O) k b
   ·exact apart i j u.1 u.2 (by by_cases hi:j∈M;exact .inl hi;exact .inr (Nat.le_of_not_lt λt=>s ⟨t,hi⟩)) d x k b
  ·have R:i∈M\/rs.length<=i:=by by_cases hi:i∈M;exact .inl hi;exact .inr (Nat.le_of_not_lt λt=>u ⟨t,hi⟩)
   by_cases s:j<rs.length/\j ∉ M
   ·exact λy=>apart j i s.1 s.2 R hi (Ne.symm x) k y b
   ·exact hd i j R (by by_cases hi:j∈M;exact .inl hi;exact .inr (Nat.le_of_not_lt λt=>s ⟨t,hi⟩)) x hi d O k b
 ·refine h.ch.call q ?_;rintro k ⟨j,d,b⟩;obtain⟨m,G⟩:=z j d;rcases Nat.lt_or_ge j k0 with f|f
  ·rcases G with G|G
   ·exact(h.old j f k b).imp (λt=>⟨j,G,t⟩) id
   ·omega
  ·exact .inr (h.new j f m.1 k b)
 ·by_cases D:i∈M
  ·rcases H i D k b with m|m
   ·exact h.old i hi k m
   ·exact .inr (Nat.le_trans hw m)
  ·rw[(hs i (Nat.lt_of_lt_of_le hi h.len) D).2]at b;exact h.old i hi k b
 ·by_cases f:i<rs.length
  ·by_cases D:i∈M
   ·rcases H i D k b with m|m
    ·exact h.new i hi f k m
    ·exact Nat.le_trans hw m
   ·rw[(hs i f D).2]at b;exact h.new i hi f k b
  ·exact Nat.le_trans hw (K i (Nat.le_of_not_lt f) W k b)
def j1(X:Nat->Nat->Prop)(i:Nat)(Z:Nat->Prop):Nat->Nat->Prop:=λj=>if j=i then Z else X j
theorem updX_eq(X:Nat->Nat->Prop)(i:Nat)(Z:Nat->Prop):j1 X i Z i=Z:=if_pos rfl
theorem gx(X:Nat->Nat->Prop){i j:Nat}(Z:Nat->Prop)(h:j≠i):j1 X i Z j=X j:=if_neg h
theorem Inv.pu(h:Inv w0 k0 X0 may rs X w)(q:Pu w w'):Inv w0 k0 X0 may rs X w':=
 h.step [] (q.mono λ_ h=>h.elim) (λj b=>by cases b) (Nat.le_refl _) (λi _ _=>⟨rfl,rfl⟩) (λi hi r d=>by
  rcases hi with hi|hi
  ·cases hi
  ·have:=aX d;omega) (λi hi=>by cases hi) (λi f m=>by omega) (λi j hi b _ f _ _=>by
  rcases hi with hi|hi
  ·cases hi
  ·omega)
theorem Inv.more(h:Inv w0 k0 X0 may rs X w)(q:Pu w w'){r:Res U}{Z:Nat->Prop}(s:RS Z w' r)(t:∀k,Z k->w.heap.size<=k):Inv w0 k0 X0 may (rs++ [r]) (j1 X rs.length Z) w':=
 h.step [] (q.mono λ_ h=>h.elim) (λj b=>by cases b) (by simp) (λi hi _=>⟨by rw[aP,if_pos hi],gx _ _ (by omega)⟩) (λi hi r' f=>by
  rcases hi with hi|hi
  ·cases hi
  ·have d:=aX f;simp at d;obtain rfl:i=rs.length:=by omega
   rw[aP,if_neg (by omega),Nat.sub_self]at f;obtain rfl:r=r':=by simpa[nth]using f
   rw[updX_eq];exact s) (λi hi=>by cases hi) (λi d m k p=>by
  simp at m;obtain rfl:i=rs.length:=by omega
  rw[updX_eq]at p;exact t k p) (λi j hi b u d m _=>by
  simp at d m;rcases hi with hi|hi
  ·cases hi
  ·rcases b with b|b
   ·cases b
   ·omega)
theorem Inv.set(h:Inv w0 k0 X0 may rs X w){i:Nat}(hi:i<rs.length)(hw:rwB rs i=true)(t:i∈may\/k0<=i)(q:Ch (X i) w w'){r:Res U}{Z:Nat->Prop}(u:RS Z w' r)(x:∀k,Z k->X i k\/w.heap.size<=k):Inv w0 k0 X0 may (cf rs i r) (j1 X i Z) w':=
 h.step [i] (q.mono λk f=>⟨i,by simp,f⟩) (λj b=>by simp at b;subst b;exact⟨⟨hi,hw⟩,t⟩) (by simp) (λj b p=>by
  simp at p;exact⟨by rw[bD,if_neg (by rintro⟨e,_⟩;exact p e)],gx _ _ p⟩) (λj b r' d=>by
  have m:=aX d;simp at m b;obtain rfl:j=i:=by omega
  rw[bD,if_pos ⟨rfl,hi⟩]at d;injection d with d
  subst d;rw[updX_eq];exact u) (λj b k f=>by
  simp at b;subst b;rw[updX_eq]at f;exact x k f) (λj m s=>by simp at s;omega) (λj l b y z m s _=>by
  simp at b y m s;omega)
end
end
section
def PK.eq:PK->PK->Bool
 |.loc a b,.loc x y=>Nat.beq a x && Nat.beq b y
 |.obj a b c,.obj x y z=>Nat.beq a x && (Nat.beq b y && Nat.beq c z)
 |.sl a b,.sl x y=>Nat.beq a x && Nat.beq b y
 |_,_=>false
def Kn.eq:Kn->Kn->Bool
 |.p a,.p b=>a.eq b
 |_,_=>false
def Key.eq:Key->Key->Bool
 |.s a,.s b=>Nat.beq a b
 |.c a b,.c x y=>Nat.beq a x && Nat.beq b y
 |.l a b,.l x y=>Nat.beq a x && Nat.beq b y
 |_,_=>false
def cP(key:Key):List (Key×Kn)->Option Kn
 | []=>none
 | (a,k)::r=>match a.eq key with
  |true=>some k
  |false=>cP key r
def dO(f:Key->Kn->Bool):List (Key×Kn)->List (Key×Kn)
 | []=>[]
 | (a,k)::r=>match f a k with
  |true=>(a,k)::dO f r
  |false=>dO f r
def AQ(key:Key)(o:Option Kn)(l:List (Key×Kn)):List (Key×Kn):=
 match o with
 |none=>dO (λa _=>!(a.eq key)) l
 |some k=>(key,k)::dO (λa _=>!(a.eq key)) l
def Key.tz(id off n:Nat):Key->Bool
 |.c i o=>Nat.beq i id && (Nat.ble off o && Nat.blt o (off+n))
 |_=>false
def PK.ofList(id:Nat):PK->Bool
 |.sl i _=>Nat.beq i id
 |.el i _ _ _=>Nat.beq i id
 |_=>false
def xw(id:Nat):Option PK->Bool
 |none=>false
 |some k=>k.ofList id
def oc {α:Type}(f:α->Bool):List α->Bool
 | []=>false
 | a::r=>match f a with
  |true=>true
  |false=>oc f r
def Kn.ofList(id:Nat):Kn->Bool
 |.p k=>k.ofList id
 |.t l=>oc (xw id) l
 |.ag l=>oc (xw id) l
 |.pan=>false
 |.w k _=>k.ofList id
 | .f a b=>match oc (xw id) a with
  |true=>true
  |false=>oc (xw id) b
def O7:Option Kn->Nat->Option PK
 | some (.ag l),i=>(match nth l i with
  |some o=>o
  |none=>none)
 |_,_=>none
def zd(id:Nat):Nat->List (Option PK)->List (Key×Kn)
 |_,[]=>[]
 |o,none::r=>zd id (o+1) r
 |o,some p::r=>(.c id o,.p p)::zd id (o+1) r
def cellsOf(id off:Nat)(sc:Bool):Option Kn->List (Key×Kn)
 |none=>[]
 |some .pan=>[]
 |some (.w _ _)=>[]
 |some (.ag l)=>zd id off l
 | some (.p p)=>(match sc with
  |true=>[(.c id off,.p p)]
  |false=>[])
 | some (.t l)=>(match sc with
  |true=>[(.c id off,.t l)]
  |false=>[])
 | some (.f a b)=>(match sc with
  |true=>[(.c id off,.f a b)]
  |false=>[])
def kt:Option Kn->Option PK
 |some (.p k)=>some k
 |_=>none
def kf(kn:List (Key×Kn)):Operand->Option Kn
 |.tmp t=>cP (.s t) kn
 |_=>none
inductive CP where
 |int (k:IntKind)|bool|str|any|hdr|nsl|nil|fn (k:Nat)|ptr (j:Nat)|obj (j path:Nat)|sl (j:Nat)
def CP.T:CP->Type->Type
 |.int _,T=>Int->T
 |.bool,T=>Bool->T
 |.str,T=>ByteArray->T
 |.any,T=>Value->T
 |.hdr,T=>Option Addr->Nat->Nat->T
 |_,T=>T
def Es:List CP->Type->Type
 | [],T=>T
 |c::l,T=>c.T (Es l T)
inductive AP where
 |one (c:CP)|agg (l:List CP)|enc (tt:Nat)
def AP.T(U:Uni):AP->Type->Type
 |.one c,T=>c.T T
 |.agg l,T=>Es l T
 |.enc tt,T=>U.el tt->T
def Ey(U:Uni):List AP->Type->Type
 | [],T=>T
 |a::l,T=>a.T U (Ey U l T)
inductive RP where
 |ob (t:Nat)(lk:List (Nat×Nat×Nat))|blk (l:List CP)(T:TypeId)|lst (t:Nat)(own:Bool)(T:TypeId)
def RP.T(U:Uni):RP->Type->Type
 |.ob t _,T=>(Nat->Nat)->U.ty t->T
 |.blk l _,T=>Nat->Es l T
 |.lst t _ _,T=>Option Addr->Nat->List (U.el t)->T
def G5(U:Uni):List RP->Type->Type
 | [],T=>T
 |p::l,T=>p.T U (G5 U l T)
inductive Upd (U:Uni) where
 |ob (t:Nat)(s:U.ty t)|blk (cs:List Value)|lst (t:Nat)(A:Option Addr)(c:Nat)(l:List (U.el t))
structure Ou(U:Uni) where
 res:Value
 kr:Option Kn
 upd:List (Upd U)
 news:List (Res U)
 kc:List (Key×Kn)
structure Ctr(U:Uni) where
 args:List AP
 imp:List (Nat×Nat)
 res:List RP
 aW:List Nat
 body:Ey U args (G5 U res ((Ou U->Prop)->Prop))
structure Tb(U:Uni) where
 c:Nat->Option (Ctr U)
 sh:Sh
 al:List (Nat×List PK×List PK)
abbrev Th:=List (Nat×Nat)
def dx:Th->Nat->Option Nat
 | [],_=>none
 | (j,i)::r,k=>match Nat.beq j k with
  |true=>some i
  |false=>dx r k
def oF(j id:Nat)(θ:Th)(F:Th->Prop):Prop:=
 match dx θ j with
 |none=>F ((j,id)::θ)
 | some i=>match Nat.beq i id with
  |true=>F θ
  |false=>False
def apC {T:Type}:(c:CP)->c.T T->Value->Option PK->Th->(T->Th->Prop)->Prop
 | .int k,J,v,_,θ,F=>match v with
  | .int b x=>match kEq k b with
   |true=>F (J x) θ
   |false=>False
  |_=>False
 | .bool,J,v,_,θ,F=>match v with
  |.bool x=>F (J x) θ
  |_=>False
 | .str,J,v,_,θ,F=>match v with
  |.string x=>F (J x) θ
  |_=>False
 |.any,J,v,_,θ,F=>F (J v) θ
 | .hdr,J,v,_,θ,F=>match v with
  |.slice A n c=>F (J A n c) θ
  |_=>False
 | .nsl,J,v,_,θ,F=>match v with
  |.slice none 0 0=>F J θ
  |_=>False
 | .nil,J,v,_,θ,F=>match v with
  |.pointer none=>F J θ
  |_=>False
 | .fn f,J,v,_,θ,F=>match v with
  | .func (.func f') ⟨[]⟩ ⟨[]⟩=>(match Nat.beq f f' with
   |true=>F J θ
   |false=>False)
  |_=>False
 | .ptr j,J,_,k,θ,F=>match k with
  |some (.loc id 0)=>oF j id θ (F J)
  |_=>False
 | .obj j path,J,_,k,θ,F=>match k with
  | some (.obj id p 0)=>match Nat.beq p path with
   |true=>oF j id θ (F J)
   |false=>False
  |_=>False
 | .sl j,J,_,k,θ,F=>match k with
  |some (.sl id 0)=>oF j id θ (F J)
  |_=>False
def Mr {T:Type}:(l:List CP)->Es l T->List Value->(Nat->Option PK)->Nat->Th->(T->Th->Prop)->Prop
 | [],J,[],_,_,θ,F=>F J θ
 |c::l,J,v::vs,kc,i,θ,F=>apC c J v (kc i) θ λb d=>Mr l b vs kc (i+1) d F
 |_,_,_,_,_,_,_=>False
def apA {U:Uni}{T:Type}:(a:AP)->a.T U T->Value->Option Kn->Th->(T->Th->Prop)->Prop
 |.one c,J,v,k,θ,F=>apC c J v (kt k) θ F
 | .agg l,J,v,k,θ,F=>match v with
  |.agg cs=>Mr l J cs.toList (O7 k) 0 θ F
  |_=>False
 | .enc tt,J,v,_,θ,F=>match v with
  | .agg cs=>(match U.dec tt cs.toList with
   |some x=>F (J x) θ
   |none=>False)
  |_=>False
def BA {U:Uni}{T:Type}:(l:List AP)->Ey U l T->List Value->List (Option Kn)->Th->(T->Th->Prop)->Prop
 | [],J,[],_,θ,F=>F J θ
 |a::l,J,v::vs,k::b,θ,F=>apA a J v k θ λd f=>BA l d vs b f F
 |_,_,_,_,_,_=>False
def Mq:List (Nat×Nat×Nat)->(Nat->Option PK)->Th->(Th->Prop)->Prop
 | [],_,θ,F=>F θ
 | (p,j,q)::l,b,θ,F=>match b p with
  | some (.obj i q' 0)=>(match Nat.beq q' q with
   |true=>oF j i θ λd=>Mq l b d F
   |false=>False)
  |_=>False
def apR {U:Uni}{T:Type}:(p:RP)->p.T U T->Option (Res U)->(Nat->Option PK)->(Nat->Option PK)->Th->(T->Th->Prop)->Prop
 |.ob t lk,J,some (.ob b r s),_,d,θ,F=>if h:b=t then Mq lk d θ λf=>F (J r (h▸s)) f else False
 | .blk l T,J,some (.blk g cs T'),kc,_,θ,F=>match Nat.beq T' T with
  |true=>Mr l (J g) cs kc 0 θ F
  |false=>False
 | .lst t own T,J,some (.lst b i T' A c l),_,_,θ,F=>match (!own || (i && Nat.beq T' T))with
  |true=>if h:b=t then F (J A c (h▸l)) θ else False
  |false=>False
 |_,_,_,_,_,_,_=>False
def Mn {U:Uni}{T:Type}(rs:List (Res U))(kn:List (Key×Kn)):(l:List RP)->G5 U l T->Nat->Th->(T->Th->Prop)->Prop
 | [],J,_,θ,F=>F J θ
 | p::l,J,j,θ,F=>match dx θ j with
  |some id=>apR p J (nth rs id) (λo=>kt (cP (.c id o) kn)) (λp=>kt (cP (.l id p) kn)) θ λb d=>Mn rs kn l b (j+1) d F
  |none=>False
def Dk {U:Uni}(t:Nat):List (Res U)->Nat->Option Nat
 | [],_=>none
 | .ob b _ _::r,i=>match Dk t r (i+1)with
  |some j=>some j
  | none=>match Nat.beq b t with
   |true=>some i
   |false=>none
 |_::r,i=>Dk t r (i+1)
def FC {U:Uni}(rs:List (Res U)):List (Nat×Nat)->Th->(Th->Prop)->Prop
 | [],θ,F=>F θ
 | (j,t)::l,θ,F=>match Dk t rs 0 with
  |some id=>oF j id θ λb=>FC rs l b F
  |none=>False
def mP(x:Nat):List Nat->Bool
 | []=>false
 | y::r=>match Nat.beq y x with
  |true=>true
  |false=>mP x r
def rh:List Nat->Bool
 | []=>true
 | x::r=>match mP x r with
  |true=>false
  |false=>rh r
def jT {α β:Type}(f:α->Option β):List α->Option (List β)
 | []=>some []
 | a::r=>match f a,jT f r with
  |some b,some d=>some (b::d)
  |_,_=>none
def cV {U:Uni}:Res U->Upd U->Option (Res U)
 |.ob t r _,.ob b s'=>if h:b=t then some (.ob t r (h▸s'))else none
 | .blk g cs T,.blk cs'=>match Nat.beq cs'.length cs.length with
  |true=>some (.blk g cs' T)
  |false=>none
 |.lst t own T _ _ _,.lst b A c l=>if h:b=t then some (.lst t own T A c (h▸l))else none
 |_,_=>none
def br {U:Uni}:List (Res U)->List Nat->List (Upd U)->Option (List (Res U))
 |rs,[],[]=>some rs
 | rs,i::is,u::us=>match nth rs i with
  | some r=>match cV r u with
   |some r'=>br (cf rs i r') is us
   |none=>none
  |none=>none
 |_,_,_=>none
def fE:List Nat->List (Key×Kn)->List (Key×Kn)
 | [],kn=>kn
 |i::r,kn=>fE r (dO (λa k=>!(k.ofList i) && (match a with|.c id _=>!(Nat.beq id i)|_=>true)) kn)
def EF(θ:Th)(k n j:Nat):Option Nat:=
 match Nat.blt j k with
 |true=>dx θ j
 |false=>some (n+(j - k))
def PK.ren(f:Nat->Option Nat):PK->Option PK
 |.loc i o=>(f i).map (.loc · o)
 |.obj i p o=>(f i).map (.obj · p o)
 |.sl i l=>(f i).map (.sl · l)
 |.el i l x o=>(f i).map (.el · l x o)
def uF(f:Nat->Option Nat):Option PK->Option PK
 |none=>none
 |some k=>k.ren f
def Uni.ix1(U:Uni)(rs:List (Res U))(id path off:Nat):Option Nat:=match nth rs id with
 |some (.ob tt _ _)=>U.ix tt path off
 |_=>none
def aK {α β:Type}(f:α->β):List α->List β
 | []=>[]
 |a::r=>f a::aK f r
def Kn.ren(f:Nat->Option Nat):Kn->Option Kn
 |.p k=>(k.ren f).map .p
 |.t l=>some (.t (aK (uF f) l))
 |.ag l=>some (.ag (aK (uF f) l))
 |.f a b=>some (.f (aK (uF f) a) (aK (uF f) b))
 |.pan=>some .pan
 |.w k n=>(k.ren f).map (.w · n)
def Fg(f:Nat->Option Nat):Option Kn->Option Kn
 |none=>none
 |some k=>k.ren f
def mf(f:Nat->Option Nat):List (Key×Kn)->List (Key×Kn)
 | []=>[]
 | (.c i o,k)::r=>match f i,k.ren f with
  |some b,some d=>(.c b o,d)::mf f r
  |_,_=>mf f r
 | (.l i o,k)::r=>match f i,k.ren f with
  |some b,some d=>(.l b o,d)::mf f r
  |_,_=>mf f r
 |_::r=>mf f r
section
variable (U:Uni)(P:Program)(tbl:Tb U)(may:List Nat)(k0:Nat)
abbrev eF:=Value->Option Kn->St U->Prop
def lq {U:Uni}(may:List Nat)(k0:Nat)(rs:List (Res U))(i:Nat):Bool:=match rwB rs i with
 | true=>(match Nat.ble k0 i with
  |true=>true
  |false=>mP i may)
 |false=>false
def gp {α:Type}(f:α->Bool):List α->Bool
 | []=>true
 | a::r=>match f a with
  |true=>gp f r
  |false=>false
def Og(c:Ctr U):Bool:=gp (λj=>match nth c.res j with
 |some (.lst _ own _)=>own
 |some _=>true
 |none=>false) c.aW
def call2(f:Nat)(args:List Value)(b:List (Option Kn))(st:St U)(K:eF U):Prop:=
 match tbl.c f with
 |none=>False
 | some c=>BA c.args c.body args b [] λB θ=>FC st.rs c.imp θ λθ=>Mn st.rs st.kn c.res B 0 θ λB θ=>
  match rh (aK (·.2) θ) && (gp (λp=>Nat.blt p.1 c.res.length) θ && Og U c),jT (dx θ) c.aW with
  | true,some M=>(match gp (lq may k0 st.rs) M with
   | true=>B λout=>match br st.rs M out.upd with
    |some rs'=>nmL (rs'++out.news) (M++upto rs'.length out.news.length) λd=>K out.res (Fg (EF θ c.res.length st.rs.length) out.kr) ⟨d,mf (EF θ c.res.length st.rs.length) out.kc++fE M st.kn,M++st.md⟩
    |none=>False
   |false=>False)
  |_,_=>False
def g9 {α:Type}:List α->Nat->List α->List α
 |cs,_,[]=>cs
 |cs,o,v::r=>g9 (cf cs o v) (o+1) r
def j4 {α:Type}:Nat->List α->List α
 |0,_=>[]
 |_,[]=>[]
 |n+1,a::r=>a::j4 n r
def mY {α:Type}:Nat->List α->List α
 |0,l=>l
 |_,[]=>[]
 |n+1,_::r=>mY n r
def j8(t:TypeId)(cs:List Value)(off:Nat):Option Value:=
 match vp P t (uh (ej P t)) && (hasType P t && (Nat.beq (jh (ej P t)) (aZ P t) && Nat.ble (off+aZ P t) cs.length))with
 | true=>(match ej P t with
  |.one _=>nth cs off
  |.agg l=>some (.agg ⟨j4 l.length (mY off cs)⟩)
  |.row n=>some (.agg ⟨j4 n (mY off cs)⟩))
 |false=>none
def mu(t:TypeId):Bool:=match ej P t with
 |.one _=>true
 |_=>false
def hH {α:Type}(o:Option α)(F:α->Prop):Prop:=match o with
 |some a=>F a
 |none=>False
def fvK(kn:List (Key×Kn))(id:Nat):FV->Option Kn
 |.v _=>none
 | .o p 0=>(match cP (.l id p) kn with
  |some k=>some k
  |none=>some (.p (.obj id p 0)))
 |.o p off=>some (.p (.obj id p off))
 |.l i=>some (.p (.sl id i))
def upN:Nat->Nat->List Nat
 |_,0=>[]
 |n,k+1=>n::upN (n+1) k
def isK:Option PK->Bool
 |some _=>true
 |none=>false
def Ds(id off:Nat)(kn:List (Key×Kn))(v:Value):Option Kn:=
 match v with
 | .agg cs=>(match oc isK (aK (λj=>kt (cP (.c id (off+j)) kn)) (upN 0 cs.toList.length))with
  |true=>some (.ag (aK (λj=>kt (cP (.c id (off+j)) kn)) (upN 0 cs.toList.length)))
  |false=>none)
 |_=>none
def hd1:List Value->Value
 |v::_=>v
 | []=>undef
def mZ(tt:Nat)(l:List (U.el tt))(i n:Nat):List Value:=aK (λj=>hd1 ((U.en tt).enc (l.getD (i+j) (U.df tt)))) (upN 0 n)
def neK(t:TypeId)(id li:Nat)(i:Int)(off:Nat):Res U->Option Kn
 | .ob tt _ _=>(match U.ne tt li && (mu P t && Nat.beq off 0)with
  |true=>some (.p (.sl id (i.toNat+1)))
  |false=>none)
 |_=>none
def xF(t:TypeId)(k:Option Kn)(st:St U)(K:Value->Option Kn->Prop):Prop:=
 match k with
 | some (.p (.loc id off))=>(match nth st.rs id with
  | some (.blk _ cs _)=>hH (j8 P t cs off) λv=>K v (match mu P t with
   |true=>cP (.c id off) st.kn
   |false=>Ds id off st.kn v)
  |_=>False)
 | some (.p (.obj id path off))=>(match nth st.rs id with
  | some (.ob tt r s)=>(match U.fo tt r s path off with
   | some f=>hH (fvV r (U.li tt r s) f) λu=>hH (j8 P t [u] 0) λv=>K v (match mu P t with
    |true=>fvK st.kn id f
    |false=>none)
   | none=>(match U.wl tt r s path off (aZ P t)with
    |some (c,cs)=>c/\hH (j8 P t cs 0) λv=>K v none
    |none=>False))
  |_=>False)
 | some (.p (.el id li i off))=>(match nth st.rs id with
  | some r=>(match iu r li with
   | some L=>(match Nat.ble (off+aZ P t) (U.en L.t).size,Nat.beq off 0 with
    | false,true=>(match Nat.beq (U.en L.t).size 1 with
     |true=>i.toNat+aZ P t<=L.l.length/\hH (j8 P t (mZ U L.t L.l i.toNat (aZ P t)) 0) λv=>K v none
     |false=>False)
    |_,_=>hH (j8 P t ((U.en L.t).enc (L.l.getD i.toNat (U.df L.t))) off) λv=>K v (neK U P t id li i off r))
   |none=>False)
  |none=>False)
 |_=>False
def Lk(t:TypeId):Bool:=match ej P t with
 |.row _=>true
 |_=>false
def yy(t:TypeId)(k:Option Kn)(y:Value)(st:St U)(K:eF U):Prop:=
 match ej P t,k,y with
 | .row n,some (.p (.obj id path off)),.agg cs=>(match hasType P t && (Nat.beq n (aZ P t) && Nat.beq cs.toList.length n),nth st.rs id,lq may k0 st.rs id with
  | true,some (.ob tt r s),true=>n8 cs.toList (match U.ws tt r s path off cs.toList with
   |some (c,s')=>c/\nmL (cf st.rs id (.ob tt r s')) [id] λb=>K undef none ⟨b,fE [id] st.kn,id::st.md⟩
   |none=>False)
  |_,_,_=>False)
 |_,_,_=>False
def CJ(t:TypeId)(k:Option Kn)(y:Value)(ky:Option Kn)(st:St U)(K:eF U):Prop:=
 match Lk P t with
 |true=>yy U P may k0 t k y st K
 |false=>match !(Lk P t) && (Nat.beq y.cells.toList.length (aZ P t) && hasType P t)with
 |false=>False
 | true=>match k with
  | some (.p (.loc id off))=>(match nth st.rs id,lq may k0 st.rs id with
   | some (.blk g cs T),true=>(match Nat.ble (off+aZ P t) cs.length with
    |true=>n8 y.cells.toList (K undef none ⟨cf st.rs id (.blk g (g9 cs off y.cells.toList) T),cellsOf id off (mu P t && Nat.beq (aZ P t) 1) ky++dO (λa _=>!(a.tz id off (aZ P t))) st.kn,id::st.md⟩)
    |false=>False)
   |_,_=>False)
  | some (.p (.el id 0 i off))=>(match nth st.rs id,lq may k0 st.rs id with
   | some (.lst tt true T A c l),true=>(match Nat.ble (off+aZ P t) (U.en tt).size with
    | true=>n8 y.cells.toList (hH (U.dec tt (g9 ((U.en tt).enc (l.getD i.toNat (U.df tt))) off y.cells.toList)) λx=>
     nmL (cf st.rs id (.lst tt true T A c (l.set i.toNat x))) [id] λb=>K undef none ⟨b,st.kn,id::st.md⟩)
    |false=>False)
   | some (.ob tt r s),true=>(match U.li tt r s 0 with
    | some L=>(match Nat.ble (off+aZ P t) (U.en L.t).size with
     | true=>n8 y.cells.toList (hH (U.dec L.t (g9 ((U.en L.t).enc (L.l.getD i.toNat (U.df L.t))) off y.cells.toList)) λx=>(match U.st tt r s 0 i.toNat L.t x with
      |some (c,s')=>c/\nmL (cf st.rs id (.ob tt r s')) [id] λb=>K undef none ⟨b,fE [id] st.kn,id::st.md⟩
      |none=>False))
     |false=>False)
    |none=>False)
   |_,_=>False)
  | some (.p (.el id (li+1) i off))=>(match nth st.rs id,lq may k0 st.rs id with
   | some (.ob tt r s),true=>(match U.li tt r s (li+1)with
    | some L=>(match Nat.ble (off+aZ P t) (U.en L.t).size with
     | true=>n8 y.cells.toList (hH (U.dec L.t (g9 ((U.en L.t).enc (L.l.getD i.toNat (U.df L.t))) off y.cells.toList)) λx=>(match U.st tt r s (li+1) i.toNat L.t x with
      |some (c,s')=>c/\nmL (cf st.rs id (.ob tt r s')) [id] λb=>K undef none ⟨b,fE [id] st.kn,id::st.md⟩
      |none=>False))
     |false=>False)
    |none=>False)
   |_,_=>False)
  | some (.p (.obj id path off))=>(match nth st.rs id,lq may k0 st.rs id,y.cells.toList with
   | some (.ob tt r s),true,[v]=>n8 [v] (match U.fs tt r s path off v with
    |some (c,s')=>c/\nmL (cf st.rs id (.ob tt r s')) [id] λb=>K undef none ⟨b,fE [id] st.kn,id::st.md⟩
    |none=>False)
   | some (.ob tt r s),true,v::v2::vs=>n8 (v::v2::vs) (match U.ws tt r s path off (v::v2::vs)with
    |some (c,s')=>c/\nmL (cf st.rs id (.ob tt r s')) [id] λb=>K undef none ⟨b,fE [id] st.kn,id::st.md⟩
    |none=>False)
   |_,_,_=>False)
  |_=>False
def PK.on(l:Nat):PK->Option PK
 |.loc id off=>some (.loc id (off+l))
 |.obj id path off=>some (.obj id path (off+l))
 |_=>none
def Oj(d:Nat):Option Value->Option Nat
 |none=>some d
 |some (.int _ (.ofNat l))=>some l
 |_=>none
def Nr(t:TypeId)(k:Option Kn)(lo hi:Option Value)(st:St U)(K:Value->Option Kn->Prop):Prop:=
 match P.underlying t,k,Oj 0 lo with
 | some (.array n e),some (.p p),some l=>(match Oj n hi,PK.on l p with
  | some h,some q=>(match den U st.rs p,den U st.rs q,hasType P e && (Nat.beq (aZ P e) 1 && (Nat.blt l h && Nat.ble h n))with
   |some _,some (.pointer (some a)),true=>K (.slice (some a) (h - l) (n - l)) (some (.w q (h - l)))
   |_,_,_=>False)
  |_,_=>False)
 |_,_,_=>False
def yR(n m:Nat):Nat:=match Nat.ble n m with
 |true=>n
 |false=>m
def NJ(k:Option Kn)(n:Nat)(st:St U)(F:List Value->Prop):Prop:=
 match k with
 | some (.w (.loc id off) m)=>(match nth st.rs id with
  | some (.blk _ cs _)=>(match Nat.ble (off+yR n m) cs.length with
   |true=>F (j4 (yR n m) (mY off cs))
   |false=>False)
  |_=>False)
 | some (.w (.obj id path off) m)=>(match nth st.rs id with
  | some (.ob tt r s)=>(match U.wl tt r s path off (yR n m)with
   | some (c,cs)=>c/\(match Nat.beq cs.length (yR n m)with
    |true=>F cs
    |false=>False)
   |none=>False)
  |_=>False)
 | some (.p (.sl id li))=>(match nth st.rs id with
  | some (.ob tt r s)=>(match U.li tt r s li with
   | some L=>(match Nat.beq (U.en L.t).size 1 with
    |true=>(0<n/\n<=L.l.length)/\F (mZ U L.t L.l 0 n)
    |false=>False)
   |none=>False)
  | some (.lst tt _ _ _ c l)=>(match Nat.beq (U.en tt).size 1 with
   |true=>(0<yR n c/\l.length=c)/\F (mZ U tt l 0 (yR n c))
   |false=>False)
  |_=>False)
 |_=>False
def OM(q:PK)(vs:List Value)(st:St U)(K:eF U):Prop:=
 match q with
 | .loc id off=>(match nth st.rs id,lq may k0 st.rs id with
  | some (.blk g cs T),true=>(match Nat.ble (off+vs.length) cs.length with
   |true=>n8 vs (K (.int .i64 vs.length) none ⟨cf st.rs id (.blk g (g9 cs off vs) T),dO (λa _=>!(a.tz id off vs.length)) st.kn,id::st.md⟩)
   |false=>False)
  |_,_=>False)
 | .obj id path off=>(match nth st.rs id,lq may k0 st.rs id with
  | some (.ob tt r s),true=>n8 vs (match U.ws tt r s path off vs with
   |some (c,s')=>c/\nmL (cf st.rs id (.ob tt r s')) [id] λb=>K (.int .i64 vs.length) none ⟨b,fE [id] st.kn,id::st.md⟩
   |none=>False)
  |_,_=>False)
 |_=>False
def slB(t:TypeId):Bool:=match P.underlying t with
 | some (.slice e)=>(match P.info? e with
  |some i=>Nat.beq i.size 1
  |none=>false)
 |_=>false
def JO(t:TypeId)(b ky:Option Kn)(st:St U)(K:eF U):Prop:=
 match b,slB P t with
 |some (.w q n),true=>NJ U ky n st λvs=>OM U may k0 q vs st K
 |_,_=>False
def yW(s:TypeId)(f:Nat):Option Kn->Option Kn
 | some (.p k)=>(match P.underlying s with
  | some (.struct fields)=>(match fields[f]? with
   | some fd=>(match k with
    |.loc id off=>some (.p (.loc id (off+fd.offset)))
    |.el id li i off=>some (.p (.el id li i (off+fd.offset)))
    |.obj id path off=>some (.p (.obj id path (off+fd.offset)))
    |_=>none)
   |none=>none)
  |_=>none)
 |_=>none
def W0:World:=default
def Lz(cs:List Value)(T:TypeId)(ck:Option Kn)(st:St U)(K:eF U):Prop:=
 match U.mko T cs with
 |some ⟨t,s⟩=>∀g:Nat,nmL (st.rs++ [.ob t (λ_=>g) s]) [st.rs.length] λb=>K (.pointer (some ⟨g,0,none⟩)) (some (.p (.obj st.rs.length 0 0))) ⟨b,st.kn,st.md⟩
 |none=>∀g:Nat,K (.pointer (some ⟨g,0,none⟩)) (some (.p (.loc st.rs.length 0))) ⟨st.rs++ [.blk g cs T],cellsOf st.rs.length 0 true ck++st.kn,st.md⟩
def Ja(k:Option Kn)(i:Nat):Option Kn:=
 match k with
 | some (.t l)=>(match nth l i with
  |some (some p)=>some (.p p)
  |_=>none)
 |_=>none
def sq(o:Oper)(ρ:Operand->Value)(F:Value->Prop):Prop:=so P none o ρ W0 F False
def QV(t:TypeId)(i:Nat):Option Nat:=
 match P.underlying t with
 | some (.struct fields)=>(match fields[i]? with
  |some fd=>some fd.offset
  |none=>none)
 |some (.array _ e)=>some (i*aZ P e)
 |_=>none
def agC(o:Nat):List (Option PK)->List (Nat×PK)
 | []=>[]
 |some p::r=>(o,p)::agC (o+1) r
 |none::r=>agC (o+1) r
def zf(t:TypeId)(kn:List (Key×Kn)):List (Nat×Operand)->List (Nat×PK)
 | []=>[]
 | (i,x)::r=>match kf kn x,QV P t i with
  |some (.p p),some o=>(o,p)::zf t kn r
  |some (.ag l),some o=>agC o l++zf t kn r
  |_,_=>zf t kn r
def zg(j:Nat):List (Nat×PK)->Option PK
 | []=>none
 | (i,p)::r=>match Nat.beq i j with
  |true=>some p
  |false=>zg j r
def OI {U:Uni}(rs:List (Res U))(cs:List Value):List (Nat×PK)->Prop->Prop
 | [],F=>F
 |(o,p)::r,F=>den U rs p=nth cs o/\OI rs cs r F
def JX {U:Uni}(st:St U)(v:Value)(d:List (Nat×PK))(K:Value->Option Kn->Prop):Prop:=
 match d with
 | []=>K v none
 | b::r=>match v with
  |.agg cs=>OI st.rs cs.toList (b::r) (K v (some (.ag (aK (λj=>zg j (b::r)) (upN 0 cs.toList.length)))))
  |_=>False
def Qe:Option Kn->List Value->List Value->List (Option Kn)->List (Option Kn)
 |some (.f a b),_,_,d=>aK (λo=>o.map .p) a++(d++aK (λo=>o.map .p) b)
 |_,first,cap,d=>aK (λ_=>none) first++(d++aK (λ_=>none) cap)
def JB(t:TypeId):Nat:=match P.underlying t with
 |some (.slice e)=>aZ P e
 |some (.array _ e)=>aZ P e
 |_=>0
def GN(tt:Nat):Nat->List Value->Option (List (U.el tt))
 |0,[]=>some []
 | n+1,cs=>match U.dec tt (j4 (U.en tt).size cs),GN tt n (mY (U.en tt).size cs)with
  |some x,some r=>some (x::r)
  |_,_=>none
 |_,_=>none
def H6(t:TypeId):Option (TypeId×Nat×TypeInfo×Value):=
 match P.underlying t with
 | some (.slice e)=>(match U.cd e,P.info? e with
  | some tt,some b=>(match b.zero with
   | some z=>(match Nat.beq b.size (U.en tt).size && (Nat.beq z.cells.toList.length b.size && Nat.blt 0 b.bytes)with
    |true=>some (e,tt,b,z)
    |false=>none)
   |none=>none)
  |_,_=>none)
 |_=>none
def Qf(b:TypeInfo)(z:Value)(len:Nat)(parts:List (Nat×Value)):Option (Array Value):=
 Instr.fill (λi=>some (i*b.size,b.size)) ((Array.range (len*b.size)).map (z.cells[· % z.cells.size]!)) parts
def NI(tt:Nat)(v:Value)(k:Option Kn)(st:St U)(F:List (U.el tt)->Prop):Prop:=
 match k with
 | some (.p (.sl id li))=>(match nth st.rs id with
  | some r=>(match iu r li with
   |some L=>if h:L.t=tt then F (h▸L.l)else False
   |none=>False)
  |none=>False)
 | _=>match v with
  |.slice none 0 _=>F []
  |_=>False
def orL {α:Type}(F:α->Prop):List α->Prop
 | []=>False
 | [a]=>F a
 |a::r=>F a\/orL F r
def Qg:Sh->(Value->Prop)->Prop
 |.int k,F=>∃x:Int,F (.int k x)
 |.bool,F=>∃x:Bool,F (.bool x)
 |.str,F=>∃x:ByteArray,F (.string x)
 |_,F=>∃x:Value,F x
def dv {U:Uni}(rs:List (Res U))(p:PK):Value:=(den U rs p).getD undef
def GK {U:Uni}(rs:List (Res U))(p:PK):Bool:=match den U rs p with
 |some _=>true
 |none=>false
def CU(k:Option Kn)(A B:Prop):Prop:=match k with
 |some .pan=>A
 |_=>B
def FA(v:Value)(args:List Value)(b:List (Option Kn))(st:St U)(K:eF U):Prop:=
 Qg tbl.sh λr=>orL (λa=>match gp (GK st.rs) a.2.1 && gp (GK st.rs) a.2.2 with
  | true=>v=.func (.func a.1) ⟨aK (dv st.rs) a.2.1⟩ ⟨aK (dv st.rs) a.2.2⟩/\call2 U tbl may k0 a.1 (aK (dv st.rs) a.2.1++(args++aK (dv st.rs) a.2.2)) (aK (λp=>some (.p p)) a.2.1++(b++aK (λp=>some (.p p)) a.2.2)) st λr' d st'=>
    CU d False<| match Nat.beq st'.rs.length st.rs.length && Nat.beq st'.md.length st.md.length with
    |true=>r'=r
    |false=>False
  |false=>False) tbl.al/\K r none st
def Ms:Operand->List (Nat×List PK×List PK)->Bool
 |.tmp _,_::_=>true
 |_,_=>false
def mpL:List (Res U)->Option ((Nat->Nat)×List (Int×Value))
 | []=>none
 | .ob t r s::l=>(match U.mp t s with
  |some m=>some (r,m)
  |none=>mpL l)
 |_::l=>mpL l
def lkT(P:Program)(T:TypeId):Option Value:=match P.underlying T with
 | some (.map K E)=>(match P.underlying K with
  |some (.int .u32)=>(P.info? E).bind (·.zero)
  |_=>none)
 |_=>none
def lkS:List (Int×Value)->Int->Value->(Value->Bool->Prop)->Prop
 | [],_,z,F=>F z false
 |(a,v)::r,i,z,F=>split (decide (i=a)) (F v true) (lkS r i z F)
def Oh(o:Oper)(ρ:Operand->Value)(st:St U)(K:eF U):Prop:=
 match o.op with
 | .panic x=>(match ρ x with
  |.iface t v=>K (.iface t v) (some .pan) st
  |_=>False)
 |.store t x y=>CJ U P may k0 t (kf st.kn x) (ρ y) (kf st.kn y) st K
 | .alloc t=>(match (P.info? t).bind (·.zero)with
  |some z=>Lz U z.cells.toList t none st K
  |none=>False)
 |.box t x=>Lz U (ρ x).cells.toList t (kf st.kn x) st K
 | .call c=>(match c.callee with
  | .value f=>(match Ms f tbl.al with
   |true=>FA U tbl may k0 (ρ f) (aK ρ c.args.toList) (aK (kf st.kn) c.args.toList) st K
   | false=>match ρ f with
    |.func (.func k) first cap=>call2 U tbl may k0 k (first.toList++(aK ρ c.args.toList++cap.toList)) (Qe (kf st.kn f) first.toList cap.toList (aK (kf st.kn) c.args.toList)) st K
    |_=>False)
  | .invoke x name=>(match ρ x with
   | .iface t u=>(match AE P t name with
    |some k=>call2 U tbl may k0 k (u::aK ρ c.args.toList) (none::aK (kf st.kn) c.args.toList) st K
    |none=>False)
   |_=>False)
  | .builtin .append=>(match c.args.toList,c.argTypes.toList with
   | [x,y],[t,m]=>(match H6 U P t,Nat.beq t m with
    | some (e,tt,d,_),true=>NI U tt (ρ y) (kf st.kn y) st λl2=>(match kf st.kn x with
     | some (.p (.sl id 0))=>(match nth st.rs id,lq may k0 st.rs id with
      | some (.lst p true T _ _ l),true=>(match Nat.beq T e with
       |true=>if h:p=tt then(l.length+l2.length)*d.bytes<=140737488355328/\∀(A:Option Addr)(c:Nat),nmL (cf st.rs id (.lst tt true e A c ((h▸l)++l2))) [id] λj=>K (.slice A ((h▸l)++l2).length c) (some (.p (.sl id 0))) ⟨j,fE [id] st.kn,id::st.md⟩else False
       |false=>False)
      |_,_=>False)
     | none=>(match ρ x with
      |.slice none 0 0=>l2.length*d.bytes<=140737488355328/\∀(A:Option Addr)(c:Nat),nmL (st.rs++ [.lst tt true e A c l2]) [st.rs.length] λj=>K (.slice A l2.length c) (some (.p (.sl st.rs.length 0))) ⟨j,st.kn,st.md⟩
      |_=>False)
     |_=>False)
    |_,_=>False)
   |_,_=>False)
  | .builtin .copy=>(match c.args.toList,c.argTypes.toList with
   | [x,y],[t,m]=>JO U P may k0 t (kf st.kn x) (kf st.kn y) st K
   |_,_=>False)
  |_=>False)
 | .buildSlice t len parts=>(match H6 U P t with
  | some (e,tt,d,z)=>(match Qf d z len (parts.map fun(i,x)=>(i,ρ x)).toList,Nat.blt 0 len && Nat.ble (len*d.size) 16777216 with
   | some cells,true=>(match GN U tt len cells.toList with
    |some l=>∀g:Nat,nmL (st.rs++ [.lst tt true e (some ⟨g,0,none⟩) len l]) [st.rs.length] λj=>K (.slice (some ⟨g,0,none⟩) len len) (some (.p (.sl st.rs.length 0))) ⟨j,st.kn,st.md⟩
    |none=>False)
   |_,_=>False)
  |none=>False)
 | .lookup T x ix true=>(match ρ x,ρ ix,lkT P T,mpL U st.rs with
  |.map (some g),.int .u32 i,some z,some (r,l)=>g=r 0/\lkS l i z λv b=>K (.tuple ⟨[v,.bool b]⟩) none st
  |_,_,_,_=>False)
 | .makeSlice t l c=>(match ρ l,ρ c,H6 U P t with
  | .int .i64 a,.int .i64 b,some (e,tt,d,z)=>(match U.dec tt z.cells.toList with
   |some x=>(a=b/\0<=a/\(d.bytes:Int)*a<=281474976710656)/\∀g:Nat,nmL (st.rs++ [.lst tt true e (some ⟨g,0,none⟩) a.toNat (List.replicate a.toNat x)]) [st.rs.length] λj=>K (.slice (some ⟨g,0,none⟩) (List.replicate a.toNat x).length a.toNat) (some (.p (.sl st.rs.length 0))) ⟨j,st.kn,st.md⟩
   |none=>False)
  |_,_,_=>False)
 |_=>False
def qe(o:Oper)(ρ:Operand->Value)(st:St U)(K:Value->Option Kn->Prop):Prop:=
 match o.op with
 |.move x=>K (ρ x) (kf st.kn x)
 |.assign x=>K (ρ x) (kf st.kn x)
 | .nilCheck x=>(match ρ x with
  |.pointer (some p)=>K (.pointer (some p)) (kf st.kn x)
  |_=>False)
 |.fieldAddr s x f=>lL P s (ρ x) f λv=>K v (yW P s f (kf st.kn x))
 | .indexAddr t x i=>(match kf st.kn x,ρ i with
  | some (.p (.sl id li)),.int _ ix=>(match nth st.rs id,P.underlying t with
   | some r,some (.slice e)=>(match iu r li with
    | some L=>(match hasType P e && Nat.beq (aZ P e) (U.en L.t).size with
     |true=>(0<=ix/\ix<L.l.length)/\K (.pointer (some (elA U L.t L.A ix 0))) (some (.p (.el id li ix 0)))
     |false=>False)
    |none=>False)
   |_,_=>False)
  | some (.p (.obj id path off)),.int _ ix=>(match nth st.rs id,U.ix1 st.rs id path off,P.underlying t with
   | some (.ob tt r s),some li,some (.array n e)=>(match U.li tt r s li with
    | some L=>(match hasType P e && Nat.beq (aZ P e) (U.en L.t).size with
     |true=>((0<=ix/\ix<L.l.length)/\ix<(n:Int))/\K (.pointer (some (elA U L.t L.A ix 0))) (some (.p (.el id li ix 0)))
     | false=>(match hasType P e && (Nat.beq (U.en L.t).size 1 && Nat.blt 0 (aZ P e))with
      |true=>((0<=ix/\ix<(n:Int))/\(ix.toNat+1)*aZ P e<=L.l.length)/\K (.pointer (some (elA U L.t L.A (ix*(aZ P e:Nat)) 0))) (some (.p (.el id li (ix*(aZ P e:Nat)) 0)))
      |false=>False))
    |none=>False)
   |_,_,_=>False)
  | some (.p (.el id li i0 0)),.int _ ix=>(match nth st.rs id,P.underlying t with
   | some r,some (.array n e)=>(match iu r li with
    | some L=>(match hasType P e && (Nat.beq (aZ P e) 1 && Nat.beq (U.en L.t).size 1)with
     |true=>((0<=ix/\ix<(n:Int))/\i0+ix<L.l.length)/\K (.pointer (some (elA U L.t L.A (i0+ix) 0))) (some (.p (.el id li (i0+ix) 0)))
     |false=>False)
    |none=>False)
   |_,_=>False)
  |some (.p (.loc id off)),.int _ ix=>n9 P t (ρ x) (ρ i) λv=>K v (some (.p (.loc id (off+ix.toNat *JB P t))))
  |_,_=>False)
 |.load t x=>xF U P t (kf st.kn x) st K
 | .extract x i=>(match ρ x with
  |.tuple vs=>hH (nth vs.toList i) λv=>K v (Ja (kf st.kn x) i)
  |_=>False)
 |.makeFunc f first cap=>K (.func f ⟨aK ρ first.toList⟩ ⟨aK ρ cap.toList⟩) (some (.f (aK (λx=>kt (kf st.kn x)) first.toList) (aK (λx=>kt (kf st.kn x)) cap.toList)))
 | .binOp op t x y ty=>(match ρ x with
  |.slice (some _) _ _=>False
  |_=>sq P o ρ λv=>K v none)
 |.build t b=>sq P o ρ λv=>JX st v (zf P t st.kn b.toList) K
 | .slice t x lo hi none=>(match kf st.kn x,lo,hi with
  | some (.p (.obj id path off)),none,none=>(match nth st.rs id,U.ix1 st.rs id path off,P.underlying t with
   | some (.ob tt r s),some li,some (.array n e)=>(match U.li tt r s li with
    | some L=>(match hasType P e with
     |true=>((L.l.length=n/\L.c=n)/\0<n)/\K (.slice L.A L.l.length L.c) (some (.p (.sl id li)))
     |false=>False)
    |none=>False)
   |_,_,_=>False)
  |k,lo,hi=>Nr U P t k (lo.map ρ) (hi.map ρ) st K)
 |.slice .. =>False
 | .sliceToArrayPointer arr x=>(match kf st.kn x with
  | some (.p (.sl id li))=>(match nth st.rs id,P.underlying arr with
   | some r,some (.array n _)=>(match iu r li with
    |some L=>(0<L.l.length/\n<=L.l.length)/\K (.pointer (some (elA U L.t L.A 0 0))) (some (.p (.el id li 0 0)))
    |none=>False)
   |_,_=>False)
  | some (.w q n)=>(match P.underlying arr,den U st.rs q with
   | some (.array N _),some v=>(match Nat.ble N n with
    |true=>K v (some (.p q))
    |false=>False)
   |_,_=>False)
  |_=>False)
 |_=>sq P o ρ λv=>K v none
def Jg(o:Oper):Bool:=match o.op with
 |.panic _=>true
 |.store .. =>true
 |.alloc _=>true
 |.box .. =>true
 |.buildSlice .. =>true
 |.makeSlice .. =>true
 |.lookup .. =>true
 | .call c=>(match c.callee with
  |.value _=>true
  |.invoke .. =>true
  |.builtin .append=>true
  |.builtin .copy=>true
  |_=>false)
 |_=>false
def op2(o:Oper)(ρ:Operand->Value)(st:St U)(K:eF U):Prop:=
 match Jg o with
 |true=>Oh U P tbl may k0 o ρ st K
 |false=>qe U P o ρ st λv k=>K v k st
def Ap(n:Nat)(N:List Nat)(fr:Fr)(dst:Option Tmp)(v:Value)(k:Option Kn)(st:St U)(F:Fr->St U->Prop):Prop:=
 kq n N fr dst v λb=>F b (match dst with
  |some d=> {st with kn:=AQ (.s d) k st.kn}
  |none=>st)
def FW(n:Nat)(N:List Nat)(ops:Array Oper)(K:Fr->St U->Prop)(b:List PanicEntry->Fr->St U->Prop):List Oper->Fr->St U->Prop
 | [],fr,st=>K fr st
 | o::rest,fr,st=>jl ops o fr
  (λfr=>op2 U P tbl may k0 o (ev fr) st λv f st'=>CU f (b [⟨v,false,false⟩] fr st') (Ap U n N fr o.dst v f st' λd h=>FW n N ops K b rest d h))
  (λfr=>Ap U n N fr o.dst undef none st λd st'=>FW n N ops K b rest d st')
end
end
end V
end Go.Proofs.YtjiflmkpbkeocaaGreatDoor
