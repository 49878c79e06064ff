/- SnapForms returns true for every input: a snapshot that the program reads is read alike by the document's answer, with the same refusals and the same words. -/
import Derived.KernelRfl
import Derived.WalkKit
import Derived.Test.YtoghdgcmhbanbaaGreatDoorProg
import Derived.Great.BuildSlice
import Derived.OrdersHeld
import Derived.Deep.Draws
import Derived.Scope
import Derived.RangeFuncSeq
import Derived.Laws.StructEq
import Derived.ChangeKeysEq
import Derived.DeepKeys
import Derived.RangeFuncLeaves
import Derived.RangeFuncRecord
import Derived.TacticsIn
set_option linter.unusedVariables false
set_option linter.unusedSimpArgs false
section
namespace Go.Proofs.YtoghdgcmhbanbaaGreatDoor
open Go
abbrev O(x:Int):Value:=.int .u32 x
abbrev J(x:Int):Value:=.int .i64 x
abbrev vY(x:Int):Value:=.int .u8 x
abbrev vA(b:Nat):Addr:=Addr.mk b 0 none
abbrev vB(x:Bool):Value:=.bool x
abbrev pvA(b:Nat):Option Addr:=some (vA b)
abbrev oA:=Option Addr
abbrev q8l(a b c d e f g h:Int):List Value:= [O a,O b,O c,O d,O e,O f,O g,O h]
abbrev q8a(a b c d e f g h:Int):Array Value:= #[O a,O b,O c,O d,O e,O f,O g,O h]
abbrev Nm(a b c d e f g h i j k l m n o p:Int):List Value:= [O a,O b,O c,O d,O e,O f,O g,O h,O i,O j,O k,O l,O m,O n,O o,O p]
abbrev iK(a b c d e f g h i j k l m n o p:Int):Array Value:= #[O a,O b,O c,O d,O e,O f,O g,O h,O i,O j,O k,O l,O m,O n,O o,O p]
abbrev z8a:Array Value:= #[O 0,O 0,O 0,O 0,O 0,O 0,O 0,O 0]
abbrev Mg:Array Value:= #[O 0,O 0,O 0,O 0,O 0,O 0,O 0,O 0,O 0,O 0,O 0,O 0,O 0,O 0,O 0,O 0]
def rgN(a:Nat):Nat->List Nat
 |0=>[]
 |n+1=>a::rgN (a+1) n
abbrev bP:=Nat->Nat->Prop
end Go.Proofs.YtoghdgcmhbanbaaGreatDoor
end
section
namespace Go.Proofs.YtoghdgcmhbanbaaGreatDoor.V
open Go Go.RowKit
open Go.IntKind (i64 u32 u64 wrap_i64 wrap_u32)
structure Kept(B:Nat->Prop)(w w':World):Prop where
 os:w'.os=w.os
 tape:w'.tape=w.tape
 output:w'.output=w.output
 size:w.heap.size<=w'.heap.size
 block:∀k,B k->w'.heap[k]? =w.heap[k]?
theorem Kept.refl(B:Nat->Prop)(w:World):Kept B w w:=⟨rfl,rfl,rfl,Nat.le_refl _,λ_ _=>rfl⟩
theorem Kept.trans {B:Nat->Prop}{a b c:World}(h:Kept B a b)(k:Kept B b c):Kept B a c:=
 ⟨k.os.trans h.os,k.tape.trans h.tape,k.output.trans h.output,Nat.le_trans h.size k.size,λi hi=>(k.block i hi).trans (h.block i hi)⟩
theorem Kept.mono {B b:Nat->Prop}{w c:World}(h:Kept B w c)(d:∀k,b k->B k):Kept b w c:=
 ⟨h.os,h.tape,h.output,h.size,λk e=>h.block k (d k e)⟩
theorem Kept.cell {B:Nat->Prop}{w b:World}{p:Addr}(h:Kept B w b)(c:B p.block):b.cell? p=w.cell? p:=by
 unfold World.cell?;rw[h.block _ c]
theorem Kept.below {n:Nat}{w b:World}(h:Kept (· <n) w b):Below n w b:=⟨h.os,h.tape,h.output,h.size,h.block⟩
theorem Kept.G6 {n:Nat}{w b:World}(h:Below n w b):Kept (· <n) w b:=⟨h.os,h.tape,h.output,h.size,h.block⟩
def held(B:Option (Nat->Prop))(w:World):Nat->Prop:=
 match B with
 |none=>λk=>k<w.heap.size
 |some b=>b
inductive Sh where
 |int (k:IntKind)|bool|str|ptr|slice|map|val
def Sh.ex:Sh->(Value->Prop)->Prop
 |.int k,F=>∃x:Int,F (.int k x)
 |.bool,F=>∃b:Bool,F (.bool b)
 |.str,F=>∃s:ByteArray,F (.string s)
 |.ptr,F=>∃a:Option Addr,F (.pointer a)
 |.slice,F=>∃(a:Option Addr)(n c:Nat),F (.slice a n c)
 |.map,F=>∃r:Option Nat,F (.map r)
 |.val,F=>∃v:Value,F v
theorem Sh.j9 {s:Sh}{F:Value->Prop}(h:s.ex F):∃v,F v:=by
 cases s<;>simp only[Sh.ex]at h
 case int=>obtain⟨x,h⟩:=h;exact⟨_,h⟩
 case bool=>obtain⟨x,h⟩:=h;exact⟨_,h⟩
 case str=>obtain⟨x,h⟩:=h;exact⟨_,h⟩
 case ptr=>obtain⟨x,h⟩:=h;exact⟨_,h⟩
 case slice=>obtain⟨x,y,z,h⟩:=h;exact⟨_,h⟩
 case map=>obtain⟨x,h⟩:=h;exact⟨_,h⟩
 case val=>exact h
def exs:List Sh->(List Value->Prop)->Prop
 | [],F=>F []
 |s::r,F=>s.ex λv=>exs r λvs=>F (v::vs)
theorem Ej:∀ {l:List Sh}{F:List Value->Prop},exs l F->∃vs,F vs
 | [],_,h=>⟨[],h⟩
 | _::_,_,h=>by
  obtain⟨v,h⟩:=Sh.j9 h;obtain⟨vs,h⟩:=Ej h;exact⟨_,h⟩
inductive Sh2 where
 |one (s:Sh)|agg (l:List Sh)|row (n:Nat)
def Sh2.ex:Sh2->(Value->Prop)->Prop
 |.one s,F=>s.ex F
 |.agg l,F=>exs l λvs=>F (.agg ⟨vs⟩)
 |.row _,F=>∃cs:Array Value,F (.agg cs)
theorem Sh2.j9 {s:Sh2}{F:Value->Prop}(h:s.ex F):∃v,F v:=by
 cases s with
 |one s=>exact Sh.j9 h
 |agg l=>obtain⟨vs,h⟩:=Ej h;exact⟨_,h⟩
 |row n=>obtain⟨cs,h⟩:=h;exact⟨_,h⟩
def Ay:List Sh2->(List Value->Prop)->Prop
 | [],F=>F []
 |s::r,F=>s.ex λv=>Ay r λvs=>F (v::vs)
theorem Aw:∀ {l:List Sh2}{F:List Value->Prop},Ay l F->∃vs,F vs
 | [],_,h=>⟨[],h⟩
 | _::_,_,h=>by
  obtain⟨v,h⟩:=Sh2.j9 h;obtain⟨vs,h⟩:=Aw h;exact⟨_,h⟩
def Mj:Value->Sh
 |.int k _=>.int k
 |.bool _=>.bool
 |.string _=>.str
 |.pointer _=>.ptr
 |.slice .. =>.slice
 |.map _=>.map
 |_=>.val
def Gt:Value->Sh2
 | .agg cs=>match Nat.ble cs.size 24 with
  |true=>.agg (cs.toList.map Mj)
  |false=>.row cs.size
 |v=>.one (Mj v)
def qB:Nat:=1000000007
def exT(P:Program)(t:TypeId)(F:Value->Prop):Prop:=
 match (P.info? t).bind (·.zero)with
 |some (.tuple vs)=>Ay (vs.toList.map Gt) λus=>F (.tuple ⟨us⟩)
 |some z=>(Gt z).ex F
 |none=>∃v,F v
theorem rS {P:Program}{t:TypeId}{F:Value->Prop}(h:exT P t F):∃v,F v:=by
 unfold exT at h;split at h
 ·obtain⟨vs,h⟩:=Aw h;exact⟨_,h⟩
 ·exact Sh2.j9 h
 ·exact h
structure Fr where
 e:List (Nat×Value)
 g:Nat->Value
 ds:List Deferred
def lk(g:Nat->Value)(i:Nat):List (Nat×Value)->Value
 | []=>g i
 | (d,v)::r=>match Nat.beq i d with
  |true=>v
  |false=>lk g i r
def ev(fr:Fr):Operand->Value
 |.tmp t=>lk fr.g t fr.e
 |.const v=>v
 |.global g=>.pointer (some ⟨g,0,none⟩)
 |.func f=>.func (.func f) #[] #[]
structure Rep(n:Nat)(fr:Fr)(a:Act):Prop where
 size:a.tmps.size=n
 get:∀i,a.tmps.getD i undef=lk fr.g i fr.e
 defers:a.defers=fr.ds
theorem Rep.eval {n:Nat}{fr:Fr}{a:Act}(h:Rep n fr a):a.eval=ev fr:=by
 funext x;cases x<;>simp[Act.eval,ev,h.get]
def Kz(v:Value)(F:Value->Prop):Prop:=
 match v with
 |.int k x=>∀z:Int,z=x->F (.int k z)
 |.bool x=>∀z:Bool,z=x->F (.bool z)
 |v=>F v
theorem E9 {v:Value}{F:Value->Prop}(h:Kz v F):F v:=by
 cases v<;>first|exact h|exact h _ rfl
def jl(n:Nat)(N:List Nat)(fr:Fr)(dst:Option Tmp)(v:Value)(F:Fr->Prop):Prop:=
 match dst with
 |none=>F fr
 | some d=>match Nat.blt d n with
  | true=>(match N.elem d with
   |true=>Kz v λv=>F ⟨(d,v)::fr.e,fr.g,fr.ds⟩
   |false=>F ⟨(d,v)::fr.e,fr.g,fr.ds⟩)
  |false=>False
structure Agr(ws:List Nat)(a b:Act):Prop where
 tmps:∀i,i ∉ ws->b.tmps.getD i undef=a.tmps.getD i undef
 defers:qB ∉ ws->b.defers=a.defers
theorem Agr.refl(ws:List Nat)(a:Act):Agr ws a a:=⟨λ_ _=>rfl,λ_=>rfl⟩
theorem Agr.trans {ws:List Nat}{a b c:Act}(h:Agr ws a b)(k:Agr ws b c):Agr ws a c:=⟨λi hi=>(k.tmps i hi).trans (h.tmps i hi),λhi=>(k.defers hi).trans (h.defers hi)⟩
theorem Agr.mono {ws d:List Nat}{a b:Act}(h:Agr ws a b)(e:∀i,i∈ws->i∈d):Agr d a b:=⟨λi hi=>h.tmps i (λc=>hi (e i c)),λhi=>h.defers (λc=>hi (e _ c))⟩
theorem qw(a:Act)(d:Nat)(v:Value)(i:Nat)(h:i≠d):(a.put (some d) v).tmps.getD i undef=a.tmps.getD i undef:=by
 simp only[Act.put,Array.getD_eq_getD_getElem?,Array.getElem?_setIfInBounds];rw[if_neg (by omega)]
theorem getD_put_eq(a:Act)(d:Nat)(v:Value)(h:d<a.tmps.size):(a.put (some d) v).tmps.getD d undef=v:=by
 simp only[Act.put,Array.getD_eq_getD_getElem?,Array.getElem?_setIfInBounds];simp[h]
theorem gn {n:Nat}{N:List Nat}{fr:Fr}{a:Act}{dst:Option Tmp}{v:Value}{F:Fr->Prop}(b:Rep n fr a)(h:jl n N fr dst v F):
 ∃c,Rep n c (a.put dst v)/\F c:=by
 unfold jl at h;cases dst with
 |none=>exact⟨fr,b,h⟩
 | some d=>
  simp only at h;split at h
  ·rename_i e;have hd:d<n:=by simpa[Nat.blt_eq]using e
   have h:F ⟨(d,v)::fr.e,fr.g,fr.ds⟩:=by
    split at h
    ·exact E9 h
    ·exact h
   refine⟨_,⟨by simp[Act.put,b.size],λi=>?_,by simp[Act.put,b.defers]⟩,h⟩;simp only[lk];split
   ·rename_i hi;obtain rfl:i=d:=Nat.eq_of_beq_eq_true hi;exact getD_put_eq a i v (by rw[b.size];exact hd)
   ·rename_i hi;have f:i≠d:=by rintro rfl;simp at hi
    rw[qw a d v i f,b.get]
  ·exact h.elim
theorem Agr.put {ws:List Nat}(a:Act)(dst:Option Tmp)(v:Value)(h:∀d,dst=some d->d∈ws):Agr ws a (a.put dst v):=by
 refine⟨λi hi=>?_,λ_=>by cases dst<;>rfl⟩;cases dst with
 |none=>rfl
 |some d=>exact qw a d v i (λe=>hi (e▸h d rfl))
def split(b:Bool)(x y:Prop):Prop:=
 match b with
 |true=>x
 |false=>y
theorem ab {b:Bool}{x y:Prop}(c:b=true->x)(d:b=false->y):split b x y:=by
 cases b
 ·exact d rfl
 ·exact c rfl
theorem fT {b:Bool}{x y:Prop}(h:split b x y):(b=true/\x)\/(b=false/\y):=by
 cases b
 ·exact .inr ⟨rfl,h⟩
 ·exact .inl ⟨rfl,h⟩
def ai {α:Type}(a:Option α)(F:α->Prop):Prop:=
 match a with
 |some p=>F p
 |none=>False
theorem ah {α:Type}{a:Option α}{F:α->Prop}(p:α)(h:a=some p)(b:F p):ai a F:=by
 subst h;exact b
theorem cm {α:Type}{a:Option α}{F:α->Prop}(h:ai a F):∃p,a=some p/\F p:=by
 cases a with
 |none=>exact h.elim
 |some p=>exact⟨p,rfl,h⟩
def kEq:IntKind->IntKind->Bool
 |.i8,.i8|.i16,.i16|.i32,.i32|.i64,.i64|.u8,.u8|.u16,.u16|.u32,.u32|.u64,.u64=>true
 |_,_=>false
theorem og {a b:IntKind}(h:kEq a b=true):a=b:=by
 cases a<;>cases b<;>simp_all[kEq]
def gH(P:Program)(t:TypeId):Bool:=
 match P.underlying t with
 |some (.struct _)=>true
 |some (.array _ _)=>true
 |_=>false
def jt:Value->Value->Bool
 |.int _ a,.int _ b=>a==b
 |.bool a,.bool b=>a==b
 |.string a,.string b=>a.toList==b.toList
 |_,_=>false
def eqL:List Value->List Value->Bool
 |a::c,b::d=>jt a b && eqL c d
 |_,_=>true
def bk(xs b:Array Value):Bool:=eqL xs.toList b.toList
def tJ(P:Program)(g:TypeId->Option (List Sh)):Nat->List Field->Option (List Sh)
 |_,[]=>some []
 |off,f::r=>match Nat.beq f.offset off,f.name== "_",g f.type,P.info? f.type with
  | true,false,some l,some i=>(match Nat.beq i.size l.length,tJ P g (off+l.length) r with
   |true,some l'=>some (l++l')
   |_,_=>none)
  |_,_,_,_=>none
def EW(l:List Sh):Nat->List Sh
 |0=>[]
 |n+1=>l++EW l n
def gN(P:Program):Nat->TypeId->Option (List Sh)
 |0,_=>none
 | m+1,t=>match P.underlying t with
  |some (.int k)=>some [.int k]
  |some .bool=>some [.bool]
  |some .string=>some [.str]
  | some (.struct fs)=>match P.stoodInHeld t with
   |true=>none
   |false=>tJ P (gN P m) 0 fs.toList
  | some (.array n e)=>match gN P m e,P.info? e with
   | some l,some i=>(match Nat.beq i.size l.length with
    |true=>some (EW l n)
    |false=>none)
   |_,_=>none
  |_=>none
def cy:List Sh->List Value->Bool
 | [],[]=>true
 | .int k::l,.int k' _::vs=>match kEq k k' with
  |true=>cy l vs
  |false=>false
 |.bool::l,.bool _::vs=>cy l vs
 |.str::l,.string _::vs=>cy l vs
 |_,_=>false
def JQ(l:List Sh)(xs:Array Value)(F:Prop):Prop:=
 match Nat.ble l.length 24 with
 | true=>(match cy l xs.toList with
  |true=>F
  |false=>False)
 |false=>cy l xs.toList=true/\F
theorem Au {l:List Sh}{xs:Array Value}{F:Prop}(h:JQ l xs F):cy l xs.toList=true/\F:=by
 unfold JQ at h;split at h
 ·split at h
  ·rename_i b;exact⟨b,h⟩
  ·exact h.elim
 ·exact h
abbrev aK:=Value->World->Prop
def ar(w:World)(p:Addr):Nat->List Value->Prop
 |_,[]=>True
 |i,[v]=>w.cell? (p.add i)=some v
 |i,v::r=>w.cell? (p.add i)=some v/\ar w p (i+1) r
theorem yl {w:World}{p:Addr}{i:Nat}{v:Value}{r:List Value}(h:ar w p i (v::r)):w.cell? (p.add i)=some v/\ar w p (i+1) r:=by
 cases r with
 |nil=>exact⟨h,trivial⟩
 |cons u r=>exact h
def gS(w:World)(p:Addr):Sh2->Value->Prop
 |.one _,v=>w.cell? p=some v
 | .agg l,.agg cs=>match Nat.beq cs.toList.length l.length with
  |true=>ar w p 0 cs.toList
  |false=>False
 |.row n,.agg cs=>cs.size=n/\∀i u,cs[i]? =some u->w.cell? (p.add i)=some u
 |_,_=>False
def dg(P:Program)(t:TypeId):Sh2:=
 match (P.info? t).bind (·.zero)with
 |some z=>Gt z
 |none=>.one .val
def ub(P:Program)(t:TypeId)(b:Bool):Bool:=
 match P.underlying t with
 |some (.struct _)=>b
 |some (.array _ _)=>b
 |some _=>!b
 |none=>false
theorem wY {P:Program}{t:TypeId}{b:Bool}(h:ub P t b=true)(w:World):(isAgg t).run P w=.ok b w:=by
 unfold ub at h;cases hu:P.underlying t with
 |none=>simp[hu]at h
 |some d=>cases d<;>simp_all[isAgg,run_underlying hu]
def sP:Sh2->Bool
 |.one _=>false
 |_=>true
def gF:Sh2->Nat
 |.one _=>1
 |.agg l=>l.length
 |.row n=>n
def one? :Value->Prop->Prop
 |.agg _,_=>False
 |.tuple _,_=>False
 |_,p=>p
def nQ(p:Addr):Nat->List Value->World->(World->Prop)->Prop
 |_,[],w,K=>K w
 |i,v::r,w,K=>one? v ((∃u,w.cell? (p.add i)=some u)/\w.frozen? (p.add i)=false/\nQ p (i+1) r (w.setCell (p.add i) v) K)
def nz(y:Int)(p:Prop):Prop:=
 match y with
 |.ofNat 0=>False
 |.ofNat (_+1)=>p
 |.negSucc _=>p
theorem DW {y:Int}{p:Prop}(c:y≠0)(b:p):nz y p:=by
 cases y with
 | ofNat n=>cases n with
  |zero=>exact absurd rfl c
  |succ n=>exact b
 |negSucc n=>exact b
theorem G7 {y:Int}{p:Prop}(h:nz y p):y≠0/\p:=by
 cases y with
 | ofNat n=>cases n with
  |zero=>exact h.elim
  |succ n=>exact⟨by simp;omega,h⟩
 |negSucc n=>exact⟨by simp,h⟩
def fY(y:Int)(F:Nat->Prop):Prop:=
 match y with
 |.ofNat n=>F n
 |.negSucc _=>False
theorem ij {y:Int}{F:Nat->Prop}(c:0<=y)(b:F y.toNat):fY y F:=by
 cases y with
 |ofNat n=>exact b
 |negSucc n=>omega
theorem qd {y:Int}{F:Nat->Prop}(h:fY y F):¬y<0/\F y.toNat:=by
 cases y with
 |ofNat n=>exact⟨by simp,h⟩
 |negSucc n=>exact h.elim
def Hn(op:BinOp)(k:IntKind)(x y:Int)(F:Value->Prop):Prop:=
 match op with
 |.add=>F (.int k (k.wrap (x+y)))
 |.sub=>F (.int k (k.wrap (x - y)))
 |.mul=>F (.int k (k.wrap (x*y)))
 |.quo=>nz y (F (.int k (k.wrap (x.tdiv y))))
 |.rem=>nz y (F (.int k (x.tmod y)))
 |.and=>F (.int k (k.wrap (BitVec.ofInt k.bits x &&& BitVec.ofInt k.bits y).toNat))
 |.or=>F (.int k (k.wrap (BitVec.ofInt k.bits x ||| BitVec.ofInt k.bits y).toNat))
 |.xor=>F (.int k (k.wrap (BitVec.ofInt k.bits x ^^^ BitVec.ofInt k.bits y).toNat))
 |.andNot=>F (.int k (k.wrap (BitVec.ofInt k.bits x &&& ~~~(BitVec.ofInt k.bits y)).toNat))
 |.eql=>F (.bool (x==y))
 |.neq=>F (.bool (x !=y))
 |.lss=>F (.bool (decide (x<y)))
 |.leq=>F (.bool (decide (x<=y)))
 |.gtr=>F (.bool (decide (x>y)))
 |.geq=>F (.bool (decide (x>=y)))
 |_=>False
def xF(op:BinOp)(k:IntKind)(x y:Int)(F:Value->Prop):Prop:=
 match op with
 |.shl=>fY y λn=>F (.int k (k.wrap (x*2 ^ (min n k.bits))))
 |.shr=>fY y λn=>F (.int k (x.fdiv (2 ^ (min n k.bits))))
 |_=>False
def ye:BinOp->Bool
 |.shl|.shr=>true
 |_=>false
def Gp(op:BinOp)(x y:ByteArray)(F:Value->Prop):Prop:=
 match op with
 |.add=>x.size+y.size<=9223372036854775807/\F (.string (x++y))
 |.eql=>F (.bool (x.toList==y.toList))
 |.neq=>F (.bool (!(x.toList==y.toList)))
 |.lss=>F (.bool (Op.bytesLess x.toList y.toList))
 |.leq=>F (.bool (Op.bytesLess x.toList y.toList || x.toList==y.toList))
 |.gtr=>F (.bool (!(Op.bytesLess x.toList y.toList || x.toList==y.toList)))
 |.geq=>F (.bool (!(Op.bytesLess x.toList y.toList)))
 |_=>False
def eqB(op:BinOp)(b:Bool)(F:Value->Prop):Prop:=
 match op with
 |.eql=>F (.bool b)
 |.neq=>F (.bool (!b))
 |_=>False
def LS(P:Program)(op:BinOp)(t:TypeId)(Y:Operand)(x y:Value)(F:Value->Prop)(els:Prop):Prop:=
 match x,y with
 | .int k a,.int k' b=>match ye op with
  |true=>xF op k a b F
  | false=>match kEq k k' with
   |true=>Hn op k a b F
   |false=>False
 |.string a,.string b=>Gp op a b F
 | .bool a,.bool b=>match P.underlying t with
  |some .bool=>eqB op (a==b) F
  |_=>els
 | .pointer a,_=>match P.underlying t,Y with
  |some (.pointer _),.const (.pointer none)=>eqB op a.isNone F
  |_,_=>els
 | .slice a _ _,_=>match P.underlying t,Y with
  |some (.slice _),.const (.slice none _ _)=>eqB op a.isNone F
  |_,_=>els
 | .map a,_=>match P.underlying t,Y with
  |some (.map _ _),.const (.map none)=>eqB op a.isNone F
  |_,_=>els
 | .agg xs,.agg c=>match P.eqGuardType P.depth t,gH P t,gN P 8 t with
  |false,true,some l=>JQ l xs (JQ l c (eqB op (bk xs c) F))
  |_,_,_=>els
 |_,_=>els
def unM(op:UnOp)(x:Value)(F:Value->Prop):Prop:=
 match op,x with
 |.not,.bool b=>F (.bool (!b))
 |.neg,.int k n=>F (.int k (k.wrap (0 - n)))
 |.xor,.int k n=>F (.int k (k.wrap (BitVec.ofInt k.bits (if k.signed then -1 else k.max) ^^^ BitVec.ofInt k.bits n).toNat))
 |_,_=>False
def qJ(hi:Option Value)(len cap:Nat)(F:Nat->Prop):Prop:=
 match hi with
 |none=>F len
 |some (.int _ h)=>(0<=h/\h<=cap)/\F h.toNat
 |_=>False
def qI(lo:Option Value)(h:Nat)(F:Nat->Prop):Prop:=
 match lo with
 |none=>F 0
 |some (.int _ l)=>(0<=l/\l<=h)/\F l.toNat
 |_=>False
def nr(mx:Option Value)(cap:Nat)(F:Nat->Prop):Prop:=
 match mx with
 |none=>F cap
 |some (.int _ m)=>(0<=m/\m<=cap)/\F m.toNat
 |_=>False
def aS(P:Program)(t:TypeId):Nat:=
 match P.info? t with
 |some i=>i.size
 |none=>0
def hasType(P:Program)(t:TypeId):Bool:=
 match P.info? t with
 |some _=>true
 |none=>false
def mS(P:Program)(t:TypeId)(x:Value)(lo hi mx:Option Value)(F:Value->Prop)(els:Prop):Prop:=
 match P.underlying t,x with
 | some (.slice e),.slice a len cap=>match hasType P e && (mx.isNone || hi.isSome)with
  | true=>nr mx cap λm=>qJ hi len m λh=>qI lo h λl=>
   ∀a',a'=(if m=l then a else a.map (·.add (l*aS P e)))->∀n',n'=h - l->∀c',c'=m - l->F (.slice a' n' c')
  |false=>False
 | some .string,.string s=>match mx with
  |none=>qJ hi s.size s.size λh=>qI lo h λl=>F (.string (s.extract l h))
  |some _=>False
 | some (.array n e),.pointer a=>match hasType P e && (mx.isNone || hi.isSome)with
  | true=>ai a λp=>nr mx n λm=>qJ hi n m λh=>qI lo h λl=>
   ∀a',a'=some (if m=l then p else p.add (l*aS P e))->∀n',n'=h - l->∀c',c'=m - l->F (.slice a' n' c')
  |false=>False
 |_,_=>els
def mq(P:Program)(t:TypeId)(x i:Value)(F:Value->Prop):Prop:=
 match P.underlying t,x,i with
 | some (.slice e),.slice a n _,.int _ i=>match hasType P e with
  |true=>(0<=i/\i<n)/\ai a λp=>F (.pointer (some (p.add (i.toNat *aS P e))))
  |false=>False
 | some (.array n e),.pointer a,.int _ i=>match hasType P e with
  |true=>(0<=i/\i<n)/\ai a λp=>F (.pointer (some (p.add (i.toNat *aS P e))))
  |false=>False
 |_,_,_=>False
def j8(P:Program)(s:TypeId)(x:Value)(f:Nat)(F:Value->Prop):Prop:=
 match P.underlying s with
 | some (.struct fields)=>match fields[f]? with
  | some fd=>match P.info? fd.type with
   | some i=>match Nat.beq i.size 0 with
    | false=>match x with
     |.pointer a=>ai a λp=>F (.pointer (some (p.add fd.offset)))
     |_=>False
    |true=>False
   |none=>False
  |none=>False
 |_=>False
def HM(P:Program)(src dst:TypeId)(x:Value)(F:Value->Prop)(els:Prop):Prop:=
 match P.underlying src,P.underlying dst,x with
 |some _,some (.int k),.int _ n=>F (.int k (k.wrap n))
 |some _,some .string,.string s=>F (.string s)
 |_,_,_=>els
def QpP:Option (List PanicEntry->World->Prop)->List PanicEntry->World->Prop
 |none,_,_=>False
 |some q,ch,w=>q ch w
def bO(P:Program)(f:FuncId):Bool:=
 match P.funcs[f]? with
 |some fn=>fn.body.isSome && !(fn.name== "runtime.NumGoroutine")
 |none=>false
def setRow(p:Addr):Nat->List Value->World->World
 |_,[],w=>w
 |i,v::r,w=>setRow p (i+1) r (w.setCell (p.add i) v)
def Blk(w:World)(g:Nat)(cs:Array Value)(T:TypeId):Prop:=w.heap[g]? =some (.cells cs T (0,0))
def setAt(cs:Array Value)(o:Nat):List Value->Array Value
 | []=>cs
 |v::r=>setAt (cs.setIfInBounds o v) (o+1) r
structure br(w:World)(g:Nat)(cs:Array Value)(T:TypeId)(w2:World):Prop where
 blk:Blk w2 g cs T
 kept:Kept (λk=>k≠g) w w2
 size:w2.heap.size=w.heap.size
def ao(w:World)(p:Addr)(vs:List Value)(K:World->Prop):Prop:=∃(g o:Nat)(cs:Array Value)(T:TypeId),p=⟨g,o,none⟩/\Blk w g cs T/\o+vs.length<=cs.size/\∀w2,br w g (setAt cs o vs) T w2->K w2
def mo:List Value->Prop->Prop
 | [],F=>F
 |v::r,F=>one? v (mo r F)
def ts(K:aK)(v:Value)(d:World):Prop:=
 match v with
 |.pointer (some ⟨b,0,none⟩)=>∀(g:Nat)(w2:World),g=b->w2=d->K (.pointer (some ⟨g,0,none⟩)) w2
 |.slice (some ⟨b,0,none⟩) n c=>∀(g:Nat)(w2:World),g=b->w2=d->K (.slice (some ⟨g,0,none⟩) n c) w2
 |v=>K v d
theorem v9 {K:aK}{v:Value}{b:World}(h:ts K v b):K v b:=by
 unfold ts at h;split at h
 ·exact h _ _ rfl rfl
 ·exact h _ _ rfl rfl
 ·exact h
def HV(P:Program)(C:List Nat)(Y:Bool)(v:Value)(args:Array Value)(w:World)(R:Ending->World->Prop):Prop:=
 match v with
 | .func (.func f) first cap=>(match C.elem f with
  |true=>Calls P f (first++args++cap) w R
  |false=>False)
 | .func (.yield l) first _=>(match Y with
  |true=>YieldAt Fence.wide 0 P l (first++args) w R
  |false=>False)
 |_=>False
def zX(P:Program)(t:TypeId)(name:String):Option FuncId:=
 match P.info? t,P.underlying t with
 |some _,some (.pointer _)=>none
 | some i,some _=>(match i.methods.find? (·.name==name)with
  | some m=>(match m.func,m.path.toList with
   |some (f,false),[]=>some f
   |_,_=>none)
  |none=>none)
 |_,_=>none
theorem wg {P:Program}{t:TypeId}{name:String}{f:FuncId}{u:Value}(h:zX P t name=some f)(w:World):(method (P.types.size+Made.depth) t u name).run P w=.ok (f,u) w:=by
 obtain⟨n,b⟩:∃n,P.types.size+Made.depth=n+1:=⟨P.types.size+Made.depth - 1,by unfold Made.depth;omega⟩;rw[b];unfold zX at h;split at h
 ·cases h
 ·rename_i i d hi hu hd;split at h
  ·rename_i m hm;split at h
   ·rename_i c e g;injection h with h
    subst h;have j:i.methods.find? (λm=>m.name==name)=some m:=hm;cases d<;>simp_all[method,typeInfo,follow,receiverAt,underlying,Place.get]
   ·cases h
  ·cases h
 ·cases h
def MV(P:Program)(C:List Nat)(v:Value)(name:String)(args:Array Value)(w:World)(R:Ending->World->Prop):Prop:=∃(t:TypeId)(u:Value)(f:Nat),v=.iface t u/\zX P t name=some f/\C.elem f=true/\Calls P f (#[u]++args) w R
def Er(P:Program)(t:TypeId)(K:aK)(Qp:Option (List PanicEntry->World->Prop)):Ending->World->Prop:=
 match Qp with
 |none=>λe b=>exT P t λv=>e=.returned v/\K v b
 |some q=>λe b=>(exT P t λv=>e=.returned v/\K v b)\/∃ch,e=.panicked ch/\q ch b
theorem pB {P:Program}{t:TypeId}{K:aK}{Qp:Option (List PanicEntry->World->Prop)}{e:Ending}{b:World}(h:Er P t K Qp e b):(∃v,e=.returned v/\K v b)\/∃ch,e=.panicked ch/\QpP Qp ch b:=by
 unfold Er at h;cases Qp with
 |none=>exact .inl (rS h)
 |some q=>exact h.imp rS id
def eY(P:Program){α:Type}:Sem α->Option α
 |.pure a=>some a
 |.program k=>eY P (k P)
 |.mark _ k=>eY P k
 |_=>none
theorem zJ {P:Program}{α:Type}{s:Sem α}{v:α}(h:eY P s=some v)(w:World):s.run P w=.ok v w:=by
 induction s with
 |pure a=>simp only[eY,Option.some.injEq]at h;subst h;rfl
 |program k b=>exact b _ h
 |mark m k b=>exact b h
 |_=>simp[eY]at h
def qK(F:Value->Prop)(els:Prop):Option Next->Prop
 |some (.value v)=>F v
 |_=>els
def CC(P:Program)(t:TypeId)(x i:Value)(F:Value->Prop):Prop:=
 match P.underlying t,x,i with
 |some .string,.string s,.int _ i=>ai (if 0<=i then s[i.toNat]? else none) λb=>F (.int .u8 b.toNat)
 | some (.array n e),.agg cs,.int _ i=>match ub P e false,hasType P e with
  |true,true=>(0<=i/\i<n)/\(dg P e).ex λv=>cs[i.toNat *aS P e]? =some v/\F v
  |_,_=>False
 |_,_,_=>False
def Mv(B:Option (Nat->Prop))(p:Addr)(F:Prop):Prop:=
 match B with
 |none=>F
 |some b=>b p.block/\F
def qk(P:Program)(B:Option (Nat->Prop))(o:Oper)(ρ:Operand->Value)(w:World)(F:Value->Prop)(els:Prop):Prop:=
 match o.op with
 |.move x=>F (ρ x)
 |.assign x=>F (ρ x)
 | .pick c a b=>match ρ c with
  |.bool t=>split t (F (ρ a)) (F (ρ b))
  |_=>False
 | .load t x=>match ρ x with
  | .pointer a=>match dg P t,ub P t (sP (dg P t)) && hasType P t && Nat.beq (gF (dg P t)) (aS P t)with
   |s,true=>ai a λp=>Mv B p (s.ex λv=>gS w p s v/\F v)
   |_,false=>False
  |_=>False
 | .nilCheck x=>match ρ x with
  |.pointer a=>ai a λp=>F (.pointer (some p))
  |_=>els
 |.fieldAddr s x f=>j8 P s (ρ x) f F
 |.indexAddr t x i=>mq P t (ρ x) (ρ i) F
 |.index t x i=>CC P t (ρ x) (ρ i) F
 |.binOp op t x y _=>LS P op t y (ρ x) (ρ y) F els
 |.unOp op _ x=>unM op (ρ x) F
 |.convert src dst x=>HM P src dst (ρ x) F els
 |.slice t x lo hi mx=>mS P t (ρ x) (lo.map ρ) (hi.map ρ) (mx.map ρ) F els
 |.build .. =>qK F els (eY P (execOp ρ o))
 |.field .. =>qK F els (eY P (execOp ρ o))
 |.extract .. =>qK F els (eY P (execOp ρ o))
 |.makeInterface .. =>qK F els (eY P (execOp ρ o))
 |.typeAssert .. =>qK F els (eY P (execOp ρ o))
 |.makeFunc .. =>qK F els (eY P (execOp ρ o))
 | .sliceToArrayPointer arr x=>match P.underlying arr,ρ x with
  |some (.array n _),.slice a len _=>n<=len/\F (.pointer a)
  |_,_=>els
 | .call c=>match c.callee,c.args.toList,c.argTypes.toList with
  | .builtin .len,[x],[t]=>match P.underlying t with
   | some (.slice _)=>(match ρ x with
    |.slice _ n _=>F (.int .i64 n)
    |_=>els)
   | some .string=>(match ρ x with
    |.string s=>F (.int .i64 s.size)
    |_=>els)
   |_=>els
  | .builtin .min,[x,y],_=>match ρ x,ρ y with
   |.int k a,.int _ b=>F (.int k (if b<a then b else a))
   |_,_=>els
  | .builtin .max,[x,y],_=>match ρ x,ρ y with
   |.int k a,.int _ b=>F (.int k (if b>a then b else a))
   |_,_=>els
  |_,_,_=>els
 |_=>els
def runM(P:Program)(s:Sem Next)(w:World)(K:aK):Prop:=
 match s.run P w with
 |.ok (.value v) b=>K v b
 |_=>False
def uV(o:Oper)(ρ:Operand->Value):Option (Sem Value):=
 match o.op with
 |.binOp op t x y _=>some (do eqGuard op t x y (ρ x) (ρ y);binOp op t (ρ x) (ρ y))
 |.convert src dst x=>some (convert src dst (ρ x))
 |.sliceToArrayPointer arr x=>some (Instr.arrayAt arr (ρ x))
 |.makeMap t r=>some (Instr.makeMap t (r.map ρ))
 |.makeSlice t l c=>some (Instr.makeSlice t (ρ l) (ρ c))
 |.lookup t x ix ok=>some (Instr.lookup t (ρ x) (ρ ix) ok)
 |.typeAssert x a b ok=>some (Instr.typeAssert (ρ x) a b ok)
 |.range t x=>some (Instr.range t (ρ x))
 |.next it s=>some (Instr.next (ρ it) s o.type)
 | .call c=>match c.callee with
  |.builtin .append=>some (Builtin.append_ c.argTypes o.type (c.args.map ρ))
  |.builtin .copy=>some (Builtin.copy_ c.argTypes o.type (c.args.map ρ))
  |.builtin .cap=>some (Builtin.cap_ c.argTypes o.type (c.args.map ρ))
  |.builtin .clear=>some (Builtin.clear_ c.argTypes o.type (c.args.map ρ))
  |.builtin .delete=>some (Builtin.delete_ c.argTypes o.type (c.args.map ρ))
  |.builtin .len=>some (Builtin.len_ c.argTypes o.type (c.args.map ρ))
  |.builtin .min=>some (Builtin.min_ c.argTypes o.type (c.args.map ρ))
  |.builtin .max=>some (Builtin.max_ c.argTypes o.type (c.args.map ρ))
  |_=>none
 |_=>none
def zy(P:Program)(o:Oper)(ρ:Operand->Value)(w:World)(K:aK):Prop:=
 match uV o ρ with
 |some s=>exT P o.type λv=>∃b,s.run P w=.ok v b/\K v b
 |none=>exT P o.type λv=>∃b,(execOp ρ o).run P w=.ok (.value v) b/\K v b
def Ho(P:Program)(t:TypeId):Option TypeId:=
 match P.underlying t with
 | some (.slice e)=>(match P.info? e with
  | some i=>(match i.zero,Nat.beq i.size 1 with
   |some .nilIface,true=>some e
   |_,_=>none)
  |none=>none)
 |_=>none
theorem Fh {P:Program}{t e:TypeId}{v:Value}(h:Ho P t=some e)(c:v.oneCell'=true)(w:World):(Instr.buildSlice t 1 #[(0,v)]).run P w=.ok (.slice (some ⟨w.heap.size,0,none⟩) 1 1) (w.alloc (.cells #[v] e)):=by
 unfold Ho at h;split at h
 ·rename_i d hu;split at h
  ·rename_i i hi;split at h
   ·rename_i f b;injection h with h
    subst h;have b:=Nat.eq_of_beq_eq_true b;have g:v.cells= #[v]:=by cases v<;>first|rfl|cases c
    have j:(Array.range (1*1)).map (Value.nilIface.cells[· % Value.nilIface.cells.size]!)= #[.nilIface]:=by kernel_rfl
    exact run_buildSlice (P:=P) w t d 1 #[(0,v)] #[v] i .nilIface hu hi f (by omega) (by omega) (by rw[b,j];simp only[Instr.fill,g];simp)
   ·cases h
  ·cases h
 ·cases h
def opM(P:Program)(C:List Nat)(Y:Bool)(o:Oper)(ρ:Operand->Value)(w:World)(K:aK)(Qp:Option (List PanicEntry->World->Prop)):Prop:=
 qk P none o ρ w (λv=>K v w)<|
 match o.op with
 | .store t x y=>match ρ x with
  | .pointer a=>match dg P t with
   | .row n=>(match hasType P t && Nat.beq n (aS P t),ρ y with
    |true,.agg cs=>ai a λp=>cs.size=n/\(∀v∈cs.toList,one? v True)/\ao w p cs.toList λb=>K undef b
    |_,_=>False)
   | _=>match Nat.beq (ρ y).cells.toList.length (aS P t) && hasType P t with
    |true=>ai a λp=>mo (ρ y).cells.toList (ao w p (ρ y).cells.toList λb=>K undef b)
    |false=>False
  |_=>False
 |.alloc _=>runM P (execOp ρ o) w (ts K)
 |.box .. =>runM P (execOp ρ o) w (ts K)
 | .buildSlice t n parts=>(match Ho P t,n,parts.toList with
  |some e,1,[(0,x)]=>(ρ x).oneCell'=true/\ts K (.slice (some ⟨w.heap.size,0,none⟩) 1 1) (w.alloc (.cells #[ρ x] e))
  |_,_,_=>runM P (execOp ρ o) w (ts K))
 | .call c=>match c.callee with
  |.builtin _=>zy P o ρ w K
  |.value f=>HV P C Y (ρ f) (c.args.map ρ) w (Er P o.type K Qp)
  |.invoke x name=>MV P C (ρ x) name (c.args.map ρ) w (Er P o.type K Qp)
 |.mapUpdate t m k x=>∃b,(Instr.mapUpdate t (ρ m) (ρ k) (ρ x):Sem Unit).run P w=.ok () b/\K undef b
 |.insert t m k x=>∃b,(Instr.mapUpdate t (ρ m) (ρ k) (ρ x):Sem Unit).run P w=.ok () b/\K undef b
 |.go _=>False
 |.defer _=>False
 |_=>zy P o ρ w K
def Out(P:Program)(Y:Bool)(K:aK)(Qp:List PanicEntry->World->Prop):Result Next->Prop
 |.ok (.value v) b=>K v b
 |.ok .skip b=>K undef b
 |.ok (.enter f args) b=>Calls P f args b λe c=>(∃v,e=.returned v/\K v c)\/∃ch,e=.panicked ch/\Qp ch c
 |.ok (.round l f tmps assign body) b=>Y=true/\RoundIn Fence.wide 0 P l f tmps assign body b λe c=>(∃v,e=.returned v/\K v c)\/∃ch,e=.panicked ch/\Qp ch c
 |.halt (.panic v) b=>Qp [{v,recovered:=false}] b
 |_=>False
section
variable {P:Program}{o:Oper}{ρ:Operand->Value}{w:World}{F:Value->Prop}{els:Prop}
theorem dx {t:TypeId}(h:hasType P t=true):∃i,P.info? t=some i/\aS P t=i.size:=by
 unfold hasType at h;unfold aS;cases hi:P.info? t with
 |none=>simp[hi]at h
 |some i=>exact⟨i,rfl,rfl⟩
theorem Fg {op:BinOp}{k:IntKind}{x y:Int}(c:ye op=false)(h:Hn op k x y F)(t:TypeId):∃v,F v/\∀w,(binOp op t (.int k x) (.int k y)).run P w=.ok v w:=by
 cases op<;>simp only[Hn,ye]at h c
 case quo=>obtain⟨b,h⟩:=G7 h;exact⟨_,h,λw=>by simp[binOp,Op.intDiv,b]⟩
 case rem=>obtain⟨b,h⟩:=G7 h;exact⟨_,h,λw=>by simp[binOp,Op.intDiv,b]⟩
 all_goals exact⟨_,h,λw=>by simp only[binOp,ne_eq,not_true_eq_false,if_false];rfl⟩
theorem zp {op:BinOp}{k k':IntKind}{x y:Int}(h:xF op k x y F)(t:TypeId):∃v,F v/\∀w,(binOp op t (.int k x) (.int k' y)).run P w=.ok v w:=by
 cases op<;>simp only[xF]at h
 case shl=>obtain⟨b,h⟩:=qd h;exact⟨_,h,λw=>by simp[binOp,Op.shift,b]⟩
 case shr=>obtain⟨b,h⟩:=qd h;exact⟨_,h,λw=>by simp[binOp,Op.shift,b]⟩
theorem EN {op:BinOp}{x y:ByteArray}(h:Gp op x y F)(t:TypeId):∃v,F v/\∀w,(binOp op t (.string x) (.string y)).run P w=.ok v w:=by
 cases op<;>simp only[Gp]at h
 case add=>
  obtain⟨b,h⟩:=h;refine⟨_,h,λw=>?_⟩;have:¬(((x.size+y.size:Nat):Int)>i64.max):=by simp[IntKind.max,IntKind.bits,IntKind.signed];omega
  simp only[binOp,Op.stringOp,this,if_false];rfl
 all_goals exact⟨_,h,λw=>rfl⟩
theorem ep(op:BinOp)(t:TypeId)(x y:Operand)(a b:Value)(w:World)(h:a≠ .nilIface)(c:∀u,a≠ .agg u):
 (eqGuard op t x y a b).run P w=.ok () w:=by
 have key:∀f g:Sem Unit,(match a,b with
  |.nilIface,.nilIface=>f
  |.agg _,.agg _=>g
  |_,_=>pure ())=pure ():=by
  intro f g;split
  ·exact absurd rfl h
  ·exact absurd rfl (c _)
  ·rfl
 cases op<;>first|rfl|(unfold eqGuard;exact congrArg (λs:Sem Unit=>s.run P w) (key _ _))
theorem ot {op:BinOp}{b:Bool}(h:eqB op b F):∃v,F v/\((op=.eql/\v=.bool b)\/(op=.neq/\v=.bool (!b))):=by
 cases op<;>simp only[eqB]at h
 ·exact⟨_,h,.inl ⟨rfl,rfl⟩⟩
 ·exact⟨_,h,.inr ⟨rfl,rfl⟩⟩
theorem run_equalIn_bool'(d:Nat)(t:TypeId)(a b:Bool)(h:P.underlying t=some .bool)(w:World):(Op.equalIn (d+1) t (.bool a) (.bool b)).run P w=.ok (a==b) w:=by
 simp[Op.equalIn,run_underlying h]
theorem qU(t:TypeId)(a b:Bool)(h:P.underlying t=some .bool)(w:World):(Op.equal t (.bool a) (.bool b)).run P w=.ok (a==b) w:=run_equalIn_bool' 9999 t a b h w
theorem oW(d:Nat)(t e:TypeId)(a:Option Addr)(h:P.underlying t=some (.pointer e))(w:World):(Op.equalIn (d+1) t (.pointer a) (.pointer none)).run P w=.ok a.isNone w:=by
 cases a<;>simp[Op.equalIn,run_underlying h]
theorem sY(t e:TypeId)(a:Option Addr)(h:P.underlying t=some (.pointer e))(w:World):(Op.equal t (.pointer a) (.pointer none)).run P w=.ok a.isNone w:=oW 9999 t e a h w
theorem mT(d:Nat)(t e:TypeId)(a:Option Addr)(n c n' c':Nat)(h:P.underlying t=some (.slice e))(w:World):(Op.equalIn (d+1) t (.slice a n c) (.slice none n' c')).run P w=.ok a.isNone w:=by
 cases a<;>simp[Op.equalIn,run_underlying h]
theorem oV(t e:TypeId)(a:Option Addr)(n c n' c':Nat)(h:P.underlying t=some (.slice e))(w:World):(Op.equal t (.slice a n c) (.slice none n' c')).run P w=.ok a.isNone w:=mT 9999 t e a n c n' c' h w
theorem oX(d:Nat)(t k e:TypeId)(a:Option Nat)(h:P.underlying t=some (.map k e))(w:World):(Op.equalIn (d+1) t (.map a) (.map none)).run P w=.ok a.isNone w:=by
 cases a<;>simp[Op.equalIn,run_underlying h]
theorem sZ(t k e:TypeId)(a:Option Nat)(h:P.underlying t=some (.map k e))(w:World):(Op.equal t (.map a) (.map none)).run P w=.ok a.isNone w:=oX 9999 t k e a h w
theorem nh:∀ {a b c d:List Value},a.length=b.length->eqL (a++c) (b++d)=(eqL a b && eqL c d)
 | [],[],_,_,_=>by simp[eqL]
 | x::a,y::b,c,d,h=>by
  have:=nh (a:=a) (b:=b) (c:=c) (d:=d) (by simpa using h);simp[eqL,this,Bool.and_assoc]
 | [],_::_,_,_,h=>by simp at h
 |_::_,[],_,_,h=>by simp at h
theorem bt:∀ {l:List Sh}{vs:List Value},cy l vs=true->vs.length=l.length
 | [],[],_=>rfl
 | .int k::l,.int k' x::vs,h=>by
  unfold cy at h;split at h
  ·simp[bt h]
  ·cases h
 |.bool::l,.bool _::vs,h=>by simp[bt (show cy l vs=true from h)]
 |.str::l,.string _::vs,h=>by simp[bt (show cy l vs=true from h)]
 | [],_::_,h=>by simp[cy]at h
 |s::l,[],h=>by cases s<;>simp[cy]at h
 |.int k::l,.bool _::vs,h|.int k::l,.float _ _::vs,h|.int k::l,.complex _ _ _::vs,h|.int k::l,.string _::vs,h|.int k::l,.pointer _::vs,h|.int k::l,.slice _ _ _::vs,h|.int k::l,.map _::vs,h|.int k::l,.chan _::vs,h|.int k::l,.func _ _ _::vs,h|.int k::l,.nilFunc::vs,h|.int k::l,.iface _ _::vs,h|.int k::l,.nilIface::vs,h|.int k::l,.agg _::vs,h|.int k::l,.tuple _::vs,h=>by simp[cy]at h
 |.bool::l,.int _ _::vs,h|.bool::l,.float _ _::vs,h|.bool::l,.complex _ _ _::vs,h|.bool::l,.string _::vs,h|.bool::l,.pointer _::vs,h|.bool::l,.slice _ _ _::vs,h|.bool::l,.map _::vs,h|.bool::l,.chan _::vs,h|.bool::l,.func _ _ _::vs,h|.bool::l,.nilFunc::vs,h|.bool::l,.iface _ _::vs,h|.bool::l,.nilIface::vs,h|.bool::l,.agg _::vs,h|.bool::l,.tuple _::vs,h=>by simp[cy]at h
 |.str::l,.bool _::vs,h|.str::l,.float _ _::vs,h|.str::l,.complex _ _ _::vs,h|.str::l,.int _ _::vs,h|.str::l,.pointer _::vs,h|.str::l,.slice _ _ _::vs,h|.str::l,.map _::vs,h|.str::l,.chan _::vs,h|.str::l,.func _ _ _::vs,h|.str::l,.nilFunc::vs,h|.str::l,.iface _ _::vs,h|.str::l,.nilIface::vs,h|.str::l,.agg _::vs,h|.str::l,.tuple _::vs,h=>by simp[cy]at h
 |.ptr::l,_::vs,h|.slice::l,_::vs,h|.map::l,_::vs,h|.val::l,_::vs,h=>by simp[cy]at h
theorem gz:∀ {l l':List Sh}{vs:List Value},cy (l++l') vs=true->cy l (vs.take l.length)=true/\cy l' (vs.drop l.length)=true
 | [],l',vs,h=>by simpa[cy]using h
 |s::l,l',[],h=>by cases s<;>simp[cy]at h
 | s::l,l',v::vs,h=>by
  have key:cy (l++l') vs=true/\(∀r,cy (s::r) (v::vs.take l.length)=cy r (vs.take l.length)):=by
   cases s<;>cases v<;>simp only[List.cons_append,cy,Bool.false_eq_true]at h
   all_goals first
    |exact⟨h,λr=>by simp[cy]⟩
    | (split at h
       ·rename_i b;exact⟨h,λr=>by simp[cy,b]⟩
       ·cases h)
  obtain⟨c,d⟩:=gz key.1;refine⟨?_,by simpa using d⟩;have:=key.2 l;simp only[List.length_cons,List.take_succ_cons];rw[this];exact c
def asV(P:Program)(t:TypeId)(l:List Value):Value:=
 match gH P t with
 |true=>.agg ⟨l⟩
 |false=>l.headD undef
theorem yh {m:Nat}{t:TypeId}{l:List Sh}(h:gN P (m+1) t=some l)(b:gH P t=false):(isAgg t).run P w=.ok false w/\∃s,l= [s]:=by
 unfold gN at h;unfold gH at b;cases hu:P.underlying t with
 |none=>simp[hu]at h
 |some d=>cases d<;>simp_all[isAgg,run_underlying hu]<;>exact⟨_,h.symm⟩
theorem fZ {m:Nat}{t:TypeId}{l:List Sh}{i:TypeInfo}(h:gN P (m+1) t=some l)(hi:P.info? t=some i)(e:i.size=l.length)(xs:Array Value)(off:Nat)
 (f:cy l ((xs.toList.drop off).take l.length)=true):(part t xs off).run P w=.ok (asV P t ((xs.toList.drop off).take l.length)) w:=by
 have hlen:=bt f;cases b:gH P t with
 | true=>
  have c:(isAgg t).run P w=.ok true w:=by
   unfold gH at b;cases hu:P.underlying t with
   |none=>simp[hu]at b
   |some d=>cases d<;>simp_all[isAgg,run_underlying hu]
  have hex:xs.extract off (off+l.length)=⟨(xs.toList.drop off).take l.length⟩:=by
   apply Array.ext';rw[Array.toList_extract];simp[List.extract]
  simp[part,c,sizeOf,typeInfo,hi,e,asV,b,hex]
 | false=>
  obtain⟨c,s,rfl⟩:=yh (w:=w) h b;have g:∃v,xs[off]? =some v/\(xs.toList.drop off).take [s].length= [v]:=by
   cases hd:xs.toList.drop off with
   |nil=>rw[hd]at hlen;simp at hlen
   | cons v r=>
    refine⟨v,?_,by simp⟩;have:=congrArg (·[0]?) hd;simp at this;exact this
  obtain⟨v,j,k⟩:=g;rw[k];simp[part,c,asV,b,j]
theorem iQ {m d:Nat}(v:∀(t:TypeId)(l:List Sh),gN P m t=some l->∀(w:World)(xs b:List Value),cy l xs=true->cy l b=true->(Op.equalIn d t (asV P t xs) (asV P t b)).run P w=.ok (eqL xs b) w)
 (w:World)(xs b:Array Value):∀(fs:List Field)(off:Nat)(l:List Sh),tJ P (gN P m) off fs=some l->cy l (xs.toList.drop off)=true->cy l (b.toList.drop off)=true->
  (Op.eqFields d xs b fs).run P w=.ok (eqL (xs.toList.drop off) (b.toList.drop off)) w
 | [],off,l,h,p,q=>by
  simp only[tJ,Option.some.injEq]at h;subst h;have g:=bt p;have j:=bt q;have g:=List.eq_nil_of_length_eq_zero g;have j:=List.eq_nil_of_length_eq_zero j;rw[g,j];rfl
 | f::fs,off,l,h,p,q=>by
  simp only[tJ]at h;split at h
  ·rename_i e i A B k hi;split at h
   ·rename_i l2 D E;simp only[Option.some.injEq]at h;subst h;have G:f.offset=off:=Nat.eq_of_beq_eq_true A;have x:i.size=e.length:=Nat.eq_of_beq_eq_true D;obtain⟨s,y⟩:=gz p;obtain⟨u,z⟩:=gz q;rw[List.drop_drop]at y z;have hm:∃m',m=m'+1:=by
     cases m with
     |zero=>simp[gN]at k
     |succ m'=>exact⟨m',rfl⟩
    obtain⟨m',rfl⟩:=hm;have H:=fZ (w:=w) k hi x xs off s;have I:=fZ (w:=w) k hi x b off u;have J:=v f.type e k w _ _ s u;have K:=iQ v w xs b fs (off+e.length) l2 E y z;have L:f.name≠ "_" :=by simpa using B
    have M:eqL (xs.toList.drop off) (b.toList.drop off)=(eqL ((xs.toList.drop off).take e.length) ((b.toList.drop off).take e.length) && eqL (xs.toList.drop (off+e.length)) (b.toList.drop (off+e.length))):=by
     have g:xs.toList.drop off=(xs.toList.drop off).take e.length++xs.toList.drop (off+e.length):=by rw[<-List.drop_drop,List.take_append_drop]
     have j:b.toList.drop off=(b.toList.drop off).take e.length++b.toList.drop (off+e.length):=by rw[<-List.drop_drop,List.take_append_drop]
     have:=nh (c:=xs.toList.drop (off+e.length)) (d:=b.toList.drop (off+e.length)) ((bt s).trans (bt u).symm);rw[<-g,<-j]at this;exact this
    rw[M];simp only[Op.eqFields,L,ne_eq,not_false_eq_true,if_true,Sem.run_bind,G,H,I,J,Result.andThen_ok];cases eqL ((xs.toList.drop off).take e.length) ((b.toList.drop off).take e.length)
    ·simp
    ·simpa using K
   ·cases h
  ·cases h
theorem jy {m d:Nat}{e:TypeId}{b:List Sh}{i:TypeInfo}(x:∀(t:TypeId)(l:List Sh),gN P m t=some l->∀(w:World)(xs f:List Value),cy l xs=true->cy l f=true->(Op.equalIn d t (asV P t xs) (asV P t f)).run P w=.ok (eqL xs f) w)
 (w:World)(xs f:Array Value)(he:gN P m e=some b)(hi:P.info? e=some i)(g:i.size=b.length):∀(n k:Nat),cy (EW b n) (xs.toList.drop (k*b.length))=true->cy (EW b n) (f.toList.drop (k*b.length))=true->
  (Op.eqItems d e (P.cellsOf e) xs f (List.range' k n)).run P w=.ok (eqL (xs.toList.drop (k*b.length)) (f.toList.drop (k*b.length))) w
 | 0,k,h,j=>by
  have p:=List.eq_nil_of_length_eq_zero (bt h);have q:=List.eq_nil_of_length_eq_zero (bt j);rw[p,q];rfl
 | n+1,k,h,j=>by
  have y:P.cellsOf e=b.length:=by simp[Program.cellsOf,hi,g]
  obtain⟨s,z⟩:=gz (l:=b) (l':=EW b n) h;obtain⟨u,A⟩:=gz (l:=b) (l':=EW b n) j;have v:k*b.length+b.length=(k+1)*b.length:=by rw[Nat.add_mul,Nat.one_mul]
  rw[List.drop_drop,v]at z A;have hm:∃m',m=m'+1:=by
   cases m with
   |zero=>simp[gN]at he
   |succ m'=>exact⟨m',rfl⟩
  obtain⟨m',rfl⟩:=hm;have D:=fZ (w:=w) he hi g xs _ s;have E:=fZ (w:=w) he hi g f _ u;have G:=x e b he w _ _ s u;have B:=jy x w xs f he hi g n (k+1) z A;rw[y]at B;have H:eqL (xs.toList.drop (k*b.length)) (f.toList.drop (k*b.length))=(eqL ((xs.toList.drop (k*b.length)).take b.length) ((f.toList.drop (k*b.length)).take b.length) && eqL (xs.toList.drop ((k+1)*b.length)) (f.toList.drop ((k+1)*b.length))):=by
   have p:xs.toList.drop (k*b.length)=(xs.toList.drop (k*b.length)).take b.length++xs.toList.drop ((k+1)*b.length):=by rw[<-v,<-List.drop_drop,List.take_append_drop]
   have q:f.toList.drop (k*b.length)=(f.toList.drop (k*b.length)).take b.length++f.toList.drop ((k+1)*b.length):=by rw[<-v,<-List.drop_drop,List.take_append_drop]
   have:=nh (c:=xs.toList.drop ((k+1)*b.length)) (d:=f.toList.drop ((k+1)*b.length)) ((bt s).trans (bt u).symm);rw[<-p,<-q]at this;exact this
  rw[H];simp only[List.range'_succ,Op.eqItems,Sem.run_bind,y,D,E,G,Result.andThen_ok];cases eqL ((xs.toList.drop (k*b.length)).take b.length) ((f.toList.drop (k*b.length)).take b.length)
  ·simp
  ·simpa using B
theorem ik(d:Nat):∀(m:Nat)(t:TypeId)(l:List Sh),gN P m t=some l->∀(w:World)(xs c:List Value),cy l xs=true->cy l c=true->(Op.equalIn (d+m) t (asV P t xs) (asV P t c)).run P w=.ok (eqL xs c) w
 |0,t,l,h,_,_,_,_,_=>by simp[gN]at h
 | m+1,t,l,h,w,xs,c,f,g=>by
  have H:=h;unfold gN at h;cases hu:P.underlying t with
  |none=>simp[hu]at h
  | some x=>
   simp only[hu]at h;cases x<;>simp only[reduceCtorEq]at h
   case bool=>
    simp only[Option.some.injEq]at h;subst h;obtain⟨v,rfl⟩:=List.length_eq_one_iff.1 (bt f);obtain⟨u,rfl⟩:=List.length_eq_one_iff.1 (bt g);cases v<;>first|(simp[cy]at f;done)|skip
    cases u<;>first|(simp[cy]at g;done)|skip
    simp only[asV,gH,hu,eqL,jt,Bool.and_true,List.headD_cons];exact run_equalIn_bool' (d+m) t _ _ hu w
   case int k=>
    simp only[Option.some.injEq]at h;subst h;obtain⟨v,rfl⟩:=List.length_eq_one_iff.1 (bt f);obtain⟨u,rfl⟩:=List.length_eq_one_iff.1 (bt g);cases v<;>first|(simp[cy]at f;done)|skip
    cases u<;>first|(simp[cy]at g;done)|skip
    rename_i p a q b;have y:kEq k p=true:=by
     cases h:kEq k p
     ·simp[cy,h]at f
     ·rfl
    have z:kEq k q=true:=by
     cases h:kEq k q
     ·simp[cy,h]at g
     ·rfl
    obtain rfl:=og y;obtain rfl:=og z;simp only[asV,gH,hu,eqL,jt,Bool.and_true,List.headD_cons];exact run_equalIn_int w (d+m) t _ _ a b hu
   case string=>
    simp only[Option.some.injEq]at h;subst h;obtain⟨v,rfl⟩:=List.length_eq_one_iff.1 (bt f);obtain⟨u,rfl⟩:=List.length_eq_one_iff.1 (bt g);cases v<;>first|(simp[cy]at f;done)|skip
    cases u<;>first|(simp[cy]at g;done)|skip
    simp only[asV,gH,hu,eqL,jt,Bool.and_true,List.headD_cons];exact run_equalIn_string w (d+m) t _ _ hu
   case struct fs=>
    split at h
    ·cases h
    ·rename_i A;have s:P.fieldsOf t=fs:=by simp[Program.fieldsOf,hu]
     have:=iQ (d:=d+m) (λt l j w xs c=>ik d m t l j w xs c) w ⟨xs⟩ ⟨c⟩ fs.toList 0 l h (by simpa using f) (by simpa using g);simp only[asV,gH,hu];rw[show d+(m+1)=d+m+1 from rfl,run_equalIn_struct w (d+m) t ⟨xs⟩ ⟨c⟩ (by rw[s];exact hu) A,s];simpa using this
   case array n e=>
    split at h
    ·rename_i B i D hi;split at h
     ·rename_i E;simp only[Option.some.injEq]at h;subst h;have G:i.size=B.length:=Nat.eq_of_beq_eq_true E;have:=jy (d:=d+m) (λt l j w xs c=>ik d m t l j w xs c) w ⟨xs⟩ ⟨c⟩ D hi G n 0 (by simpa using f) (by simpa using g);simp only[asV,gH,hu];rw[show d+(m+1)=d+m+1 from rfl,run_equalIn_array w (d+m) ⟨xs⟩ ⟨c⟩ hu hi,List.range_eq_range'];simpa using this
     ·cases h
    ·cases h
theorem Fk {m:Nat}{t:TypeId}{l:List Sh}{op:BinOp}{xs b:Array Value}{X Y:Operand}(c:P.eqGuardType P.depth t=false)(h:gN P m t=some l)(hm:m<=10000)(d:gH P t=true)(e:cy l xs.toList=true)(f:cy l b.toList=true)(g:op=.eql\/op=.neq)(w:World):
 (do eqGuard op t X Y (.agg xs) (.agg b);binOp op t (.agg xs) (.agg b):Sem Value).run P w=.ok (.bool (if op=.eql then bk xs b else !(bk xs b))) w:=by
 have he:=ik (10000 - m) m t l h w xs.toList b.toList e f;rw[show 10000 - m+m=10000 by omega]at he;simp only[asV,d]at he;rw[Sem.run_bind,run_eqGuard_agg w op t X Y xs b c];rcases g with rfl|rfl
 ·rw[Result.andThen_ok,run_eql_struct w t xs b,he];rfl
 ·rw[Result.andThen_ok,run_neq_struct w t xs b,he];rfl
theorem HZ {op:BinOp}{t:TypeId}{X Y:Operand}{ρ:Operand->Value}(m:∀v,ρ (.const v)=v)(h:LS P op t Y (ρ X) (ρ Y) F els):
 (∃v,F v/\∀w,(do eqGuard op t X Y (ρ X) (ρ Y);binOp op t (ρ X) (ρ Y):Sem Value).run P w=.ok v w)\/els:=by
 unfold LS at h;split at h
 ·rename_i k a k' b e g;rw[e,g];split at h
  ·obtain⟨v,d,j⟩:=zp h t;exact .inl ⟨v,d,λw=>by rw[Sem.run_bind,ep _ _ _ _ _ _ _ (by simp) (by simp)];exact j w⟩
  ·rename_i p;split at h
   ·rename_i q;obtain rfl:=og q;obtain⟨v,d,j⟩:=Fg p h t;exact .inl ⟨v,d,λw=>by rw[Sem.run_bind,ep _ _ _ _ _ _ _ (by simp) (by simp)];exact j w⟩
   ·exact h.elim
 ·rename_i a b e g;rw[e,g];obtain⟨v,d,j⟩:=EN h t;exact .inl ⟨v,d,λw=>by rw[Sem.run_bind,ep _ _ _ _ _ _ _ (by simp) (by simp)];exact j w⟩
 ·rename_i a b e g;rw[e,g];split at h
  ·rename_i i;obtain⟨v,d,f⟩:=ot h;refine .inl ⟨v,d,λw=>?_⟩;rw[Sem.run_bind,ep _ _ _ _ _ _ _ (by simp) (by simp)];rcases f with⟨rfl,rfl⟩|⟨rfl,rfl⟩<;>simp[binOp,qU t a b i]
  ·exact .inr h
 ·rename_i a e;split at h
  ·rename_i i;obtain⟨v,d,f⟩:=ot h;refine .inl ⟨v,d,λw=>?_⟩;rw[e,m,Sem.run_bind,ep _ _ _ _ _ _ _ (by simp) (by simp)];rcases f with⟨rfl,rfl⟩|⟨rfl,rfl⟩<;>simp[binOp,sY t _ a i]
  ·exact .inr h
 ·rename_i a n c e;split at h
  ·rename_i i;obtain⟨v,d,f⟩:=ot h;refine .inl ⟨v,d,λw=>?_⟩;rw[e,m,Sem.run_bind,ep _ _ _ _ _ _ _ (by simp) (by simp)];rcases f with⟨rfl,rfl⟩|⟨rfl,rfl⟩<;>simp[binOp,oV t _ a _ _ _ _ i]
  ·exact .inr h
 ·rename_i a e;split at h
  ·rename_i i;obtain⟨v,d,f⟩:=ot h;refine .inl ⟨v,d,λw=>?_⟩;rw[e,m,Sem.run_bind,ep _ _ _ _ _ _ _ (by simp) (by simp)];rcases f with⟨rfl,rfl⟩|⟨rfl,rfl⟩<;>simp[binOp,sZ t _ _ a i]
  ·exact .inr h
 ·rename_i xs y e g;rw[e,g];split at h
  ·rename_i l s u x;obtain⟨f1,h⟩:=Au h;obtain⟨f2,h⟩:=Au h;obtain⟨v,d,f⟩:=ot h;refine .inl ⟨v,d,λw=>?_⟩;rw[Fk s x (by omega) u f1 f2 (f.imp And.left And.left) w];rcases f with⟨rfl,rfl⟩|⟨rfl,rfl⟩<;>rfl
  ·exact .inr h
 ·exact .inr h
theorem zK {s:Sem Next}(h:qK F els (eY P s)):(∃v,F v/\∀w,s.run P w=.ok (.value v) w)\/els:=by
 unfold qK at h;split at h
 ·rename_i v b;exact .inl ⟨v,h,λw=>zJ b w⟩
 ·exact .inr h
theorem IU {op:UnOp}{x:Value}(h:unM op x F):∃v,F v/\∀w,(Op.unary op x).run P w=.ok v w:=by
 unfold unM at h;split at h
 ·exact⟨_,h,λw=>rfl⟩
 ·exact⟨_,h,λw=>rfl⟩
 ·exact⟨_,h,λw=>rfl⟩
 ·exact h.elim
theorem jF {t:TypeId}{x i:Value}(h:mq P t x i F):∃v,F v/\∀w,(Instr.indexAt t x i).run P w=.ok v w:=by
 unfold mq at h;split at h
 ·rename_i e a n c k j b;split at h
  ·rename_i he;obtain⟨g,hi,d⟩:=dx he;obtain⟨f,h⟩:=h;obtain⟨p,rfl,h⟩:=cm h;refine⟨_,h,λw=>?_⟩;simp[Instr.indexAt,asIntOf,run_underlying b,f,sizeOf,typeInfo,hi,d]
  ·exact h.elim
 ·rename_i n e a k j b;split at h
  ·rename_i he;obtain⟨g,hi,d⟩:=dx he;obtain⟨f,h⟩:=h;obtain⟨p,rfl,h⟩:=cm h;refine⟨_,h,λw=>?_⟩;simp[Instr.indexAt,asIntOf,run_underlying b,f,sizeOf,typeInfo,hi,d,Instr.sureAddr]
  ·exact h.elim
 ·exact h.elim
theorem tM {s:TypeId}{x:Value}{f:Nat}(h:j8 P s x f F):∃v,F v/\∀w,(Instr.fieldAt s x f).run P w=.ok v w:=by
 unfold j8 at h;split at h
 ·rename_i fields c;split at h
  ·rename_i fd d;split at h
   ·rename_i i hi;split at h
    ·rename_i b;split at h
     ·obtain⟨p,rfl,h⟩:=cm h;have g:¬i.size=0:=by intro e;rw[e]at b;simp at b
      refine⟨_,h,λw=>?_⟩;simp[Instr.fieldAt,run_underlying c,d,Instr.sureAddr,fieldPlace,sizeOf,typeInfo,hi,g]
     ·exact h.elim
    ·exact h.elim
   ·exact h.elim
  ·exact h.elim
 ·exact h.elim
theorem Fu {src dst:TypeId}{x:Value}(h:HM P src dst x F els):(∃v,F v/\∀w,(convert src dst x).run P w=.ok v w)\/els:=by
 unfold HM at h;split at h
 ·rename_i a k n b hd;exact .inl ⟨_,h,λw=>by unfold convert;simp[run_underlying b,run_underlying hd,Conv.intToInt]⟩
 ·rename_i a s b hd;exact .inl ⟨_,h,λw=>by unfold convert;simp[run_underlying b,run_underlying hd]⟩
 ·exact .inr h
theorem CB {t:TypeId}{x i:Value}(h:CC P t x i F):∃v,F v/\∀w,(Instr.index t x i).run P w=.ok v w:=by
 unfold CC at h;split at h
 ·rename_i s k j c;obtain⟨b,d,h⟩:=cm h;exact⟨_,h,λw=>by simp[Instr.index,asIntOf,run_underlying c,d]⟩
 ·rename_i n e cs k j c;split at h
  ·rename_i f he;obtain⟨p,hi,g⟩:=dx he;obtain⟨d,h⟩:=h;obtain⟨v,l,h⟩:=Sh2.j9 h;refine⟨_,h,λw=>?_⟩;have m:=wY f w;simp[Instr.index,asIntOf,run_underlying c,d,part,m,sizeOf,typeInfo,hi,<-g,l]
  ·exact h.elim
 ·exact h.elim
theorem run_sliceBound {k:IntKind}{i:Int}{y:Nat}{code:BoundsCode}(h:0<=i/\i<=y)(w:World):(Instr.sliceBound (.int k i) y code).run P w=.ok i.toNat w:=by
 unfold Instr.sliceBound;show((if 0<=i/\i<=(y:Int)then pure i.toNat else boundsPanic k i y code:Sem Nat)).run P w=_;rw[if_pos h];rfl
theorem pD {lo:Option Value}{H:Nat}{G:Nat->Prop}{code:BoundsCode}(h:qI lo H G):∃l,G l/\
 ∀w,(match lo with|some v=>Instr.sliceBound v H code|none=>pure 0:Sem Nat).run P w=.ok l w:=by
 unfold qI at h;split at h
 ·exact⟨_,h,λw=>rfl⟩
 ·obtain⟨b,h⟩:=h;exact⟨_,h,λw=>run_sliceBound b w⟩
 ·exact h.elim
theorem nq {isSlice:Bool}{len cap:Nat}{lo hi mx:Option Value}{G:Nat->Nat->Nat->Prop}(b:mx=none\/hi≠none)
 (h:nr mx cap λm=>qJ hi len m λh=>qI lo h λl=>G l h m):∃l h m,G l h m/\∀w,(Instr.sliceBounds isSlice len cap lo hi mx).run P w=.ok (l,h,m) w:=by
 unfold Instr.sliceBounds;cases mx with
 | none=>
  simp only[nr]at h;cases hi with
  | none=>
   simp only[qJ]at h;obtain⟨l,d,e⟩:=pD (P:=P) (code:=.sliceB) h;refine⟨l,_,_,d,λw=>?_⟩;have:=e w;cases lo with
   |none=>simp at this ⊢;exact this
   |some v=>simp at this ⊢;simp[this]
  | some f=>
   simp only[qJ]at h;split at h
   ·cases ‹some f=none›
   ·rename_i k H heq;obtain rfl:f=.int k H:=by injection heq
    obtain⟨i,h⟩:=h;obtain⟨l,d,e⟩:=pD (P:=P) (code:=.sliceB) h;refine⟨l,_,_,d,λw=>?_⟩;have:=e w;have g:=λc=>run_sliceBound (P:=P) (k:=k) (code:=c) i w;cases lo with
    |none=>simp[g];simpa using this
    |some v=>simp at this ⊢;simp[g,this]
   ·exact h.elim
 | some j=>
  rcases b with b|b
  ·cases b
  cases hi with
  |none=>exact absurd rfl b
  |some f=>
  simp only[nr]at h;split at h
  ·cases ‹some j=none›
  ·rename_i k M heq;obtain rfl:j=.int k M:=by injection heq
   obtain⟨hm,h⟩:=h;simp only[qJ]at h;split at h
   ·cases ‹some f=none›
   ·rename_i k' H heq;obtain rfl:f=.int k' H:=by injection heq
    obtain⟨i,h⟩:=h;obtain⟨l,d,e⟩:=pD (P:=P) (code:=.slice3C) h;refine⟨l,_,_,d,λw=>?_⟩;have:=e w;have p:=λc=>run_sliceBound (P:=P) (k:=k) (code:=c) hm w;have g:=λc=>run_sliceBound (P:=P) (k:=k') (code:=c) i w;cases lo with
    |none=>simp[p,g];simpa using this
    |some v=>simp[p,g];simp at this;simp[this]
   ·exact h.elim
  ·exact h.elim
theorem MG {mx hi:Option Value}(h:(mx.isNone || hi.isSome)=true):mx=none\/hi≠none:=by
 cases mx<;>cases hi<;>simp_all
theorem mR {t:TypeId}{x:Value}{lo hi mx:Option Value}(h:mS P t x lo hi mx F els):(∃v,F v/\∀w,(Instr.sliceAt t x lo hi mx).run P w=.ok v w)\/els:=by
 unfold mS at h;split at h
 ·rename_i e a len cap b;split at h
  ·rename_i he;simp only[Bool.and_eq_true]at he;obtain⟨j,f,g⟩:=dx he.1;obtain⟨l,i,m,c,d⟩:=nq (P:=P) (isSlice:=true) (MG he.2) h;refine .inl ⟨_,c _ rfl _ rfl _ rfl,λw=>?_⟩;simp[Instr.sliceAt,Instr.slice,run_underlying b,d,sizeOf,typeInfo,f,g]
  ·exact h.elim
 ·rename_i s b;split at h
  ·obtain⟨l,i,m,c,d⟩:=nq (P:=P) (isSlice:=false) (len:=s.size) (cap:=s.size) (mx:=none) (G:=λl h _=>F (.string (s.extract l h))) (.inl rfl) (by simpa[nr]using h);refine .inl ⟨_,c,λw=>?_⟩;simp[Instr.sliceAt,Instr.slice,run_underlying b,d]
  ·exact h.elim
 ·rename_i n e a b;split at h
  ·rename_i he;simp only[Bool.and_eq_true]at he;obtain⟨j,f,g⟩:=dx he.1;obtain⟨p,rfl,k⟩:=cm h;obtain⟨l,i,m,c,d⟩:=nq (P:=P) (isSlice:=false) (MG he.2) k;refine .inl ⟨_,c _ rfl _ rfl _ rfl,λw=>?_⟩;simp[Instr.sliceAt,Instr.sureAddr,run_underlying b,d,sizeOf,typeInfo,f,g]
  ·exact h.elim
 ·exact .inr h
theorem gP {p:Addr}:∀(vs:List Value)(i:Nat)(acc:Array Value),(∀j u,vs[j]? =some u->w.cell? (p.add (i+j))=some u)->
 (loadCellsFrom p i vs.length acc).run P w=.ok (acc++⟨vs⟩) w
 | [],i,acc,_=>by simp[loadCellsFrom]
 | v::r,i,acc,h=>by
  have b:=h 0 v rfl;simp only[Nat.add_zero]at b;have c:=gP r (i+1) (acc.push v) (λj u hu=>by
   have:=h (j+1) u (by simpa using hu)
   rwa[Nat.add_right_comm,Nat.add_assoc])
  simp only[List.length_cons,loadCellsFrom,load];simp only[Sem.run_bind];rw[show(Sem.load .plain (p.add i) Sem.pure).run P w=.ok v w by simp[Sem.run,b]];simp only[Result.andThen_ok,c];simp
theorem qE {p:Addr}:∀(vs:List Value)(i:Nat),ar w p i vs->∀j u,vs[j]? =some u->w.cell? (p.add (i+j))=some u
 | [],_,_,j,u,hu=>by simp at hu
 | v::r,i,h,j,u,hu=>by
  obtain⟨b,c⟩:=yl h;cases j with
  |zero=>simp at hu;subst hu;simpa using b
  | succ j=>
   have:=qE r (i+1) c j u (by simpa using hu)
   rwa[show i+(j+1)=i+1+j by omega]
theorem ox {b:World}{p:Addr}(jo:∀(i:Nat)(u:Value),w.cell? (p.add i)=some u->b.cell? (p.add i)=some u):∀(vs:List Value)(i:Nat),ar w p i vs->ar b p i vs
 | [],_,_=>trivial
 | [_],_,h=>jo _ _ h
 |_::u::r,i,h=>⟨jo _ _ h.1,ox jo (u::r) (i+1) h.2⟩
theorem GS {B:Option (Nat->Prop)}{p:Addr}{F:Prop}(h:Mv B p F):(∀b,B=some b->b p.block)/\F:=by
 cases B with
 |none=>exact⟨by simp,h⟩
 |some b=>exact⟨λd c=>by cases c;exact h.1,h.2⟩
theorem block_add(p:Addr)(i:Nat):(p.add i).block=p.block:=by unfold Addr.add;split<;>rfl
theorem xU {B:Option (Nat->Prop)}{c:World}{p:Addr}{s:Sh2}{v:Value}(d:∀b,B=some b->b p.block)(e:Kept (held B w) w c)(h:gS w p s v):gS c p s v:=by
 have jo:∀(q:Addr)(u:Value),q.block=p.block->w.cell? q=some u->c.cell? q=some u:=λq u hq hu=>by
  refine(e.cell (p:=q) ?_).trans hu;cases B with
  |none=>exact World.block_lt_of_cell? w q hu
  |some b=>rw[hq];exact d b rfl
 cases s with
 |one s=>exact jo _ _ rfl h
 | agg l=>
  cases v<;>first|exact h.elim|skip
  rename_i cs;simp only[gS]at h ⊢;split at h
  ·exact ox (λi u hu=>jo _ u (block_add p i) hu) _ _ h
  ·exact h.elim
 | row n=>
  cases v<;>first|exact h.elim|skip
  exact⟨h.1,λi u hu=>jo _ _ (block_add p i) (h.2 i u hu)⟩
theorem kM {p:Addr}{t:TypeId}{s:Sh2}{v:Value}(f:ub P t (sP s)=true)(hi:hasType P t=true)(g:Nat.beq (gF s) (aS P t)=true)(h:gS w p s v):
 (Instr.loadAt t (.pointer (some p))).run P w=.ok v w:=by
 obtain⟨i,k,m⟩:=dx hi;have q:i.size=gF s:=by rw[<-m];exact(Nat.eq_of_beq_eq_true g).symm
 have c:=wY f w;have e:(sizeOf t).run P w=.ok (gF s) w:=by simp[sizeOf,typeInfo,k,q]
 cases s with
 |one s=>simp[Instr.loadAt,Instr.sureAddr,loadVar,c,sP,load,Sem.run,show w.cell? p=some v from h]
 | agg l=>
  cases v<;>first|exact h.elim|skip
  rename_i cs;simp only[gS]at h;split at h
  ·rename_i d;have x:cs.toList.length=l.length:=Nat.eq_of_beq_eq_true d;have b:=gP (P:=P) (p:=p) cs.toList 0 #[] (qE _ _ h);rw[x]at b;simp[Instr.loadAt,Instr.sureAddr,loadVar,c,sP,e,gF,loadCells,b]
  ·exact h.elim
 | row n=>
  cases v<;>first|exact h.elim|skip
  rename_i cs;have b:=gP (P:=P) (p:=p) cs.toList 0 #[] (λj u hu=>by simpa using h.2 j u (by simpa using hu));have d:cs.toList.length=n:=by simpa using h.1
  rw[d]at b;simp[Instr.loadAt,Instr.sureAddr,loadVar,c,sP,e,gF,loadCells,b]
theorem nY {v:Value}{p:Prop}(h:one? v p):p/\(∀u,v≠ .agg u)/\(∀u,v≠ .tuple u):=by
 cases v<;>simp_all[one?]
theorem kL {p:Addr}{K:World->Prop}:∀(vs:List Value)(i:Nat)(w:World),nQ p i vs w K->∃b,(storeCells p vs i).run P w=.ok () b/\K b
 | [],i,w,h=>⟨w,rfl,h⟩
 | v::r,i,w,h=>by
  obtain⟨⟨⟨u,hu⟩,c,h⟩,d,e⟩:=nY h;obtain⟨b,f,g⟩:=kL r (i+1) _ h;refine⟨b,?_,g⟩;have j:(store (p.add i) v).run P w=.ok () (w.setCell (p.add i) v):=by
   unfold store;cases v<;>first|exact absurd rfl (d _)|exact absurd rfl (e _)|simp[Sem.run,hu,c]
  simp[storeCells,j,f]
theorem tG(w:World)(q p:Addr)(v:Value):(w.setCell q v).frozen? p=w.frozen? p:=by
 unfold World.frozen? World.setCell;simp only[Array.getElem?_modify];by_cases h:q.block=p.block
 ·simp only[h,if_true];cases hw:w.heap[p.block]? with
  |none=>rfl
  |some o=>cases o<;>rfl
 ·simp only[h,if_false]
theorem oy {w:World}{p:Addr}{u:Value}(q:Addr)(v:Value)(h:w.cell? p=some u):∃g,(w.setCell q v).cell? p=some g:=by
 unfold World.cell? World.setCell at *;simp only[Array.getElem?_modify];by_cases b:q.block=p.block
 ·simp only[b,if_true];cases hw:w.heap[p.block]? with
  |none=>rw[hw]at h;cases h
  | some o=>
   rw[hw]at h;cases o<;>simp only[reduceCtorEq]at h
   rename_i c e f;simp only[Option.map_some];cases d:p.spot.isSome
   ·simp only[d,Bool.false_eq_true,if_false]at h ⊢;have i:=(Array.getElem?_eq_some_iff.1 h).1;cases q.spot.isSome
    ·simp only[Bool.false_eq_true,if_false];exact⟨_,Array.getElem?_eq_getElem (by simpa using i)⟩
    ·simp only[if_true];exact⟨_,h⟩
   ·simp only[d,if_true,reduceCtorEq]at h
 ·simp only[b,if_false];exact⟨u,h⟩
theorem nP {p:Addr}{K:World->Prop}:∀(vs:List Value)(i:Nat)(w:World),(∀j,j<vs.length->(∃u,w.cell? (p.add (i+j))=some u)/\w.frozen? (p.add (i+j))=false)->(∀v∈vs,one? v True)->
 K (setRow p i vs w)->nQ p i vs w K
 | [],i,w,_,_,b=>b
 | v::r,i,w,h,c,b=>by
  have g:=nP r (i+1) (w.setCell (p.add i) v) (λj l=>by
   obtain⟨⟨u,hu⟩,d⟩:=h (j+1) (by simp;omega);rw[show i+(j+1)=i+1+j by omega]at hu d;exact⟨oy _ _ hu,by rw[tG];exact d⟩) (λx k=>c x (List.mem_cons_of_mem _ k)) b
  have e:=h 0 (by simp);have f:=(nY (c v (List.mem_cons_self ..))).2;simp only[nQ];cases v<;>first|exact absurd rfl (f.1 _)|exact absurd rfl (f.2 _)|exact⟨e.1,e.2,g⟩
theorem bn(g o n:Nat):Addr.add ⟨g,o,none⟩ n=⟨g,o+n,none⟩:=by
 unfold Addr.add;split
 ·rename_i h;rw[h,Nat.add_zero]
 ·rfl
theorem fe:∀(vs:List Value)(cs:Array Value)(o:Nat),(setAt cs o vs).size=cs.size
 | [],cs,o=>rfl
 |v::r,cs,o=>by rw[setAt,fe r];simp
theorem Blk.set {w:World}{g:Nat}{cs:Array Value}{T:TypeId}(h:Blk w g cs T)(o:Nat)(v:Value):br w g (cs.setIfInBounds o v) T (w.setCell ⟨g,o,none⟩ v):=by
 refine⟨?_,⟨rfl,rfl,rfl,by simp[World.setCell],λk b=>?_⟩,by simp[World.setCell]⟩
 ·unfold Blk at *;simp[World.setCell,Array.getElem?_modify,h]
 ·simp only[World.setCell,Array.getElem?_modify];rw[if_neg (λe=>b e.symm)]
theorem br.trans {w w2 b:World}{g:Nat}{cs c:Array Value}{T d:TypeId}(h:br w g cs T w2)(k:br w2 g c d b):br w g c d b:=
 ⟨k.blk,h.kept.trans k.kept,k.size.trans h.size⟩
theorem mw(g o:Nat)(T:TypeId):∀(vs:List Value)(i:Nat)(w:World)(cs:Array Value),Blk w g cs T->br w g (setAt cs (o+i) vs) T (setRow ⟨g,o,none⟩ i vs w)
 | [],i,w,cs,h=>⟨h,Kept.refl _ _,rfl⟩
 | v::r,i,w,cs,h=>by
  have b:=h.set (o+i) v;have c:=mw g o T r (i+1) (w.setCell ⟨g,o+i,none⟩ v) _ b.blk;simp only[setRow,setAt,bn];exact b.trans c
theorem ej:∀ {vs:List Value}{F:Prop},mo vs F->F/\∀v∈vs,one? v True
 | [],F,h=>⟨h,by simp⟩
 | v::r,F,h=>by
  have b:=nY h;obtain⟨c,d⟩:=ej b.1;refine⟨c,λu hu=>?_⟩;rcases List.mem_cons.1 hu with rfl|hu
  ·cases u<;>first|exact absurd rfl (b.2.1 _)|exact absurd rfl (b.2.2 _)|exact trivial
  ·exact d u hu
theorem sX {p:Addr}{vs:List Value}{K:World->Prop}(d:∀v∈vs,one? v True)(h:ao w p vs K):∃c,(storeCells p vs 0).run P w=.ok () c/\K c:=by
 obtain⟨g,o,cs,T,rfl,b,f,e⟩:=h;refine kL (P:=P) _ _ _ (nP _ _ _ (λj i=>?_) d (e _ (by simpa using mw g o T vs 0 w cs b)));rw[Nat.zero_add,bn];unfold Blk at b;refine⟨?_,by simp[World.frozen?,b]⟩;unfold World.cell?;simp only[b];exact⟨_,Array.getElem?_eq_getElem (by omega)⟩
theorem oY {B:Option (Nat->Prop)}(E:∀v,ρ (.const v)=v)(h:qk P B o ρ w F els):(∃v,F v/\∀g,Kept (held B w) w g->(execOp ρ o).run P g=.ok (.value v) g)\/els:=by
 obtain⟨dst,op,type,pos,after,guard⟩:=o;cases op
 all_goals first|exact .inr h|(simp only[qk]at h)
 case move=>exact .inl ⟨_,h,λ_ _=>rfl⟩
 case assign=>exact .inl ⟨_,h,λ_ _=>rfl⟩
 case pick x y z=>
  split at h
  ·rename_i t u;rcases fT h with⟨rfl,h⟩|⟨rfl,h⟩
   ·exact .inl ⟨_,h,λ_ _=>by simp[execOp,u,asBool]⟩
   ·exact .inl ⟨_,h,λ_ _=>by simp[execOp,u,asBool]⟩
  ·exact h.elim
 case load t x=>
  split at h
  ·rename_i a m;split at h
   ·rename_i s L A;simp only[Bool.and_eq_true]at A;obtain⟨p,rfl,h⟩:=cm h;obtain⟨G,h⟩:=GS h;obtain⟨v,H,j⟩:=Sh2.j9 h;refine .inl ⟨v,j,λg I=>?_⟩;have:=kM (P:=P) A.1.1 A.1.2 A.2 (xU (λb J=>G b J) I H);simp[execOp,m,this]
   ·exact h.elim
  ·exact h.elim
 case nilCheck x=>
  split at h
  ·rename_i a m;obtain⟨p,rfl,h⟩:=cm h;exact .inl ⟨_,h,λ_ _=>by simp[execOp,m]⟩
  ·exact .inr h
 case fieldAddr s x f=>
  obtain⟨v,j,l⟩:=tM h;exact .inl ⟨v,j,λg _=>by simp[execOp,l g]⟩
 case indexAddr t x i=>
  obtain⟨v,j,l⟩:=jF h;exact .inl ⟨v,j,λg _=>by simp[execOp,l g]⟩
 case index t x i=>
  obtain⟨v,j,l⟩:=CB h;exact .inl ⟨v,j,λg _=>by simp[execOp,l g]⟩
 case binOp op t x y M=>
  rcases HZ E (X:=x) h with⟨v,j,l⟩|h
  ·exact .inl ⟨v,j,λg _=>by simp only[execOp];rw[Sem.run_bind,l g];rfl⟩
  ·exact .inr h
 case unOp op t x=>
  obtain⟨v,j,l⟩:=IU (P:=P) h;exact .inl ⟨v,j,λg _=>by simp[execOp,l g]⟩
 case convert s d x=>
  rcases Fu h with⟨v,j,l⟩|h
  ·exact .inl ⟨v,j,λg _=>by simp[execOp,l g]⟩
  ·exact .inr h
 case slice t x lo hi mx=>
  rcases mR h with⟨v,j,l⟩|h
  ·exact .inl ⟨v,j,λg _=>by simp[execOp,l g]⟩
  ·exact .inr h
 case sliceToArrayPointer arr x=>
  split at h
  ·rename_i n e a len cap hu q;obtain⟨hle,h⟩:=h;refine .inl ⟨_,h,λg _=>?_⟩;have:¬len<n:=by omega
   simp[execOp,Instr.arrayAt,run_underlying hu,q,this]
  ·exact .inr h
 case call c=>
  obtain⟨O,args,K⟩:=c;simp only at h;split at h
  ·rename_i x t m u;obtain rfl:args= #[x]:=by rw[<-m]
   obtain rfl:K= #[t]:=by rw[<-u]
   split at h
   ·rename_i e hu;split at h
    ·rename_i a n k q;exact .inl ⟨_,h,λg _=>by simp[execOp,resolve,invoke,builtin,Builtin.len_,run_underlying hu,q,goInt]⟩
    ·exact .inr h
   ·rename_i hu;split at h
    ·rename_i s q;exact .inl ⟨_,h,λg _=>by simp[execOp,resolve,invoke,builtin,Builtin.len_,run_underlying hu,q,goInt]⟩
    ·exact .inr h
   ·exact .inr h
  ·rename_i x y m;obtain rfl:args= #[x,y]:=by rw[<-m]
   split at h
   ·rename_i k a k' b q D;exact .inl ⟨_,h,λg _=>by simp[execOp,resolve,invoke,builtin,Builtin.min_,Builtin.min2,q,D]⟩
   ·exact .inr h
  ·rename_i x y m;obtain rfl:args= #[x,y]:=by rw[<-m]
   split at h
   ·rename_i k a k' b q D;exact .inl ⟨_,h,λg _=>by simp[execOp,resolve,invoke,builtin,Builtin.max_,Builtin.max2,q,D]⟩
   ·exact .inr h
  ·exact .inr h
 all_goals
  rcases zK h with⟨v,j,l⟩|h
  ·exact .inl ⟨v,j,λg _=>l g⟩
  ·exact .inr h
theorem GC {s:Sem Next}{K:aK}(h:runM P s w K):∃v b,s.run P w=.ok (.value v) b/\K v b:=by
 unfold runM at h;split at h
 ·rename_i v b c;exact⟨v,b,c,h⟩
 ·exact h.elim
def eI(P:Program)(C:List Nat):Bool:=C.all (bO P)
theorem ew {C:List Nat}{f:FuncId}(c:eI P C=true)(h:C.elem f=true)(args:Array Value)(w:World):(callFunc f args).run P w=.ok (.enter f args) w:=by
 have b:bO P f=true:=by
  unfold eI at c;exact List.all_eq_true.1 c f (List.elem_iff.1 h)
 unfold bO at b;split at b
 ·rename_i fn i;simp only[Bool.and_eq_true,Bool.not_eq_true']at b;obtain⟨d,g⟩:=b;have j:¬fn.body=none:=by intro e;rw[e]at d;cases d
  have k:¬fn.name= "runtime.NumGoroutine" :=by intro e;rw[e]at g;simp at g
  simp[callFunc,i,k,j,program,Sem.run]
 ·cases b
theorem kE {s:Sem Value}(h:uV o ρ=some s)(w:World){v:Value}{d:World}(f:s.run P w=.ok v d):(execOp ρ o).run P w=.ok (.value v) d:=by
 obtain⟨dst,op,type,pos,after,guard⟩:=o;have key:execOp ρ ⟨dst,op,type,pos,after,guard⟩=(do pure (.value (<-s)))->(execOp ρ ⟨dst,op,type,pos,after,guard⟩).run P w=.ok (.value v) d:=by
  intro e;rw[e,Sem.run_bind,f];rfl
 cases op
 case call c=>
  obtain⟨g,args,i⟩:=c;cases g with
  |builtin b=>cases b<;>simp only[uV,Option.some.injEq,reduceCtorEq]at h<;>(subst h;exact key rfl)
  |_=>simp[uV]at h
 all_goals first|(simp only[uV,reduceCtorEq]at h;done)|(simp only[uV,Option.some.injEq]at h;subst h;exact key rfl)
theorem EV {K:aK}(h:zy P o ρ w K):∃v b,(execOp ρ o).run P w=.ok (.value v) b/\K v b:=by
 unfold zy at h;split at h
 ·rename_i s e;obtain⟨v,b,c,d⟩:=rS h;exact⟨v,b,kE e w c,d⟩
 ·obtain⟨v,b,c,d⟩:=rS h;exact⟨v,b,c,d⟩
theorem Jp {C:List Nat}{Y:Bool}{K:aK}{Qp:Option (List PanicEntry->World->Prop)}(I:eI P C=true)(J:∀v,ρ (.const v)=v)(h:opM P C Y o ρ w K Qp):Out P Y K (QpP Qp) ((execOp ρ o).run P w):=by
 unfold opM at h;have O:=oY J h;clear h;rcases O with⟨v,R,b⟩|h
 ·rw[b w (Kept.refl _ _)];exact R
 ·clear J;have gen:zy P o ρ w K->Out P Y K (QpP Qp) ((execOp ρ o).run P w):=by
   intro h;obtain⟨v,d,b,g⟩:=EV h;rw[b];exact g
  have L:runM P (execOp ρ o) w (ts K)->Out P Y K (QpP Qp) ((execOp ρ o).run P w):=by
   intro h;obtain⟨v,d,b,g⟩:=GC h;rw[b];exact v9 g
  have an:(∃d,(execOp ρ o).run P w=.ok .skip d/\K undef d)->Out P Y K (QpP Qp) ((execOp ρ o).run P w):=by
   rintro⟨d,b,g⟩;rw[b];exact g
  obtain⟨dst,op,type,pos,after,guard⟩:=o;cases op
  all_goals first|exact gen h|exact L h|(simp only at h;done)|skip
  case mapUpdate t m k x=>
   obtain⟨d,b,g⟩:=h;have:(execOp ρ {dst:=dst,op:=.mapUpdate t m k x,type:=type,pos:=pos,after:=after,guard:=guard}).run P w=.ok .skip d:=by
    simp only[execOp];rw[Sem.run_bind,b];rfl
   rw[this];exact g
  case insert t m k x=>
   obtain⟨d,b,g⟩:=h;have:(execOp ρ {dst:=dst,op:=.insert t m k x,type:=type,pos:=pos,after:=after,guard:=guard}).run P w=.ok .skip d:=by
    simp only[execOp];rw[Sem.run_bind,b];rfl
   rw[this];exact g
  case buildSlice t n parts=>
   dsimp only at h;split at h
   ·rename_i e x he s;obtain⟨j,g⟩:=h;have T:parts= #[(0,x)]:=by apply Array.ext';exact s
    subst T;have b:(execOp ρ {dst:=dst,op:=.buildSlice t 1 #[(0,x)],type:=type,pos:=pos,after:=after,guard:=guard}).run P w=.ok (.value (.slice (some ⟨w.heap.size,0,none⟩) 1 1)) (w.alloc (.cells #[ρ x] e)):=by
     have:=Fh he j w;simp only[execOp];rw[Sem.run_bind];have U:(#[(0,x)]:Array (Nat×Operand)).map (fun(i,x)=>(i,ρ x))= #[(0,ρ x)]:=by simp
     rw[U,this];rfl
    rw[b];exact v9 g
   ·exact L h
  case store t x y=>
   simp only at h;split at h
   ·rename_i a M;split at h
    ·rename_i n az;split at h
     ·rename_i cs q z;simp only[Bool.and_eq_true]at q;obtain⟨A,B,D⟩:=dx q.1;obtain⟨p,rfl,h⟩:=cm h;obtain⟨d,b,g⟩:=sX (P:=P) h.2.1 h.2.2;have E:cs.size=A.size:=by rw[<-D,<-Nat.eq_of_beq_eq_true q.2];exact h.1
      have:(execOp ρ {dst:=dst,op:=.store t x y,type:=type,pos:=pos,after:=after,guard:=guard}).run P w=.ok .skip d:=by
       simp[execOp,M,z,Value.cells,Instr.storeAt,Instr.sureAddr,storeVar,sizeOf,typeInfo,B,E,b]
      rw[this];exact g
     ·exact h.elim
    split at h
    ·rename_i q;simp only[Bool.and_eq_true]at q;obtain⟨A,B,D⟩:=dx q.2;obtain⟨p,rfl,h⟩:=cm h;obtain⟨h,j⟩:=ej h;obtain⟨d,b,g⟩:=sX (P:=P) j h;have E:(ρ y).cells.size=A.size:=by rw[<-D,<-Nat.eq_of_beq_eq_true q.1];simp
     have:(execOp ρ {dst:=dst,op:=.store t x y,type:=type,pos:=pos,after:=after,guard:=guard}).run P w=.ok .skip d:=by
      simp[execOp,M,Instr.storeAt,Instr.sureAddr,storeVar,sizeOf,typeInfo,B,E,b]
     rw[this];exact g
    ·exact h.elim
   ·exact h.elim
  case call c=>
   obtain⟨aA,args,G⟩:=c;simp only at h;split at h
   ·exact gen h
   ·rename_i f;unfold HV at h;split at h
    ·rename_i fn first cap H
     split at h
     ·rename_i he;have j:=ew (P:=P) I he (first++args.map ρ++cap) w;have:(execOp ρ {dst:=dst,op:=.call {callee:=.value f,args:=args,argTypes:=G},type:=type,pos:=pos,after:=after,guard:=guard}).run P w=.ok (.enter fn (first++args.map ρ++cap)) w:=by
       simp only[execOp,resolve,H,Deferred.ofValue];rw[Sem.run_bind];exact j
      rw[this];exact Calls.mono h λe d he=>pB he
     ·exact h.elim
    ·rename_i l first _ H
     cases Y with
     |false=>exact h.elim
     | true=>
      obtain⟨fn,tmps,assign,body,z,V⟩:=h;have:(execOp ρ {dst:=dst,op:=.call {callee:=.value f,args:=args,argTypes:=G},type:=type,pos:=pos,after:=after,guard:=guard}).run P w=.ok (.round l fn tmps assign body) w:=by
       simp only[execOp,resolve,H,Deferred.ofValue];rw[Sem.run_bind];exact z
      rw[this];exact⟨rfl,V.mono λe d he=>pB he⟩
    ·exact h.elim
   ·rename_i x name;obtain⟨t,u,W,X,hm,he,h⟩:=h;have j:=ew (P:=P) I he (#[u]++args.map ρ) w;have Z:(#[ρ x]++args.map ρ).extract 1 (#[ρ x]++args.map ρ).size=args.map ρ:=by
     apply Array.ext';simp;exact List.take_of_length_le (by simp)
    have b:(execOp ρ {dst:=dst,op:=.call {callee:=.invoke x name,args:=args,argTypes:=G},type:=type,pos:=pos,after:=after,guard:=guard}).run P w=.ok (.enter W (#[u]++args.map ρ)) w:=by
     simp only[execOp,resolve];rw[Sem.run_bind];show(invoke (.fn (.method name) #[]) (#[ρ x]++args.map ρ)).run P w=_;have e0:(#[ρ x]++args.map ρ)[0]? =some (.iface t u):=by rw[X,Array.getElem?_append_left (by simp)];rfl
     simp only[invoke,e0,Z];simp only[callMethod];rw[Sem.run_bind];have s:(program:Sem Program).run P w=.ok P w:=rfl;rw[s];change Sem.run P (method (P.types.size+Made.depth) t u name>>=λp=>callFunc p.1 (#[p.2]++Array.map ρ args)) w=_;rw[Sem.run_bind,wg hm];exact j
    rw[b];exact Calls.mono h λe d he=>pB he
end
attribute [irreducible] split ai nz fY one?
end Go.Proofs.YtoghdgcmhbanbaaGreatDoor.V
end
section
namespace Go.Proofs.YtoghdgcmhbanbaaGreatDoor.V
open Go Go.RowKit
open Go.IntKind (i64 u32 u64 wrap_i64 wrap_u32)
def gI(ops:Array Oper)(o:Oper)(fr:Fr)(yes no:Fr->Prop):Prop:=
 match o.guard with
 |none=>yes fr
 | some (j,want)=>match (ops[j]?).bind (·.dst)with
  | some d=>match lk fr.g d fr.e with
   | .bool b=>split b
    (match want with
     |true=>yes ⟨(d,.bool true)::fr.e,fr.g,fr.ds⟩
     |false=>no ⟨(d,.bool true)::fr.e,fr.g,fr.ds⟩)
    (match want with
     |true=>no ⟨(d,.bool false)::fr.e,fr.g,fr.ds⟩
     |false=>yes ⟨(d,.bool false)::fr.e,fr.g,fr.ds⟩)
   |.tuple _=>no fr
   |_=>False
  |none=>False
abbrev OpT:=Oper->(Operand->Value)->World->aK->Prop
def Gk(M:OpT)(n:Nat)(N:List Nat)(ops:Array Oper)(K:Fr->World->Prop):List Oper->Fr->World->Prop
 | [],fr,w=>K fr w
 | o::rest,fr,w=>gI ops o fr
  (λfr=>M o (ev fr) w (λv c=>jl n N fr o.dst v λb=>Gk M n N ops K rest b c))
  (λfr=>jl n N fr o.dst undef λb=>Gk M n N ops K rest b w)
abbrev vcL(P:Program)(C:List Nat)(n:Nat)(N:List Nat)(ops:Array Oper)(Qp:Option (List PanicEntry->World->Prop))(K:Fr->World->Prop):List Oper->Fr->World->Prop:=
 Gk (λo ρ w K=>opM P C true o ρ w K Qp) n N ops K
section
variable {P:Program}{C:List Nat}{n:Nat}{N:List Nat}{r:Option Nat}{ops:Array Oper}{fr:Fr}{a:Act}{w:World}
theorem DK {d:Nat}{v:Value}(b:Rep n fr a)(h:lk fr.g d fr.e=v):Rep n ⟨(d,v)::fr.e,fr.g,fr.ds⟩ a:=by
 refine⟨b.size,λi=>?_,b.defers⟩;simp only[lk];split
 ·rename_i hi;obtain rfl:i=d:=Nat.eq_of_beq_eq_true hi;rw[b.get,h]
 ·exact b.get i
theorem j7 {o:Oper}{yes no:Fr->Prop}(e:Rep n fr a)(h:gI ops o fr yes no):
 ∃i,Rep n i a/\((Region.wanted o (yielded ops a.tmps)=true/\yes i)\/(Region.wanted o (yielded ops a.tmps)=false/\no i)):=by
 unfold gI at h;unfold Region.wanted;split at h
 ·rename_i k;exact⟨fr,e,.inl ⟨by rw[k],h⟩⟩
 ·rename_i j want k;rw[k];split at h
  ·rename_i d hd;split at h
   ·rename_i b f;have l:yielded ops a.tmps j=some b:=by
     unfold yielded;rw[hd];have c:a.tmps.getD d undef=.bool b:=by rw[e.get,f]
     have:a.tmps[d]? =some (.bool b):=by
      rw[Array.getD_eq_getD_getElem?]at c;cases he:a.tmps[d]? with
      |none=>rw[he]at c;simp[undef]at c
      |some u=>rw[he]at c;simp at c;rw[c]
     simp[this]
    simp only[l];rcases fT h with⟨rfl,g⟩|⟨rfl,g⟩
    ·refine⟨_,DK e f,?_⟩;cases want
     ·exact .inr ⟨rfl,g⟩
     ·exact .inl ⟨rfl,g⟩
    ·refine⟨_,DK e f,?_⟩;cases want
     ·exact .inl ⟨rfl,g⟩
     ·exact .inr ⟨rfl,g⟩
   ·rename_i us f;have l:yielded ops a.tmps j=none:=by
     unfold yielded;rw[hd];have c:a.tmps.getD d undef=.tuple us:=by rw[e.get,f]
     rw[Array.getD_eq_getD_getElem?]at c;cases he:a.tmps[d]? with
     |none=>simp[he]
     |some u=>rw[he]at c;simp at c;rw[c]at he;simp[he]
    exact⟨fr,e,.inr ⟨by simp[l],h⟩⟩
   ·exact h.elim
  ·exact h.elim
abbrev QF:=Exit->Fr->World->Prop
def Real(n:Nat)(ws:List Nat)(a0:Act)(Qp:Option (List PanicEntry->World->Prop))(Q:QF):Exit->Act->World->Prop
 |.panic ch,a,w=>QpP Qp ch w/\Agr ws a0 a
 |.outgrown,_,_=>False
 |x,a,w=>∃fr,Rep n fr a/\Q x fr w/\Agr ws a0 a
theorem Rep.Az(fr:Fr)(v:Value):ev fr (.const v)=v:=rfl
def WF(r:Option Nat):Fence:= {Fence.wide with round:=r}
theorem uj {P:Program}{f:FuncId}{args:Array Value}{w:World}{R:Ending->World->Prop}(h:Calls P f args w R):CallsIn (WF r) 0 P f args w R:=
 (callsIn_wide (n:=0)).2 h
theorem Kb {P:Program}{row:String}{args:Array Value}{w:World}{R:Value->World->Prop}(h:Rows P row args w R):RowsIn (WF r) 0 P row args w R:=λc cs _=>
 let ⟨v,b,d,e⟩:=h c cs
 ⟨v,b,d,stepsIn_wide.2 e⟩
def fl(o:Oper):Bool:=
 match o.op with
 |.defer _=>false
 |_=>true
theorem my {o:Oper}(h:fl o=true):∀c,o.op≠ .defer c:=by
 intro c b;unfold fl at h;rw[b]at h;cases h
theorem zS {Y:Bool}{o:Oper}{ρ:Operand->Value}{K:aK}{Qp:Option (List PanicEntry->World->Prop)}(h:opM P C Y o ρ w K Qp):fl o=true:=by
 obtain⟨dst,op,type,pos,after,guard⟩:=o;cases op<;>first|rfl|exact h.elim
def opW(P:Program)(Y:Bool)(Qp:Option (List PanicEntry->World->Prop))(o:Oper)(ρ:Operand->Value)(w:World)(K:aK):Prop:=fl o=true/\Out P Y K (QpP Qp) ((execOp ρ o).run P w)
theorem DU {Y:Bool}{o:Oper}{K:aK}{Qp:Option (List PanicEntry->World->Prop)}(b:eI P C=true)(h:opM P C Y o (ev fr) w K Qp):opW P Y Qp o (ev fr) w K:=
 ⟨zS h,Jp b (Rep.Az fr) h⟩
theorem Mx {o:Oper}{K:Fr->World->Prop}{next:Act->World->Prop}{Q:Exit->Act->World->Prop}{Qp:Option (List PanicEntry->World->Prop)}{ws:List Nat}{a0:Act}(j:Rep n fr a)(l:Agr ws a0 a)
 (hd:∀d,o.dst=some d->d∈ws)
 (h:opW P false Qp o (ev fr) w (λv b=>jl n N fr o.dst v λg=>K g b))
 (m:∀g a' b,Rep n g a'->Agr ws a0 a'->K g b->next a' b)(k:∀ch b,QpP Qp ch b->Q (.panic ch) a b):o.wp P a w next Q:=by
 have c:=h.2;rw[<-j.eval]at c;unfold Oper.wp;have key:∀v b,(jl n N fr o.dst v λg=>K g b)->next (a.put o.dst v) b:=by
  intro v b i;obtain⟨g,p,q⟩:=gn j i;exact m _ _ _ p (l.trans (Agr.put a o.dst v hd)) q
 generalize (execOp a.eval o).run P w=r at c;cases r with
 | ok s b=>
  cases s<;>simp only[Out,Bool.false_eq_true,false_and]at c<;>simp only[Oper.upon]
  case value v=>exact key _ _ c
  case skip=>exact key _ _ c
  case enter f args=>
   refine c.mono λe t he=>?_;rcases he with⟨v,rfl,i⟩|⟨ch,rfl,i⟩
   ·exact key _ _ i
   ·exact k _ _ i
 | halt x b=>
  cases x<;>simp only[Out]at c<;>simp only[Oper.upon]
  exact k _ _ c
theorem DS {o:Oper}{K:Fr->World->Prop}{next:Act->World->Prop}{Q:Exit->Act->World->Prop}{Qp:Option (List PanicEntry->World->Prop)}{ws:List Nat}{a0:Act}(k:Rep n fr a)(p:Agr ws a0 a)
 (hd:∀d,o.dst=some d->d∈ws)
 (h:opW P true Qp o (ev fr) w (λv b=>jl n N fr o.dst v λi=>K i b))
 (q:∀i a' b,Rep n i a'->Agr ws a0 a'->K i b->next a' b)(j:∀ch b,QpP Qp ch b->Q (.panic ch) a b):o.wpIn (WF r) 0 P a w next Q:=by
 have s:=h.1;have c:=h.2;rw[<-k.eval]at c;have key:∀v b,(jl n N fr o.dst v λi=>K i b)->next (a.put o.dst v) b:=by
  intro v b g;obtain⟨i,t,u⟩:=gn k g;exact q _ _ _ t (p.trans (Agr.put a o.dst v hd)) u
 refine⟨λ_ _=>trivial,?_⟩;rw[Oper.semAt_eq _ _ _ (my s)];have m:((WF r).depth.isSome=true->1<=0):=by intro h;cases h
 generalize (execOp a.eval o).run P w=y at c;cases y with
 | ok z b=>
  cases z<;>simp only[Out]at c<;>simp only[Oper.uponIn]
  case value v=>exact key _ _ c
  case skip=>exact key _ _ c
  case enter f args=>
   refine⟨m,uj (c.mono λe A he=>?_)⟩;rcases he with⟨v,rfl,g⟩|⟨ch,rfl,g⟩
   ·exact key _ _ g
   ·exact j _ _ g
  case round l f tmps assign body=>
   refine⟨m,?_⟩;refine RoundIn.mono (F:=WF r) (show RoundIn (WF r) 0 P l f tmps assign body b _ from c.2) λe A he=>?_;rcases he with⟨v,rfl,g⟩|⟨ch,rfl,g⟩
   ·exact key _ _ g
   ·exact j _ _ g
 | halt x b=>
  cases x<;>simp only[Out]at c<;>simp only[Oper.uponIn]
  exact j _ _ c
theorem kg {o:Oper}{ρ:Operand->Value}:∀f,o.about P w ρ=some f->(WF r).fn f:=λ_ _=>trivial
theorem mM {Qp:Option (List PanicEntry->World->Prop)}{M:OpT}{K:Fr->World->Prop}{ws:List Nat}{a0:Act}(e:∀o fr w K,M o (ev fr) w K->opW P true Qp o (ev fr) w K):
 ∀(l:List Oper),(∀o∈l,∀d,o.dst=some d->d∈ws)->∀(fr:Fr)(a:Act)(w:World),Rep n fr a->Agr ws a0 a->Gk M n N ops K l fr w->
  wpListIn (WF r) 0 P ops (Real n ws a0 Qp (λx fr w=>match x with|.normal=>K fr w|_=>False)) l a w
 | [],_,fr,a,w,f,b,h=>⟨fr,f,h,b⟩
 | o::rest,hd,fr,a,w,f,b,h=>by
  obtain⟨p,q,c⟩:=j7 f h;simp only[wpListIn];rcases c with⟨hw,c⟩|⟨hw,c⟩
  ·rw[if_pos hw];refine DS (K:=λp s=>Gk M n N ops K rest p s) q b (hd o (List.mem_cons_self ..)) (e _ _ _ _ c) ?_ ?_
   ·intro g t w2 i j u;exact mM e rest (λk m=>hd k (List.mem_cons_of_mem _ m)) g t w2 i j u
   ·intro ch s hq;exact⟨hq,b⟩
  ·rw[if_neg (by rw[hw];simp)];obtain⟨g,i,j⟩:=gn q c;exact⟨kg,mM e rest (λk m=>hd k (List.mem_cons_of_mem _ m)) g _ w i (b.trans (Agr.put a o.dst undef (hd o (List.mem_cons_self ..)))) j⟩
theorem EE {Qp:Option (List PanicEntry->World->Prop)}{K:Fr->World->Prop}{ws:List Nat}{a0:Act}(b:eI P C=true)
 (l:List Oper)(hd:∀o∈l,∀d,o.dst=some d->d∈ws)(fr:Fr)(a:Act)(w:World)(c:Rep n fr a)(e:Agr ws a0 a)(h:vcL P C n N ops Qp K l fr w):
  wpListIn (WF r) 0 P ops (Real n ws a0 Qp (λx fr w=>match x with|.normal=>K fr w|_=>False)) l a w:=
 mM (λ_ _ _ _ h=>DU b h) l hd fr a w c e h
theorem dX {Q:Exit->Act->World->Prop}(b:¬LetsOut Q)(c:∀o∈ops,fl o=true):∀(l:List Nat)(a:Act)(w:World),wpOps P ops Q l a w->wpOpsIn (WF r) 0 P ops Q l a w
 | [],_,_,h=>h
 | i::rest,a,w,h=>by
  simp only[wpOps]at h;simp only[wpOpsIn];cases g:ops[i]? with
  | none=>
   simp only[g]at h;exact dX b c rest a w h
  | some o=>
   simp only[g]at h;have k:o∈ops:=Array.mem_of_getElem? g;simp only;split
   ·rename_i hw;rw[if_pos hw]at h;rcases h with h|⟨_,h⟩
    ·refine⟨kg,?_⟩;rw[Oper.semAt_eq _ _ _ (my (c o k))];unfold Oper.wp at h;have j:((WF r).depth.isSome=true->1<=0):=by intro h;cases h
     generalize (execOp a.eval o).run P w=m at h;cases m with
     | ok p q=>
      cases p<;>simp only[Oper.upon]at h<;>simp only[Oper.uponIn]
      case value v=>exact dX b c rest _ _ h
      case skip=>exact dX b c rest _ _ h
      case defer d=>exact dX b c rest _ _ h
      case enter f args=>
       refine⟨j,uj (h.mono λe s he=>?_)⟩;cases e with
       |returned v=>exact dX b c rest _ _ he
       |panicked ch=>exact he
       |outgrown=>exact he
      case row row args=>exact⟨j,Kb (h.mono λv s he=>dX b c rest _ _ he)⟩
     | halt x q=>
      cases x<;>simp only[Oper.upon]at h<;>simp only[Oper.uponIn]
      exact h
    ·exact absurd h b
   ·rename_i hw;rw[if_neg hw]at h;exact⟨kg,dX b c rest _ _ h⟩
end
def wF(ops:Array Oper):Nat->Nat->Nat->Bool
 |0,_,_=>false
 | fuel+1,j,k=>match ops[j]? with
  |some o=>o.after.toList.any λe=>Region.binds .any e && (Nat.beq e.on k || wF ops fuel e.on k)
  |none=>false
def behind(ops:Array Oper)(listed:Array Bool)(j:Nat):List Nat:=
 (List.range ops.size).filter λi=>listed.getD i false && !(Nat.beq i j) && !(wF ops 3 j i)
def gL(ops:Array Oper)(listed:Array Bool):Prop:=∀(k:Nat)(o:Oper),ops[k]? =some o->listed.getD k false=true->∀e∈o.after,Region.binds .any e=true->listed.getD e.on false=true
theorem wB {ops:Array Oper}{listed:Array Bool}(b:gL ops listed):∀(fuel j k:Nat),wF ops fuel j k=true->
 (∀o,ops[j]? =some o->∀e∈o.after,Region.binds .any e=true->listed.getD e.on false=true)->listed.getD k false=true
 |0,_,_,h,_=>by cases h
 | fuel+1,j,k,h,d=>by
  simp only[wF]at h;split at h
  ·rename_i o f;simp only[List.any_eq_true,Bool.and_eq_true,Bool.or_eq_true]at h;obtain⟨e,he,g,h⟩:=h;have c:=d o f e (Array.mem_toList_iff.1 he) g;rcases h with h|h
   ·rw[<-Nat.eq_of_beq_eq_true h];exact c
   ·exact wB b fuel e.on k h λi l=>b e.on i l c
  ·cases h
theorem gL.none(ops:Array Oper)(n:Nat):gL ops (Array.replicate n false):=λk o _ h=>by
 rw[Array.getD_eq_getD_getElem?,Array.getElem?_replicate]at h;split at h<;>cases h
theorem gL.set {ops:Array Oper}{listed:Array Bool}{j:Nat}(g:gL ops listed)(h:j∈Region.ready .any ops listed):gL ops (listed.setIfInBounds j true):=by
 intro k o b c e he d;obtain⟨_,m,i,l⟩:=mem_ready.1 h;by_cases f:j=k
 ·subst f;rw[i]at b;injection b with b
  subst b;exact getD_set_true (l e he d)
 ·rw[getD_set_ne false f]at c;exact getD_set_true (g k o b c e he d)
section
variable {P:Program}{ops:Array Oper}{Q:Exit->Act->World->Prop}{S:World->Prop}
def ib(C:Nat->World->World->Prop)(i:Nat)(R:World->World->Prop):Nat->World->World->Prop:=
 λk=>if k=i then R else C k
theorem EI(C:Nat->World->World->Prop){i j:Nat}(R b:World->World->Prop)(h:i≠j):ib (ib C i R) j b=ib (ib C j b) i R:=by
 funext k;unfold ib;by_cases c:k=i<;>by_cases d:k=j
 ·omega
 ·simp[c,h]
 ·simp[d,Ne.symm h]
 ·simp[c,d]
def eK(P:Program)(ops:Array Oper)(Q:Exit->Act->World->Prop):Nat->(Nat->World->World->Prop)->Array Bool->Act->World->Prop
 |0,_,listed,a,w=>Region.ready .any ops listed= []/\Q .normal a w
 | fuel+1,C,listed,a,w=>
  (Region.ready .any ops listed= []->Q .normal a w)/\∀j∈Region.ready .any ops listed,wpOp P ops Q j (λa' b=>(∀i∈behind ops listed j,C i w b)/\eK P ops Q fuel (ib C j λ_ _=>True) (listed.setIfInBounds j true) a' b) a w
theorem so:∀(fuel:Nat)(C:Nat->World->World->Prop)(listed:Array Bool)(a:Act)(w:World),eK P ops Q fuel C listed a w->wpAny P .any ops Q fuel listed a w
 |0,_,_,_,_,h=>h
 |fuel+1,_,_,_,_,h=>⟨h.1,λi hi=>wpOp_mono (λa' b c=>so fuel _ _ a' b c.2) (h.2 i hi)⟩
theorem xt {i:Nat}{p:Oper}{v:Value}{R:World->World->Prop}(hR:∀x y z,R x y->R y z->R x z)(O:∀x,R x x)(hi:ops[i]? =some p)(T:∀(j:Nat)(o:Oper) cs b,ops[j]? =some o->o.op≠ .select cs b)
 (hQ:∀c a w,Q (.panic c) (a.put p.dst v) w->Q (.panic c) a w):
 ∀(fuel:Nat)(C:Nat->World->World->Prop)(listed:Array Bool)(a:Act)(w:World),
  (∀k x,listed.getD k false=true->C k x x)->
  (∀j q,ops[j]? =some q->j≠i->listed.getD j true=false->(∀e∈q.after,Region.binds .any e=true->e.on≠i)->p.apart ops q=true)->
  gL ops listed->i∈Region.ready .any ops listed->YieldsIf P ops (λx=>R w x) p v a->
  eK P ops Q fuel (ib C i R) (listed.setIfInBounds i true) (a.put p.dst v) w->eK P ops Q (fuel+1) C listed a w:=by
 have key:∀(fuel:Nat)(C:Nat->World->World->Prop)(listed:Array Bool)(a:Act)(w:World),(∀k x,listed.getD k false=true->C k x x)->i∈Region.ready .any ops listed->
  eK P ops Q fuel (ib C i R) (listed.setIfInBounds i true) a w->(∀k∈behind ops listed i,C k w w)/\eK P ops Q fuel (ib C i λ_ _=>True) (listed.setIfInBounds i true) a w:=by
  intro fuel C listed a w hrefl g H;refine⟨λk d=>?_,?_⟩
  ·unfold behind at d;simp only[List.mem_filter,Bool.and_eq_true]at d;exact hrefl k w d.2.1.1
  ·have aC:∀(fuel:Nat)(C D:Nat->World->World->Prop)(listed:Array Bool)(a:Act)(w:World),(∀k x y,C k x y->D k x y)->eK P ops Q fuel C listed a w->eK P ops Q fuel D listed a w:=by
    intro fuel
    induction fuel with
    |zero=>intro C D listed a w _ h;exact h
    | succ fuel K=>
     intro C D listed a w U h;refine⟨h.1,λj s=>wpOp_mono (λa' E f=>⟨λk d=>U k _ _ (f.1 k d),K _ _ _ a' E (λk x y m=>?_) f.2⟩) (h.2 j s)⟩;unfold ib at m ⊢;split
     ·trivial
     ·rename_i B;rw[if_neg B]at m;exact U k x y m
   refine aC fuel _ _ _ a w (λk x y m=>?_) H;unfold ib at m ⊢;split
   ·trivial
   ·rename_i B;rw[if_neg B]at m;exact m
 intro fuel
 induction fuel with
 | zero=>
  intro C listed a w hrefl _ L g G H;refine⟨λh=>(by rw[h]at g;cases g),λj s=>?_⟩;by_cases l:j=i
  ·subst l;exact G.wpOp hi (O w) (key 0 C listed _ w hrefl g H)
  ·have:=ready_mono s l;rw[H.1]at this;cases this
 | succ fuel K=>
  intro C listed a w hrefl V L g G H;refine⟨λh=>(by rw[h]at g;cases g),λj s=>?_⟩;by_cases l:j=i
  ·subst l;exact G.wpOp hi (O w) (key (fuel+1) C listed _ w hrefl g H)
  ·have t:=H.2 j (ready_mono s l);obtain⟨W,q,I,X⟩:=mem_ready.1 s;have u:=(mem_ready.1 g).1;have aN:∀e∈q.after,Region.binds .any e=true->e.on≠i:=λe he M heq=>by
    have t:=X e he M;have Y:=u;rw[heq]at t;rcases Nat.lt_or_ge i listed.size with f|f
    ·simp[f]at Y t;rw[Y]at t;cases t
    ·simp[Array.getElem?_eq_none f]at t
   have a0:wF ops 3 j i=false:=by
    cases hd:wF ops 3 j i with
    |false=>rfl
    | true=>
     have A:=wB L 3 j i hd λo J=>by rw[I]at J;injection J with J;subst J;exact X
     rcases Nat.lt_or_ge i listed.size with f|f
     ·simp[f]at u A;rw[u]at A;cases A
     ·simp[Array.getElem?_eq_none f]at A
   have Z:i<listed.size:=by
    rcases Nat.lt_or_ge i listed.size with f|f
    ·exact f
    ·simp[Array.getElem?_eq_none f]at u
   have a1:i∈behind ops (listed.setIfInBounds i true) j:=by
    unfold behind;simp only[List.mem_filter,List.mem_range,Bool.and_eq_true,Bool.not_eq_true'];refine⟨(Array.getElem?_eq_some_iff.1 hi).1,⟨?_,?_⟩,a0⟩
    ·simp[Z]
    ·cases M:Nat.beq i j with
     |false=>rfl
     |true=>exact absurd (Nat.eq_of_beq_eq_true M).symm l
   have a2:∀k∈behind ops listed j,k∈behind ops (listed.setIfInBounds i true) j:=λk d=>by
    unfold behind at d ⊢;simp only[List.mem_filter,Bool.and_eq_true]at d ⊢;exact⟨d.1,⟨getD_set_true d.2.1.1,d.2.1.2⟩,d.2.2⟩
   have a3:∀k∈behind ops listed j,k≠i:=λk d e=>by
    unfold behind at d;simp only[List.mem_filter,Bool.and_eq_true]at d;subst e;have:=d.2.1.1;simp[Z]at u this;rw[u]at this;cases this
   have h2:=wpOp_putIf I (V j q I l W aN) (λcs b=>T i p cs b hi) (λcs b=>T j q cs b I) hQ G t;have a4:∀k ok,ops[k]? =some ok->k≠i->(listed.setIfInBounds j true).getD k true=false->
    (∀e∈ok.after,Region.binds .any e=true->e.on≠i)->p.apart ops ok=true:=λk ok d a5 an a6=>by
    refine V k ok d a5 ?_ a6;by_cases az:j=k
    ·subst az;exact W
    ·rw[getD_set_ne true az]at an;exact an
   refine wpOp_mono (λa' E A=>?_) h2;obtain⟨a7,aA,a8⟩:=A;have a9:R w E:=by have:=aA i a1;unfold ib at this;rwa[if_pos rfl]at this
   refine⟨λk d=>?_,K (ib C j λ_ _=>True) (listed.setIfInBounds j true) a' E (λk x d=>?_) a4 (L.set s) (ready_mono g (Ne.symm l)) ?_ ?_⟩
   ·have:=aA k (a2 k d);unfold ib at this
    rwa[if_neg (a3 k d)]at this
   ·unfold ib;split
    ·trivial
    ·rename_i B;rw[getD_set_ne false (Ne.symm B)]at d;exact hrefl k x d
   ·exact a7.imp (fun⟨h5,h6⟩=>⟨h5,λx m=>h6 x (hR _ _ _ a9 m)⟩) id
   ·rw[EI _ _ _ l,Array.setIfInBounds_comm _ _ l];exact a8
theorem pW {i:Nat}{b:Oper}{v:Value}{R:World->World->Prop}{fuel:Nat}{C:Nat->World->World->Prop}{listed:Array Bool}{a:Act}{w:World}(d:∀x y z,R x y->R y z->R x z)(e:∀x,R x x)(hrefl:∀k x,listed.getD k false=true->C k x x)(hi:ops[i]? =some b)
 (f:Region.noSelect ops=true)(g:Region.free .any ops listed i=true)(j:gL ops listed)(l:(Region.ready .any ops listed).contains i=true)
 (m:∀c a w,Q (.panic c) (a.put b.dst v) w->Q (.panic c) a w)(p:YieldsIf P ops (λx=>R w x) b v a)
 (h:eK P ops Q fuel (ib C i R) (listed.setIfInBounds i true) (a.put b.dst v) w):eK P ops Q (fuel+1) C listed a w:=
 xt d e hi (Region.noSelect_spec f) m fuel C listed a w hrefl (Region.free_spec hi g) j (by simpa using l) p h
theorem B6 {rs:List Nat}{fuel:Nat}{C:Nat->World->World->Prop}{listed:Array Bool}{a:Act}{w:World}(b:Region.ready .any ops listed=rs)(d:rs≠ [])
 (h:∀j∈rs,wpOp P ops Q j (λa' c=>(∀i∈behind ops listed j,C i w c)/\eK P ops Q fuel (ib C j λ_ _=>True) (listed.setIfInBounds j true) a' c) a w):eK P ops Q (fuel+1) C listed a w:=
 ⟨λe=>absurd (b▸e) d,b▸h⟩
theorem zd {C:Nat->World->World->Prop}{listed:Array Bool}{a:Act}{w:World}(b:Region.ready .any ops listed= [])(h:Q .normal a w):
 ∀fuel,eK P ops Q fuel C listed a w
 |0=>⟨b,h⟩
 |_+1=>⟨λ_=>h,by rw[b];simp⟩
end
def ahead(P:Program)(o:Oper):Bool:=
 match o.op with
 |.move _|.assign _|.pick ..|.load ..|.nilCheck _|.fieldAddr ..|.indexAddr ..|.index ..|.binOp ..|.unOp ..|.slice ..|.build ..|.field ..|.extract ..|.makeInterface ..|.makeFunc ..|.sliceToArrayPointer .. =>true
 | .convert src dst _=>match P.underlying src,P.underlying dst with
  |some (.int _),some (.int _)=>true
  |some (.slice _),some .string=>true
  |_,_=>false
 | .call c=>match c.callee with
  |.builtin .len|.builtin .min|.builtin .max=>true
  |_=>false
 |_=>false
def opS(P:Program)(B:Option (Nat->Prop))(o:Oper)(ρ:Operand->Value)(w:World)(F:Value->Prop):Prop:=
 qk P B o ρ w F<|
 match o.op with
 |.convert src dst x=>∃s:ByteArray,(∀b,Kept (held B w) w b->(convert src dst (ρ x)).run P b=.ok (.string s) b)/\F (.string s)
 |_=>False
def iD(P:Program)(ops:Array Oper)(listed:Array Bool):List Nat->Option Nat
 | []=>none
 | i::r=>match (match ops[i]? with|some o=>ahead P o && Region.free .any ops listed i|none=>false)with
  |true=>some i
  |false=>iD P ops listed r
def CU(F:Nat->Prop):List Nat->Prop
 | []=>True
 | [i]=>F i
 |i::r=>F i/\CU F r
theorem ua {F:Nat->Prop}:∀ {l:List Nat},CU F l->∀i∈l,F i
 | [],_,i,hi=>by cases hi
 | [j],h,i,hi=>by simp at hi;subst hi;exact h
 | j::k::r,h,i,hi=>by
  rcases List.mem_cons.1 hi with rfl|hi
  ·exact h.1
  ·exact ua h.2 i hi
def aX(b:Nat->Nat->Prop):List Nat->Nat->Prop
 | [],_=>False
 | [i],k=>b i k
 |i::r,k=>b i k\/aX b r k
def D3(l:List Nat)(B:Option (Nat->Nat->Prop))(w d:World)(F:Option (Nat->Nat->Prop)->Prop):Prop:=
 match B with
 |none=>False
 | some b=>match l with
  | []=>∃c:Nat->Nat->Prop,(∀i k,b i k->c i k)/\F (some c)
  |l=>Kept (aX b l) w d/\∃c:Nat->Nat->Prop,(∀i k,b i k->c i k)/\F (some c)
abbrev L9:=Option (Nat->Prop)->Oper->(Operand->Value)->World->(Value->Prop)->Prop
def qR(P:Program)(M:OpT)(MS:L9)(n:Nat)(N:List Nat)(ops:Array Oper)(K:Fr->World->Prop):Nat->Option (Nat->Nat->Prop)->Array Bool->Fr->World->Prop
 | 0,_,listed,fr,w=>match Region.ready .any ops listed with
  | []=>K fr w
  |_=>False
 | fuel+1,B,listed,fr,w=>match Region.ready .any ops listed with
  | []=>K fr w
  | i0::r0=>match iD P ops listed (i0::r0)with
   | some i=>match ops[i]? with
    | some o=>gI ops o fr
     (λfr=>MS (B.map λb=>b i) o (ev fr) w λv=>jl n N fr o.dst v λc=>qR P M MS n N ops K fuel B (listed.setIfInBounds i true) c w)
     (λfr=>jl n N fr o.dst undef λc=>qR P M MS n N ops K fuel B (listed.setIfInBounds i true) c w)
    |none=>False
   | none=>CU (λi=>match ops[i]? with
    | some o=>gI ops o fr
     (λfr=>M o (ev fr) w (λv d=>jl n N fr o.dst v λc=>D3 (behind ops listed i) B w d λe=>qR P M MS n N ops K fuel e (listed.setIfInBounds i true) c d))
     (λfr=>jl n N fr o.dst undef λc=>qR P M MS n N ops K fuel B (listed.setIfInBounds i true) c w)
    |none=>False) (i0::r0)
abbrev vcD(P:Program)(C:List Nat)(n:Nat)(N:List Nat)(ops:Array Oper)(Qp:Option (List PanicEntry->World->Prop))(K:Fr->World->Prop):Nat->Option (Nat->Nat->Prop)->Array Bool->Fr->World->Prop:=
 qR P (λo ρ w K=>opM P C false o ρ w K Qp) (λB o ρ w F=>opS P B o ρ w F) n N ops K
section
variable {P:Program}{C:List Nat}{n:Nat}{N:List Nat}{r:Option Nat}{ops:Array Oper}
theorem ln {listed:Array Bool}{i:Nat}:∀ {l:List Nat},iD P ops listed l=some i->i∈l/\Region.free .any ops listed i=true
 | [],h=>by cases h
 | j::r,h=>by
  unfold iD at h;split at h
  ·rename_i b;injection h with h
   subst h;refine⟨List.mem_cons_self ..,?_⟩;split at b
   ·simp only[Bool.and_eq_true]at b;exact b.2
   ·cases b
  ·have:=ln h;exact⟨List.mem_cons_of_mem _ this.1,this.2⟩
theorem Jo {B:Option (Nat->Prop)}{o:Oper}{ρ:Operand->Value}{w:World}{F:Value->Prop}(c:∀v,ρ (.const v)=v)(h:opS P B o ρ w F):
 ∃v,F v/\∀b,Kept (held B w) w b->(execOp ρ o).run P b=.ok (.value v) b:=by
 unfold opS at h;have d:=oY c h;clear h;rcases d with h|h
 ·exact h
 ·split at h
  ·rename_i src dst x e;obtain⟨s,f,g⟩:=h;exact⟨_,g,λb i=>by unfold execOp;rw[e];simp[f b i]⟩
  ·exact h.elim
theorem Bd {b:Nat->Nat->Prop}:∀ {l:List Nat}{i k:Nat},i∈l->b i k->aX b l k
 | [j],i,k,hi,h=>by simp at hi;subst hi;exact h
 | j::m::r,i,k,hi,h=>by
  rcases List.mem_cons.1 hi with rfl|hi
  ·exact .inl h
  ·exact .inr (Bd hi h)
def mG(B:Option (Nat->Nat->Prop))(C:Nat->World->World->Prop)(listed:Array Bool):Prop:=
 match B with
 |none=>∀i,listed.getD i false=true->∀x y,Kept (λk=>k<x.heap.size) x y->C i x y
 |some b=>∀i,listed.getD i false=true->∀x y,Kept (b i) x y->C i x y
theorem mG.refl {B:Option (Nat->Nat->Prop)}{C:Nat->World->World->Prop}{listed:Array Bool}(h:mG B C listed):∀k x,listed.getD k false=true->C k x x:=by
 intro k x c;cases B with
 |none=>exact h k c x x (Kept.refl _ _)
 |some b=>exact h k c x x (Kept.refl _ _)
theorem mG.none(B:Option (Nat->Nat->Prop))(l:Array Bool):mG B (λ_ _ _=>True) l:=by
 cases B<;>exact λ_ _ _ _ _=>trivial
def EY(B:Option (Nat->Prop))(x y:World):Prop:=
 match B with
 |none=>Kept (λk=>k<x.heap.size) x y
 |some b=>Kept b x y
theorem tc(B:Option (Nat->Prop))(x y z:World)(h:EY B x y)(e:EY B y z):EY B x z:=by
 cases B with
 | none=>
  have c:Kept (λk=>k<x.heap.size) x y:=h;have d:Kept (λk=>k<y.heap.size) y z:=e;exact c.trans (d.mono λk f=>Nat.lt_of_lt_of_le f c.size)
 | some b=>
  have c:Kept b x y:=h;have d:Kept b y z:=e;exact c.trans d
theorem vK(B:Option (Nat->Prop))(x:World):EY B x x:=by cases B<;>exact Kept.refl _ _
theorem EX {B:Option (Nat->Prop)}{x y:World}(h:EY B x y):Kept (held B x) x y:=by cases B<;>exact h
theorem sw {Qp:Option (List PanicEntry->World->Prop)}{M:OpT}{MS:L9}{K:Fr->World->Prop}{ws:List Nat}{a0:Act}(hM:∀o fr w K,M o (ev fr) w K->opW P false Qp o (ev fr) w K)
 (aN:∀B o fr w F,MS B o (ev fr) w F->∃v,F v/\∀l,Kept (held B w) w l->(execOp (ev fr) o).run P l=.ok (.value v) l)(X:Region.noSelect ops=true)
 (hd:∀(i:Nat)(o:Oper),ops[i]? =some o->∀d,o.dst=some d->d∈ws):
 ∀(fuel:Nat)(B:Option (Nat->Nat->Prop))(G:Nat->World->World->Prop)(listed:Array Bool)(fr:Fr)(a:Act)(w:World),gL ops listed->mG B G listed->Rep n fr a->Agr ws a0 a->qR P M MS n N ops K fuel B listed fr w->
  eK P ops (Real n ws a0 Qp (λx fr w=>match x with|.normal=>K fr w|_=>False)) fuel G listed a w:=by
 intro fuel
 induction fuel with
 | zero=>
  intro B G listed fr a w t p I u h;simp only[qR]at h;split at h
  ·rename_i q;exact⟨q,fr,I,h,u⟩
  ·exact h.elim
 | succ fuel J=>
  intro B G listed fr a w t p I u h;have Y:∀o:Oper,(∀d,o.dst=some d->d∈ws)->∀v,∀c a w,Real n ws a0 Qp (λx fr w=>match x with|.normal=>K fr w|_=>False) (.panic c) (a.put o.dst v) w->
   Real n ws a0 Qp (λx fr w=>match x with|.normal=>K fr w|_=>False) (.panic c) a w:=by
   intro o hd v c a w h;have Z:=Agr.put a o.dst v hd;exact⟨h.1,λi hi=>(Z.tmps i hi).symm.trans (h.2.tmps i hi),λhi=>(Z.defers hi).symm.trans (h.2.defers hi)⟩
  have an:∀i,mG B (ib G i (EY (B.map λb=>b i))) (listed.setIfInBounds i true):=by
   intro i;cases B with
   | none=>
    intro k e x y f;unfold ib;split
    ·exact f
    ·rename_i E;rw[getD_set_ne false (Ne.symm E)]at e;exact p k e x y f
   | some b=>
    intro k e x y f;unfold ib;split
    ·rename_i he;subst he;exact f
    ·rename_i E;rw[getD_set_ne false (Ne.symm E)]at e;exact p k e x y f
  have L:∀i,mG B (ib G i λ_ _=>True) (listed.setIfInBounds i true):=by
   intro i;cases B with
   | none=>
    intro k e x y f;unfold ib;split
    ·trivial
    ·rename_i E;rw[getD_set_ne false (Ne.symm E)]at e;exact p k e x y f
   | some b=>
    intro k e x y f;unfold ib;split
    ·trivial
    ·rename_i E;rw[getD_set_ne false (Ne.symm E)]at e;exact p k e x y f
  simp only[qR]at h;split at h
  ·rename_i q;exact zd q ⟨fr,I,h,u⟩ _
  ·rename_i i0 r0 q;split at h
   ·rename_i i a1;obtain⟨O,az⟩:=ln a1;split at h
    ·rename_i o j;obtain⟨R,H,g⟩:=j7 I h;have aA:(Region.ready .any ops listed).contains i=true:=by rw[q];simpa using O
     rcases g with⟨hw,g⟩|⟨hw,g⟩
     ·obtain⟨v,e,aC⟩:=aN _ _ _ _ _ g;obtain⟨z,A,D⟩:=gn H e;rw[<-H.eval]at aC;exact pW (tc _) (vK _) p.refl j X az t aA (Y o (hd i o j) v) (.inl ⟨hw,λl hb=>aC l (EX hb)⟩)
       (J _ _ _ z _ w (t.set (by rw[q];exact O)) (an i) A (u.trans (Agr.put a o.dst v (hd i o j))) D)
     ·obtain⟨z,A,D⟩:=gn H g;exact pW (tc _) (vK _) p.refl j X az t aA (Y o (hd i o j) undef) (.inr ⟨hw,rfl⟩)
       (J _ _ _ z _ w (t.set (by rw[q];exact O)) (an i) A (u.trans (Agr.put a o.dst undef (hd i o j))) D)
    ·exact h.elim
   ·refine B6 q (by simp) λi hi=>?_;have T:=ua h i hi;have U:i∈Region.ready .any ops listed:=by rw[q];exact hi
    split at T
    ·rename_i o j;obtain⟨R,H,g⟩:=j7 I T;unfold wpOp;simp only[j];rcases g with⟨hw,g⟩|⟨hw,g⟩
     ·rw[if_pos hw];refine .inl (Mx (Qp:=Qp) (N:=N) (K:=λR l=>D3 (behind ops listed i) B w l λB'=>qR P M MS n N ops K fuel B' (listed.setIfInBounds i true) R l) H u (hd i o j) ?_ ?_ ?_)
      ·exact hM _ _ _ _ g
      ·intro z a2 w2 A D s;cases B with
       |none=>exact s.elim
       | some b=>
        simp only[D3]at s;split at s
        ·rename_i a3;obtain⟨V,W,s⟩:=s;refine⟨λk e=>(by rw[a3]at e;cases e),J (some V) _ _ z a2 w2 (t.set U) ?_ A D s⟩;intro k e x y f;exact L i k e x y (Kept.mono f λm hm=>W k m hm)
        ·obtain⟨a4,V,W,s⟩:=s;refine⟨λk e=>?_,J (some V) _ _ z a2 w2 (t.set U) ?_ A D s⟩
         ·have hl:listed.getD k false=true:=by
           unfold behind at e;simp only[List.mem_filter,Bool.and_eq_true]at e;exact e.2.1.1
          exact p k hl w w2 (a4.mono λm hm=>Bd e hm)
         ·intro k e x y f;exact L i k e x y (Kept.mono f λm hm=>W k m hm)
      ·intro ch l hq;exact⟨hq,u⟩
     ·rw[if_neg (by rw[hw];simp)];obtain⟨z,A,D⟩:=gn H g;exact⟨λk e=>(by
       unfold behind at e;simp only[List.mem_filter,Bool.and_eq_true]at e;exact p.refl k w e.2.1.1),J _ _ _ z _ w (t.set U) (L i) A (u.trans (Agr.put a o.dst undef (hd i o j))) D⟩
    ·exact T.elim
theorem EG {Qp:Option (List PanicEntry->World->Prop)}{K:Fr->World->Prop}{ws:List Nat}{a0:Act}(b:eI P C=true)(c:Region.noSelect ops=true)
 (hd:∀(i:Nat)(o:Oper),ops[i]? =some o->∀d,o.dst=some d->d∈ws)
 (fuel:Nat)(B:Option (Nat->Nat->Prop))(G:Nat->World->World->Prop)(listed:Array Bool)(fr:Fr)(a:Act)(w:World)(e:gL ops listed)(f:mG B G listed)(g:Rep n fr a)(j:Agr ws a0 a)(h:vcD P C n N ops Qp K fuel B listed fr w):
  eK P ops (Real n ws a0 Qp (λx fr w=>match x with|.normal=>K fr w|_=>False)) fuel G listed a w:=
 sw (λ_ _ _ _ h=>DU b h) (λ_ _ fr _ _ h=>Jo (Rep.Az fr) h) c hd fuel B G listed fr a w e f g j h
end
def ShT:Sh->Type->Type
 |.int _,T=>Int->T
 |.bool,T=>Bool->T
 |.str,T=>ByteArray->T
 |.ptr,T=>Option Addr->T
 |.slice,T=>Option Addr->Nat->Nat->T
 |.map,T=>Option Nat->T
 |.val,T=>Value->T
def Iz:List Sh->Type->Type
 | [],T=>T
 |s::l,T=>ShT s (Iz l T)
def IA:Sh2->Type->Type
 |.one s,T=>ShT s T
 |.agg l,T=>Iz l T
 |.row _,T=>Array Value->T
def JT:List (Nat×Sh2)->Type
 | []=>World->Prop
 |(_,s)::r=>IA s (JT r)
def H5 {T:Type}:(s:Sh)->ShT s T->Value->(T->Prop)->Prop
 | .int k,J,v,F=>match v with
  | .int k' x=>match kEq k k' with
   |true=>F (J x)
   |false=>False
  |_=>False
 | .bool,J,v,F=>match v with
  |.bool x=>F (J x)
  |_=>False
 | .str,J,v,F=>match v with
  |.string x=>F (J x)
  |_=>False
 | .ptr,J,v,F=>match v with
  |.pointer x=>F (J x)
  |_=>False
 | .slice,J,v,F=>match v with
  |.slice a n c=>F (J a n c)
  |_=>False
 | .map,J,v,F=>match v with
  |.map x=>F (J x)
  |_=>False
 |.val,J,v,F=>F (J v)
def H4 {T:Type}:(l:List Sh)->Iz l T->List Value->(T->Prop)->Prop
 | [],J,[],F=>F J
 |s::l,J,v::vs,F=>H5 s J v λb=>H4 l b vs F
 |_,_,_,_=>False
def AW {T:Type}:(s:Sh2)->IA s T->Value->(T->Prop)->Prop
 |.one s,J,v,F=>H5 s J v F
 | .agg l,J,v,F=>match v with
  |.agg cs=>H4 l J cs.toList F
  |_=>False
 | .row _,J,v,F=>match v with
  |.agg cs=>F (J cs)
  |_=>False
def EH:(l:List (Nat×Sh2))->JT l->Fr->World->Prop
 | [],J,_,w=>J w
 |(s,sh)::r,J,fr,w=>AW sh J (lk fr.g s fr.e) λb=>EH r b fr w
def Ey {T:Type}:(s:Sh)->ShT s T->(T->Value->Prop)->Prop
 |.int k,J,F=>∀x:Int,F (J x) (.int k x)
 |.bool,J,F=>∀x:Bool,F (J x) (.bool x)
 |.str,J,F=>∀x:ByteArray,F (J x) (.string x)
 |.ptr,J,F=>∀x:Option Addr,F (J x) (.pointer x)
 |.slice,J,F=>∀(a:Option Addr)(n c:Nat),F (J a n c) (.slice a n c)
 |.map,J,F=>∀x:Option Nat,F (J x) (.map x)
 |.val,J,F=>∀x:Value,F (J x) x
def yv {T:Type}:(l:List Sh)->Iz l T->(T->List Value->Prop)->Prop
 | [],J,F=>F J []
 |s::l,J,F=>Ey s J λb v=>yv l b λc vs=>F c (v::vs)
def CT {T:Type}:(s:Sh2)->IA s T->(T->Value->Prop)->Prop
 |.one s,J,F=>Ey s J F
 |.agg l,J,F=>yv l J λb vs=>F b (.agg ⟨vs⟩)
 |.row _,J,F=>∀cs:Array Value,F (J cs) (.agg cs)
def H9:(l:List (Nat×Sh2))->JT l->(List (Nat×Value)->World->Prop)->Prop
 | [],J,F=>∀w,J w->F [] w
 |(s,sh)::r,J,F=>CT sh J λb v=>H9 r b λvs w=>F ((s,v)::vs) w
theorem oz {T:Type}{s:Sh}{J:ShT s T}{v:Value}{F:T->Prop}(h:H5 s J v F):∃c,F c/\∀G:T->Value->Prop,Ey s J G->G c v:=by
 cases s<;>simp only[H5]at h
 case int k=>
  split at h
  ·split at h
   ·rename_i d;obtain rfl:=og d;exact⟨_,h,λG b=>b _⟩
   ·exact h.elim
  ·exact h.elim
 case slice=>
  split at h
  ·exact⟨_,h,λG b=>b _ _ _⟩
  ·exact h.elim
 case val=>exact⟨_,h,λG b=>b _⟩
 all_goals
  split at h
  ·exact⟨_,h,λG b=>b _⟩
  ·exact h.elim
theorem wO {T:Type}:∀ {l:List Sh}{J:Iz l T}{vs:List Value}{F:T->Prop},H4 l J vs F->∃b,F b/\∀G:T->List Value->Prop,yv l J G->G b vs
 | [],J,[],F,h=>⟨_,h,λG d=>d⟩
 | s::l,J,v::vs,F,h=>by
  obtain⟨b,e,f⟩:=oz h;obtain⟨c,g,i⟩:=wO e;exact⟨c,g,λG d=>i (λc vs=>G c (v::vs)) (f (λb v=>yv l b λc vs=>G c (v::vs)) d)⟩
 | [],_,_::_,_,h=>h.elim
 |_::_,_,[],_,h=>h.elim
theorem wP {T:Type}{s:Sh2}{J:IA s T}{v:Value}{F:T->Prop}(h:AW s J v F):∃b,F b/\∀G:T->Value->Prop,CT s J G->G b v:=by
 cases s with
 |one s=>exact oz h
 | agg l=>
  simp only[AW]at h;split at h
  ·obtain⟨b,d,e⟩:=wO h;exact⟨b,d,λG c=>e (λb vs=>G b (.agg ⟨vs⟩)) c⟩
  ·exact h.elim
 | row n=>
  simp only[AW]at h;split at h
  ·exact⟨_,h,λG c=>c _⟩
  ·exact h.elim
theorem sx:∀(l:List (Nat×Sh2))(J:JT l)(fr:Fr)(w:World),EH l J fr w->
 ∃vs:List (Nat×Value),(∀s v,(s,v)∈vs->lk fr.g s fr.e=v)/\∀F,H9 l J F->F vs w
 | [],J,fr,w,h=>⟨[],by simp,λF b=>b w h⟩
 | (s,sh)::r,J,fr,w,h=>by
  obtain⟨c,d,f⟩:=wP h;obtain⟨vs,g,i⟩:=sx r c fr w d;refine⟨(s,lk fr.g s fr.e)::vs,λj k hm=>?_,λF b=>i _ (f (λc v=>H9 r c λvs w=>F ((s,v)::vs) w) b)⟩;rcases List.mem_cons.1 hm with e|hm
  ·cases e;rfl
  ·exact g _ _ hm
def H8:Sh->(Value->Prop)->Prop
 |.int k,F=>∀x:Int,F (.int k x)
 |.bool,F=>∀x:Bool,F (.bool x)
 |.str,F=>∀x:ByteArray,F (.string x)
 |.ptr,F=>∀x:Option Addr,F (.pointer x)
 |.slice,F=>∀(a:Option Addr)(n c:Nat),F (.slice a n c)
 |.map,F=>∀x:Option Nat,F (.map x)
 |.val,F=>∀x:Value,F x
def H7:List Sh->(List Value->Prop)->Prop
 | [],F=>F []
 |s::l,F=>H8 s λv=>H7 l λvs=>F (v::vs)
def KI:Sh2->(Value->Prop)->Prop
 |.one s,F=>H8 s F
 |.agg l,F=>H7 l λvs=>F (.agg ⟨vs⟩)
 |.row _,F=>∀cs:Array Value,F (.agg cs)
def LX:List Sh2->(List Value->Prop)->Prop
 | [],F=>F []
 |s::l,F=>KI s λv=>LX l λvs=>F (v::vs)
theorem wS {s:Sh}{F G:Value->Prop}(h:s.ex F)(b:H8 s G):∃v,F v/\G v:=by
 cases s<;>simp only[Sh.ex]at h
 case slice=>obtain⟨a,n,c,h⟩:=h;exact⟨_,h,b _ _ _⟩
 all_goals obtain⟨x,h⟩:=h;exact⟨_,h,b _⟩
theorem wR:∀ {l:List Sh}{F G:List Value->Prop},exs l F->H7 l G->∃vs,F vs/\G vs
 | [],_,_,h,b=>⟨[],h,b⟩
 | s::l,F,G,h,b=>by
  obtain⟨v,c,d⟩:=wS h b;obtain⟨vs,e,f⟩:=wR c d;exact⟨_,e,f⟩
theorem FC {s:Sh2}{F G:Value->Prop}(h:s.ex F)(b:KI s G):∃v,F v/\G v:=by
 cases s with
 |one s=>exact wS h b
 |agg l=>obtain⟨vs,c,d⟩:=wR h b;exact⟨_,c,d⟩
 |row n=>obtain⟨cs,h⟩:=h;exact⟨_,h,b _⟩
theorem Bf:∀ {l:List Sh2}{F G:List Value->Prop},Ay l F->LX l G->∃vs,F vs/\G vs
 | [],_,_,h,b=>⟨[],h,b⟩
 | s::l,F,G,h,b=>by
  obtain⟨v,c,d⟩:=FC h b;obtain⟨vs,e,f⟩:=Bf c d;exact⟨_,e,f⟩
theorem Ax:∀ {l:List Sh2}{x:List Value},Ay l (λvs=>x=vs)->x.length=l.length:=by
 have key:∀(l:List Sh2)(pre x:List Value),Ay l (λvs=>x=pre++vs)->x.length=pre.length+l.length:=by
  intro l
  induction l with
  |nil=>intro pre x h;have:x=pre++ []:=h;rw[this];simp
  | cons s l b=>
   intro pre x h;obtain⟨v,h⟩:=Sh2.j9 h;have:=b (pre++ [v]) x (by simpa using h);rw[this];simp;omega
 intro l x h;simpa using key l [] x (by simpa using h)
def writes:Code->List Nat
 |.region _ ops _=>ops.toList.filterMap (·.dst)
 |.seq x y=>writes x++writes y
 |.cond _ x y=>writes x++writes y
 |.block _ c=>writes c
 |.loop c=>writes c
 |.scope c=>writes c
 |.rangeFunc _ _ _ _=>[qB]
 |_=>[]
def Ez(ws:List Nat):List Nat->Bool
 | []=>true
 | d::r=>match ws.elem d with
  |true=>Ez ws r
  |false=>false
theorem wU {ws:List Nat}:∀ {l:List Nat},Ez ws l=true->∀d∈l,d∈ws
 | [],_,d,hd=>by cases hd
 | e::r,h,d,hd=>by
  unfold Ez at h;split at h
  ·rename_i he;rcases List.mem_cons.1 hd with rfl|hd
   ·exact List.elem_iff.1 he
   ·exact wU h d hd
  ·cases h
structure Cut where
 live:List (Nat×Sh2)
 wr:List Nat
inductive Ann where
 |leaf
 |node (cut:Option Cut)(l r:Ann)
def Ann.cut:Ann->Option Cut
 |.leaf=>none
 |.node c _ _=>c
def Ann.l:Ann->Ann
 |.leaf=>.leaf
 |.node _ l _=>l
def Ann.r:Ann->Ann
 |.leaf=>.leaf
 |.node _ _ r=>r
def forget(wr:List Nat):List (Nat×Value)->List (Nat×Value)
 | []=>[]
 | (d,v)::r=>match wr.elem d with
  |true=>forget wr r
  |false=>(d,v)::forget wr r
def tR(wr ws:List Nat):Bool:=
 match Ez wr ws with
 |true=>!(wr.elem qB)
 |false=>false
theorem pz {wr ws:List Nat}(h:tR wr ws=true):(∀d∈ws,d∈wr)/\qB ∉ wr:=by
 unfold tR at h;split at h
 ·rename_i b;refine⟨wU b,λhm=>?_⟩;rw[List.elem_iff.2 hm]at h;cases h
 ·cases h
def iL(c:Code)(a:Ann)(Q:QF)(fr:Fr)(F:QF->Prop):Prop:=
 match a.cut with
 |none=>F Q
 | some ⟨live,wr⟩=>match tR wr (writes c)with
  |true=>∃J:JT live,F (λx d b=>match x with|.normal=>EH live J d b|x=>Q x d b)/\∀g:Nat->Value,H9 live J λvs b=>Q .normal ⟨vs++forget wr fr.e,g,fr.ds⟩ b
  |false=>False
def lz(P:Program):List Oper->Bool
 | []=>true
 | o::r=>match ahead P o with
  |true=>lz P r
  |false=>false
def eh(l:List Oper):Bool:=
 match l with
 | []=>true
 | o::r=>match fl o with
  |true=>eh r
  |false=>false
theorem iq:∀ {l:List Oper},eh l=true->∀o∈l,fl o=true
 | [],_,o,b=>by cases b
 | e::r,h,o,b=>by
  unfold eh at h;split at h
  ·rename_i he;rcases List.mem_cons.1 b with rfl|b
   ·exact he
   ·exact iq h o b
  ·cases h
structure Ys where
 n:Nat
 is:Nat->List Value->World->Prop
@[reducible] def Ys.of(xs:List (List Value)):Ys:=⟨xs.length,λi x _=>xs[i]? =some x⟩
def Iter(P:Program)(c:Nat)(cap:Array Value)(xs:Ys)(X:Nat->Prop)(D:Nat->World->Prop):Prop:=(∀i A B,D i A->Kept X A B->D i B)/\∀(l:Nat)(J b:Nat->World->Prop)(W:World),(∀i A B,J i A->Kept (λk=>k<A.heap.size/\¬X k) A B->J i B)->(∀i A B,b i A->Kept (λk=>k<A.heap.size/\¬X k) A B->b i B)->J 0 W->D 0 W->(∀i x A,xs.is i x A->J i A->D i A->YieldAt Fence.wide 0 P l ⟨x⟩ A λe B=>(e=.returned (.bool true)/\J (i+1) B/\Kept X A B)\/(e=.returned (.bool false)/\b (i+1) B/\Kept X A B))->Calls P c (#[.func (.yield l) #[] #[]]++cap) W λe B=>(∃v,e=.returned v)/\((J xs.n B/\D xs.n B)\/∃i,b i B/\D i B)
def Bz(X:Nat->Prop)(l:Nat)(J:Nat->World->Prop):Prop:=∀i A B,J i A->Kept (λk=>k<A.heap.size/\¬X k/\k≠l) A B->J i B
def DN:List Tmp->List Value->List (Nat×Value)->List (Nat×Value)
 |p::b,v::vs,e=>DN b vs ((p,v)::e)
 |_,_,e=>e
def mark(dl:Nat):Deferred:= {target:=.collected dl,args:= #[]}
def tf(b:List Tmp)(n:Nat):Bool:=
 match b with
 | []=>true
 | p::r=>match Nat.blt p n with
  |true=>tf r n
  |false=>false
def vcC(P:Program)(C:List Nat)(n:Nat)(N:List Nat):Bool->Option (List PanicEntry->World->Prop)->Code->Ann->QF->Fr->World->Prop
 |_,_,.skip,_,Q,fr,w=>Q .normal fr w
 |_,Qp,.region id ops false,a,Q,fr,w=>iL (.region id ops false) a Q fr λQ=>vcL P C n N ops Qp (Q .normal) ops.toList fr w
 | _,Qp,.region id ops true,a,Q,fr,w=>iL (.region id ops true) a Q fr λQ=>match Region.noSelect ops,eh ops.toList with
  | true,true=>(match lz P ops.toList with
   |true=>vcD P C n N ops Qp (Q .normal) ops.size none (Array.replicate ops.size false) fr w.drew
   |false=>∃b:Nat->Nat->Prop,vcD P C n N ops Qp (Q .normal) ops.size (some b) (Array.replicate ops.size false) fr w.drew)
  |_,_=>False
 |R,Qp,.seq x y,a,Q,fr,w=>iL (.seq x y) a Q fr λQ=>vcC P C n N R Qp x a.l (λe d f=>match e with|.normal=>vcC P C n N R Qp y a.r Q d f|e=>Q e d f) fr w
 | R,Qp,.cond c x y,a,Q,fr,w=>iL (.cond c x y) a Q fr λQ=>match ev fr c with
  |.bool b=>split b (vcC P C n N R Qp x a.l Q fr w) (vcC P C n N R Qp y a.r Q fr w)
  |_=>False
 | R,Qp,.block id c,a,Q,fr,w=>iL (.block id c) a Q fr λQ=>vcC P C n N R Qp c a.l (λe d f=>match e with
  |.exit u=>(match Nat.beq u id with|true=>Q .normal d f|false=>Q (.exit u) d f)
  |e=>Q e d f) fr w
 | R,Qp,.loop c,a,Q,fr,w=>match a.cut with
  |none=>False
  | some ⟨live,wr⟩=>match tR wr (writes c)with
   | true=>∃I:Nat->JT live,(∃m,EH live (I m) fr w)/\∀(m:Nat)(g:Nat->Value),H9 live (I m) λvs f=>
    vcC P C n N R Qp c a.l (λe d v=>match e with
     |.normal=>∃m',m'<m/\EH live (I m') d v
     |e=>Q e d v) ⟨vs++forget wr fr.e,g,fr.ds⟩ f
   |false=>False
 | false,_,.rangeFunc g p assign body,a,Q,fr,w=>match a.cut with
  |none=>False
  | some ⟨live,ids⟩=>match Nat.beq live.length p.size && tf p.toList n with
   |false=>False
   | true=>∃(q:Nat)(cap:Array Value),ev fr g=.func (.func q) #[] cap/\C.elem q=true/\∀(l dl:Nat)(w1:World),dl=w.heap.size->l=w.heap.size+1->Kept (λk=>k<w.heap.size) w w1->l<w1.heap.size->w1.heap[dl]? =some (.deferred (some []))->∃(xs:Ys)(X:Nat->Prop)(D J s:Nat->World->Prop)(t:Nat->Nat->World->Prop),Iter P q cap xs X D/\(∀k,X k->k<w.heap.size)/\(∀i x A,xs.is i x A->Ay (live.map (·.2)) λvs=>x=vs)/\(Bz X l J/\Bz X l s/\∀id,Bz X l (t id))/\D 0 w1/\J 0 w1/\(∀(i:Nat)(A:World),J i A->D i A->LX (live.map (·.2)) λx=>xs.is i x A->vcC P C n N true none assign a.l (λe z w2=>match e with
        | .normal=>Kept (λk=>X k\/k=l) A w2/\∀j,Kept (λk=>k<w2.heap.size/\k≠l) w2 j->vcC P C n N true none body a.r (λe _ h=>match e with
          |.normal=>Kept (λk=>X k\/k=l) j h/\J (i+1) h
          |.ret=>Kept (λk=>X k\/k=l) j h/\s (i+1) h
          | .exit id=>(match ids.elem id with
           |true=>Kept (λk=>X k\/k=l) j h/\t id (i+1) h
           |false=>False)
          |_=>False) z j
        |_=>False) ⟨DN p.toList x fr.e,fr.g,[]⟩ A)/\(∀W,J xs.n W->D xs.n W->Q .normal ⟨fr.e,fr.g,mark dl::fr.ds⟩ W)/\(∀i W,s i W->D i W->Q .ret ⟨fr.e,fr.g,mark dl::fr.ds⟩ W)/\CU (λid=>∀i W,t id i W->D i W->Q (.exit id) ⟨fr.e,fr.g,mark dl::fr.ds⟩ W) ids
 |_,_,.exit id,_,Q,fr,w=>Q (.exit id) fr w
 |_,_,.ret,_,Q,fr,w=>Q .ret fr w
 |_,_,.label _,_,Q,fr,w=>Q .normal fr w
 | false,Qp,.scope c,a,Q,fr,w=>iL (.scope c) a Q fr λQ=>vcC P C n N false Qp c a.l (λe d f=>match e with
  |.goto _=>False
  |e=>Q e d f) fr w
 |_,_,_,_,_,_,_=>False
section
variable {P:Program}{C:List Nat}{n:Nat}{N:List Nat}{Qp:Option (List PanicEntry->World->Prop)}{r:Option Nat}
theorem wq(g:Nat->Value)(i:Nat):∀(x y:List (Nat×Value)),(∃v,(i,v)∈x/\lk g i (x++y)=v)\/((∀v,(i,v) ∉ x)/\lk g i (x++y)=lk g i y)
 | [],y=>.inr ⟨by simp,rfl⟩
 | (d,v)::r,y=>by
  simp only[List.cons_append,lk];split
  ·rename_i h;obtain rfl:=Nat.eq_of_beq_eq_true h;exact .inl ⟨v,List.mem_cons_self ..,rfl⟩
  ·rename_i h;have b:i≠d:=by rintro rfl;simp at h
   rcases wq g i r y with⟨u,hu,he⟩|⟨hu,he⟩
   ·exact .inl ⟨u,List.mem_cons_of_mem _ hu,he⟩
   ·refine .inr ⟨λu hm=>?_,he⟩;rcases List.mem_cons.1 hm with e|hm
    ·cases e;exact b rfl
    ·exact hu u hm
theorem pq(wr:List Nat)(g b:Nat->Value)(i:Nat):∀(e:List (Nat×Value)),lk b i (forget wr e)=b i\/(i ∉ wr/\lk b i (forget wr e)=lk g i e)
 | []=>.inl rfl
 | (d,v)::r=>by
  simp only[forget];split
  ·rename_i h;rcases pq wr g b i r with c|⟨f,c⟩
   ·exact .inl c
   ·refine .inr ⟨f,?_⟩;simp only[lk];split
    ·rename_i hi;obtain rfl:=Nat.eq_of_beq_eq_true hi;exact absurd (List.elem_iff.1 h) f
    ·exact c
  ·rename_i h;simp only[lk];split
   ·rename_i hi;obtain rfl:=Nat.eq_of_beq_eq_true hi;refine .inr ⟨λhm=>?_,rfl⟩;rw[List.elem_iff.2 hm]at h;cases h
   ·exact pq wr g b i r
theorem xH {fr b:Fr}{a a':Act}{wr:List Nat}{vs:List (Nat×Value)}(d:Rep n fr a)(e:Rep n b a')(f:Agr wr a a')(g:qB ∉ wr)(h:∀s v,(s,v)∈vs->lk b.g s b.e=v):
 Rep n ⟨vs++forget wr fr.e,λi=>a'.tmps.getD i undef,fr.ds⟩ a':=by
 refine⟨e.size,λi=>?_,(f.defers g).trans d.defers⟩;rcases wq (λi=>a'.tmps.getD i undef) i vs (forget wr fr.e)with⟨v,j,he⟩|⟨_,he⟩
 ·show _=lk _ i (vs++forget wr fr.e);rw[he,e.get,h _ _ j]
 ·show _=lk _ i (vs++forget wr fr.e);rw[he];rcases pq wr fr.g (λi=>a'.tmps.getD i undef) i fr.e with c|⟨k,c⟩
  ·rw[c]
  ·rw[c,<-d.get];exact f.tmps i k
theorem Real.mono {ws b:List Nat}{a0 a:Act}{Q c:QF}{x:Exit}{w:World}(h:Real n ws a0 Qp Q x a w)(d:∀i,i∈ws->i∈b)(hq:∀x fr w,Q x fr w->c x fr w):Real n b a0 Qp c x a w:=by
 cases x<;>first|exact h.elim|exact⟨h.1,h.2.mono d⟩|(obtain⟨fr,e,f,g⟩:=h;exact⟨fr,e,hq _ _ _ f,g.mono d⟩)
theorem kQ {ws:List Nat}{a0 a:Act}{Q:QF}{x:Exit}{w:World}(h:Real n ws a0 Qp (λx fr w=>match x with|.normal=>Q .normal fr w|_=>False) x a w):Real n ws a0 Qp Q x a w:=by
 cases x<;>first|exact h|(obtain⟨_,_,h,_⟩:=h;exact h.elim)
theorem nK {F:Fence}{p:Nat}{c:Code}{Q:Exit->Act->World->Prop}(I:Nat->Act->World->Prop)(m:Nat){a:Act}{w:World}(q:I m a w)
 (round:∀m a w,I m a w->c.wpIn F p P (Exit.then (λa' f=>∃m',m'<m/\I m' a' f) Q) a w):(Code.loop c).wpIn F p P Q a w:=by
 intro b k cs s i j;have key:∀n a w,I n a w->
  ∃e a' f,Q e a' f/\ArrivesIn (Machine.fenced P F) P (lone (b.atR a (.code c:: .inLoop c::k)) cs w) b k cs e a' f:=by
  intro n
  induction n using Nat.strongRecOn with
  | _ n t=>
   intro a w u;obtain⟨e,g,h,hq,d⟩:=round n a w u b (.inLoop c::k) cs s i j;cases e with
   | normal=>
    obtain⟨m',v,y⟩:=hq;obtain⟨z,A,B,D,E⟩:=t m' v g h y;exact⟨z,A,B,D,.of_steps (StepsIn.trans d (.one (fenced_calm i j rfl) stepR_inLoop)) E⟩
   |exit id=>exact⟨_,g,h,hq,.pass (x:=.inLoop c) rfl (λ_ _=>.inl (by simp)) d⟩
   |goto l=>exact⟨_,g,h,hq,.pass (x:=.inLoop c) rfl (λ_ _=>.inl (by simp)) d⟩
   |ret=>exact⟨_,g,h,hq,.pass (x:=.inLoop c) rfl (λ_ _=>.inl (by simp)) d⟩
   |panic ch=>exact⟨_,g,h,hq,.pass (x:=.inLoop c) rfl (λ_ _=>.inl (by simp)) d⟩
   |outgrown=>exact⟨_,g,h,hq,.pass (x:=.inLoop c) rfl (λ_ _=>.inl (by simp)) d⟩
 obtain⟨e,a',f,hq,d⟩:=key _ a w q;exact⟨e,a',f,hq,.of_steps (.one (fenced_calm i j rfl) stepR_loop) d⟩
def Sound(P:Program)(n:Nat)(r:Option Nat)(Qp:Option (List PanicEntry->World->Prop))(c:Code)(V:QF->Fr->World->Prop):Prop:=∀(Q:QF)(fr:Fr)(a:Act)(w:World),Rep n fr a->V Q fr w->c.wpIn (WF r) 0 P (Real n (writes c) a Qp Q) a w
theorem gY {c:Code}{i:Ann}{V:QF->Fr->World->Prop}(h:Sound P n r Qp c V):Sound P n r Qp c λQ fr w=>iL c i Q fr λQ=>V Q fr w:=by
 intro Q fr a w d b;simp only[iL]at b;split at b
 ·exact h Q fr a w d b
 ·rename_i live wr v;split at b
  ·rename_i f;obtain⟨f,j⟩:=pz f;obtain⟨J,k,l⟩:=b;refine wpIn_mono (h _ fr a w d k) λe a' m he=>?_;cases e
   case normal=>
    obtain⟨p,q,s,g⟩:=he;obtain⟨vs,t,u⟩:=sx live J p m s;exact⟨_,xH d q (g.mono f) j t,u _ (l _),g⟩
   all_goals exact he
  ·exact b.elim
theorem tv {ops:Array Oper}{id:Nat}{b:Bool}{i:Nat}{o:Oper}(c:ops[i]? =some o){d:Nat}(hd:o.dst=some d):d∈writes (.region id ops b):=by
 refine List.mem_filterMap.2 ⟨o,?_,hd⟩;obtain⟨e,f⟩:=Array.getElem?_eq_some_iff.1 c;rw[<-f];exact Array.mem_toList_iff.2 (Array.getElem_mem e)
theorem js {id:Nat}{ops:Array Oper}{Q:Exit->Act->World->Prop}{G:Nat->World->World->Prop}{a:Act}{w:World}(hm:P.follows .mixedOrders=true)(b:¬LetsOut Q)(c:∀o∈ops,fl o=true)
 (h:eK P ops Q ops.size G (Array.replicate ops.size false) a w.drew):(Code.region id ops true).wpIn (WF r) 0 P Q a w:=
 wpIn_region_draw λt=>dX b c _ _ _ (by
  simp only[Region.schedule,hm,Bool.true_or,if_true];exact wpAny_sound ops.size t _ a _ (so _ _ _ _ _ h))
theorem nV {ws:List Nat}{a0:Act}{Q:QF}:¬LetsOut (Real n ws a0 Qp Q):=fun⟨_,_,h⟩=>h
theorem vO:∀(c:List Tmp)(vs:List Value)(fr:Fr)(a:Act),tf c n=true->Rep n fr a->
 Rep n ⟨DN c vs fr.e,fr.g,[]⟩ {tmps:=(c.zip vs).foldl (λt (p,v)=>t.setIfInBounds p v) a.tmps,defers:= []}
 | [],vs,fr,a,_,b=>⟨b.size,b.get,rfl⟩
 |_::_,[],fr,a,_,b=>⟨b.size,b.get,rfl⟩
 | p::c,v::vs,fr,a,d,b=>by
  simp only[tf]at d;split at d
  ·rename_i e;have i:p<n:=by simpa[Nat.blt_eq]using e
   obtain⟨f,g,h⟩:=gn (N:= []) (dst:=some p) (v:=v) (F:=λf=>f=⟨(p,v)::fr.e,fr.g,fr.ds⟩) b (by simp[jl,e,List.elem]);subst h;exact vO c vs _ _ d g
  ·cases d
theorem Kept.putObj {B:Nat->Prop}(w:World)(l:Nat)(o:Obj)(h:¬B l):Kept B w (w.putObj l o):=
 ⟨rfl,rfl,rfl,by simp,λ_ b=>World.putObj_heap_other (by rintro rfl;exact h b)⟩
theorem Kept.tZ(w:World)(o:Obj):Kept (λk=>k<w.heap.size) w (w.alloc o):=
 Kept.G6 ((Below.refl _ w).alloc (Nat.le_refl _) o)
theorem zD(hC:eI P C=true){g:Operand}{f:Array Tmp}{assign body:Code}{O:Ann}(As:∀l,Sound P n (some l) none assign (vcC P C n N true none assign O.l))(Bo:∀l,Sound P n (some l) none body (vcC P C n N true none body O.r)):
 Sound P n none Qp (.rangeFunc g f assign body) (vcC P C n N false Qp (.rangeFunc g f assign body) O):=by
 intro Q fr a w z s;simp only[vcC]at s;split at s
 ·exact s.elim
 rename_i live ids b4;split at s
 ·exact s.elim
 rename_i hlen;simp only[Bool.and_eq_true]at hlen;obtain⟨hlen,a5⟩:=hlen;have hlen:live.length=f.size:=Nat.eq_of_beq_eq_true hlen;obtain⟨K,cap,hg,a6,s⟩:=s;have hw:(writes (.rangeFunc g f assign body))= [qB]:=rfl;have R:Agr [qB] a {a with defers:=mark w.heap.size::a.defers}:=⟨λ_ _=>rfl,λh=>absurd (List.mem_singleton.2 rfl) h⟩;have T:Rep n ⟨fr.e,fr.g,mark w.heap.size::fr.ds⟩ {a with defers:=mark w.heap.size::a.defers}:=⟨z.size,z.get,by show _::_=_;rw[z.defers]⟩;refine wpIn_rangeFunc λfn b5=>?_;obtain⟨rec,j⟩:∃rec:LoopState->Option Code->Loop,rec=λst pe=> {state:=st,pending:=pe,fn,tmps:=a.tmps,params:=f,assign,body,defers:=w.heap.size}:=⟨_,rfl⟩;obtain⟨b,L⟩:∃b,(w.alloc (.deferred (some []))).alloc (.loop (rec .ready none))=b:=⟨_,rfl⟩;have aA:b.heap[w.heap.size+1]? =some (.loop (rec .ready none)):=by
  rw[<-L];have:=World.alloc_heap_new (w.alloc (.deferred (some []))) (.loop (rec .ready none));rwa[World.size_alloc]at this
 have a7:b.heap[w.heap.size]? =some (.deferred (some [])):=by
  rw[<-L];exact(Below.heap_alloc _ _ _ (by simp)).trans (World.alloc_heap_new w _)
 have a8:Kept (λk=>k<w.heap.size) w b:=by
  rw[<-L];exact(Kept.tZ w _).trans ((Kept.tZ _ _).mono (λk m=>by rw[World.size_alloc];omega))
 obtain⟨xs,X,D,J,Jr,Je,U,hX,a9,⟨V,W,Y⟩,ba,bb,bc,bd,bg,bl⟩:=s _ _ b rfl rfl a8 (Array.getElem?_eq_some_iff.1 aA).1 a7;have y:∀k,X k->k≠w.heap.size+1:=λk m=>by have:=hX k m;omega
 refine⟨w.heap.size+1,[mark w.heap.size],b,{target:=.fn (.func K) cap,args:= #[.func (.yield (w.heap.size+1)) #[] #[]]},b,K,
  #[.func (.yield (w.heap.size+1)) #[] #[]]++cap,b,?_,?_,λ_ _=>trivial,?_,(by intro h;cases h),uj ?_⟩
 ·rw[<-L,j];exact run_enterLoop_outer _ _ _ _ _
 ·have bs:a.eval g=.func (.func K) #[] cap:=by rw[z.eval];exact hg
  simp only[resolve,bs,Deferred.ofValue];simp[Act.eval]
 ·show(callFunc K (#[.func (.yield (w.heap.size+1)) #[] #[]]++cap)).run P b=_;exact ew hC a6 _ _
 have key:=U.2 (w.heap.size+1)
  (λi A=>J i A/\A.heap[w.heap.size+1]? =some (.loop (rec .ready none)))
  (λi A=>∃c,((c=.ret/\Jr i A)\/∃id,c=.exit id/\id∈ids/\Je id i A)/\A.heap[w.heap.size+1]? =some (.loop (rec .done (some c)))) b
  (λi A B h m=>⟨V i A B h.1 (m.mono λk h=>⟨h.1,h.2.1⟩),(m.block _ ⟨(Array.getElem?_eq_some_iff.1 h.2).1,λh=>y _ h rfl⟩).trans h.2⟩)
  (λi A B h m=>by
   obtain⟨c,Z,q⟩:=h;refine⟨c,?_,(m.block _ ⟨(Array.getElem?_eq_some_iff.1 q).1,λh=>y _ h rfl⟩).trans q⟩;rcases Z with⟨e,h⟩|⟨id,e,hm,h⟩
   ·exact .inl ⟨e,W i A B h (m.mono λk h=>⟨h.1,h.2.1⟩)⟩
   ·exact .inr ⟨id,e,hm,Y id i A B h (m.mono λk h=>⟨h.1,h.2.1⟩)⟩)
  ⟨bb,aA⟩ ba ?_
 ·refine key.mono ?_;rintro e B ⟨⟨v,rfl⟩,⟨⟨hj,q⟩,hd⟩|⟨i,⟨c,Z,q⟩,hd⟩⟩
  ·have d:=run_endLoop (P:=P) q (by rw[j];simp);rw[show(rec .ready none).pending=none by rw[j]]at d;refine⟨none,_,d,?_⟩;exact⟨_,T,bd _ (V _ _ _ hj (Kept.putObj _ _ _ (by simp))) (U.1 _ _ _ hd (Kept.putObj _ _ _ (λh=>y _ h rfl))),R⟩
  ·have d:=run_endLoop (P:=P) q (by rw[j];simp);rw[show(rec .done (some c)).pending=some c by rw[j]]at d;refine⟨some c,_,d,?_⟩;have hd':∀o,D i (B.putObj (w.heap.size+1) o):=λo=>U.1 _ _ _ hd (Kept.putObj _ _ _ (λh=>y _ h rfl));rcases Z with⟨rfl,h⟩|⟨id,rfl,hm,h⟩
   ·exact wpIn_ret ⟨_,T,bg _ _ (W _ _ _ h (Kept.putObj _ _ _ (by simp))) (hd' _),R⟩
   ·exact wpIn_exit ⟨_,T,ua bl id hm _ _ (Y id _ _ _ h (Kept.putObj _ _ _ (by simp))) (hd' _),R⟩
 ·rintro i x A hx ⟨hj,q⟩ hd;have aC:=a9 _ _ _ hx;have bA:x.length=f.size:=by rw[Ax aC,List.length_map,hlen]
  obtain⟨vs,rfl,az⟩:=Bf aC (bc i A hj hd);have az:=az hx;have hy:=run_yield (P:=P) (args:=⟨x⟩) q (by rw[j];exact bA);rw[j]at hy;refine⟨fn,_,assign,body,hy,roundIn_of_wpIn (F:=Fence.wide) (n:=0) trivial ?_⟩;have bC:Rep n ⟨DN f.toList x fr.e,fr.g,[]⟩ {tmps:=(f.zip ⟨x⟩).foldl (λt (p,v)=>t.setIfInBounds p v) a.tmps,defers:= []}:=by
   have:=vO f.toList x fr a a5 z
   rwa[<-Array.foldl_toList,Array.toList_zip]
  refine wpIn_mono (F:=WF (some (w.heap.size+1))) (As (w.heap.size+1) _ _ _ A bC az) λe a2 w2 he=>?_;cases e
  case normal=>
   obtain⟨b6,bN,⟨aN,hb⟩,_⟩:=he;have a0:w2.heap[w.heap.size+1]? =some (.loop (rec .ready none)):=(aN.block _ (.inr rfl)).trans q;have b0:=(Array.getElem?_eq_some_iff.1 a0).1;refine⟨_,run_beginRound a0 (by rw[j]),?_⟩;have b1:(w2.putObj (w.heap.size+1) (.loop {rec .ready none with state:=.busy})).heap[w.heap.size+1]? =some (.loop {rec .ready none with state:=.busy}):=World.putObj_heap_same b0;have b2:Kept X w2 (w2.putObj (w.heap.size+1) (.loop {rec .ready none with state:=.busy})):=Kept.putObj _ _ _ (λh=>y _ h rfl);refine wpIn_mono (F:=WF (some (w.heap.size+1))) (Bo (w.heap.size+1) _ _ _ _ bN (hb _ (Kept.putObj _ _ _ (by simp)))) λe a4 E he=>?_;have fin:∀(jump:Option Code),Kept (λk=>X k\/k=w.heap.size+1) (w2.putObj (w.heap.size+1) (.loop {rec .ready none with state:=.busy})) E->
    (Instr.endRound (w.heap.size+1) jump).run P E=.ok (.bool jump.isNone) (E.putObj (w.heap.size+1) (.loop (rec (if jump.isNone then .ready else .done) jump)))/\
    (E.putObj (w.heap.size+1) (.loop (rec (if jump.isNone then .ready else .done) jump))).heap[w.heap.size+1]? =some (.loop (rec (if jump.isNone then .ready else .done) jump))/\
    Kept X A (E.putObj (w.heap.size+1) (.loop (rec (if jump.isNone then .ready else .done) jump))):=by
    intro jump u;have a1:=(u.block _ (.inr rfl)).trans b1;have:=run_endRound (P:=P) jump a1;refine⟨by rw[j]at this ⊢;exact this,World.putObj_heap_same (Array.getElem?_eq_some_iff.1 a1).1,?_⟩;exact(((aN.mono λk h=>.inl h).trans b2).trans (u.mono λk h=>.inl h)).trans (Kept.putObj _ _ _ (λh=>y _ h rfl))
   cases e
   case normal=>
    obtain⟨a3,_,⟨u,G⟩,_⟩:=he;obtain⟨d,H,I⟩:=fin none u;exact⟨_,_,d,.inl ⟨rfl,⟨V _ _ _ G (Kept.putObj _ _ _ (by simp)),H⟩,I⟩⟩
   case ret=>
    obtain⟨a3,_,⟨u,G⟩,_⟩:=he;obtain⟨d,H,I⟩:=fin (some .ret) u;exact⟨_,_,d,.inr ⟨rfl,⟨.ret,.inl ⟨rfl,W _ _ _ G (Kept.putObj _ _ _ (by simp))⟩,H⟩,I⟩⟩
   case exit id=>
    obtain⟨a3,_,M,_⟩:=he;simp only at M;split at M
    ·rename_i b3;obtain⟨u,G⟩:=M;obtain⟨d,H,I⟩:=fin (some (.exit id)) u;exact⟨_,_,d,.inr ⟨rfl,⟨.exit id,.inr ⟨id,rfl,List.elem_iff.1 b3,Y id _ _ _ G (Kept.putObj _ _ _ (by simp))⟩,H⟩,I⟩⟩
    ·exact M.elim
   case goto t=>obtain⟨_,_,h,_⟩:=he;exact h.elim
   case panic ch=>exact he.1.elim
   case outgrown=>exact he.elim
  case panic ch=>exact he.1.elim
  case outgrown=>exact he.elim
  all_goals obtain⟨_,_,h,_⟩:=he;exact h.elim
theorem dM(t:eI P C=true)(hm:P.follows .mixedOrders=true):∀(c:Code)(R:Bool)(Qp:Option (List PanicEntry->World->Prop))(r:Option Nat)(_:R=false->r=none)(k:Ann),Sound P n r Qp c (vcC P C n N R Qp c k)
 |.skip,R,Qp,r,_,k=>λQ fr a w j f=>wpIn_skip ⟨fr,j,f,Agr.refl _ _⟩
 | .region id ops false,R,Qp,r,_,k=>gY (c:=.region id ops false) (V:=λQ fr w=>vcL P C n N ops Qp (Q .normal) ops.toList fr w) λQ fr a w j f=>by
  exact wpIn_mono (wpIn_region_list (EE (ws:=writes (.region id ops false)) (a0:=a) t ops.toList (λo A d hd=>List.mem_filterMap.2 ⟨o,A,hd⟩) fr a w j (Agr.refl _ _) f)) λe a' q he=>kQ he
 | .region id ops true,R,Qp,r,_,k=>gY (c:=.region id ops true) (V:=λQ fr w=>match Region.noSelect ops,eh ops.toList with
  | true,true=>(match lz P ops.toList with
   |true=>vcD P C n N ops Qp (Q .normal) ops.size none (Array.replicate ops.size false) fr w.drew
   |false=>∃b:Nat->Nat->Prop,vcD P C n N ops Qp (Q .normal) ops.size (some b) (Array.replicate ops.size false) fr w.drew)
  |_,_=>False) λQ fr a w j f=>by
  dsimp only at f;split at f
  ·rename_i T U;obtain⟨B,f⟩:∃B,vcD P C n N ops Qp (Q .normal) ops.size B (Array.replicate ops.size false) fr w.drew:=by
    split at f
    ·exact⟨_,f⟩
    ·obtain⟨b,f⟩:=f;exact⟨_,f⟩
   exact wpIn_mono (js hm nV (λo A=>iq U o (Array.mem_toList_iff.2 A)) (EG (ws:=writes (.region id ops true)) (a0:=a) t T (λi o A d hd=>tv A hd) ops.size _ (λ_ _ _=>True) _ fr a w.drew (gL.none _ _) (mG.none _ _) j (Agr.refl _ _) f)) λe a' q he=>kQ he
  ·exact f.elim
 | .seq x y,R,Qp,r,s,k=>gY (c:=.seq x y) (V:=λQ fr w=>vcC P C n N R Qp x k.l (λe p q=>match e with|.normal=>vcC P C n N R Qp y k.r Q p q|e=>Q e p q) fr w) λQ fr a w j f=>by
  refine wpIn_seq (wpIn_mono (dM t hm x R Qp r s k.l _ fr a w j f) λe a' q he=>?_);cases e
  case normal=>
   obtain⟨p,v,z,u⟩:=he;refine wpIn_mono (dM t hm y R Qp r s k.r Q p a' q v z) λe a2 w2 he=>?_;cases e<;>first
    |exact he.elim
    |exact⟨he.1,(u.mono λi hi=>List.mem_append_left _ hi).trans (he.2.mono λi hi=>List.mem_append_right _ hi)⟩
    | (obtain⟨D,E,G,H⟩:=he
       exact⟨D,E,G,(u.mono λi hi=>List.mem_append_left _ hi).trans (H.mono λi hi=>List.mem_append_right _ hi)⟩)
  all_goals first
   |exact he.elim
   |exact⟨he.1,he.2.mono λi hi=>List.mem_append_left _ hi⟩
   | (obtain⟨D,E,G,H⟩:=he
      exact⟨D,E,G,H.mono λi hi=>List.mem_append_left _ hi⟩)
 | .cond c x y,R,Qp,r,s,k=>gY (c:=.cond c x y) (V:=λQ fr w=>match ev fr c with
  |.bool b=>split b (vcC P C n N R Qp x k.l Q fr w) (vcC P C n N R Qp y k.r Q fr w)
  |_=>False) λQ fr a w j f=>by
  dsimp only at f;split at f
  ·rename_i b J;rw[<-j.eval]at J;rcases fT f with⟨rfl,K⟩|⟨rfl,K⟩
   ·exact wpIn_cond_true J (wpIn_mono (dM t hm x R Qp r s k.l Q fr a w j K) λe a' q he=>he.mono (λi hi=>List.mem_append_left _ hi) (λ_ _ _ h=>h))
   ·exact wpIn_cond_false J (wpIn_mono (dM t hm y R Qp r s k.r Q fr a w j K) λe a' q he=>he.mono (λi hi=>List.mem_append_right _ hi) (λ_ _ _ h=>h))
  ·exact f.elim
 | .block id c,R,Qp,r,s,k=>gY (c:=.block id c) (V:=λQ fr w=>vcC P C n N R Qp c k.l (λe p q=>match e with
  |.exit L=>(match Nat.beq L id with|true=>Q .normal p q|false=>Q (.exit L) p q)
  |e=>Q e p q) fr w) λQ fr a w j f=>by
  refine wpIn_block (wpIn_mono (dM t hm c R Qp r s k.l _ fr a w j f) λe a' q he=>?_);cases e
  case exit L=>
   obtain⟨p,v,z,u⟩:=he;simp only at z;simp only[Exit.inBlock];split at z
   ·rename_i hi;rw[if_pos (Nat.eq_of_beq_eq_true hi)];exact⟨p,v,z,u⟩
   ·rename_i hi;rw[if_neg (by rintro rfl;simp at hi)];exact⟨p,v,z,u⟩
  all_goals exact he
 | .loop c,R,Qp,r,s,k=>λQ fr a w j f=>by
  simp only[vcC]at f;split at f
  ·exact f.elim
  ·rename_i live wr a6;split at f
   ·rename_i M;obtain⟨M,W⟩:=pz M;obtain⟨I,⟨X,Y⟩,Z⟩:=f;refine nK (λm a' q=>∃p,Rep n p a'/\EH live (I m) p q/\Agr (writes c) a a') X ⟨fr,j,Y,Agr.refl _ _⟩ ?_;rintro m a1 w1 ⟨az,aA,hj,u⟩;obtain⟨vs,aC,aN⟩:=sx live (I m) az w1 hj;have a3:=xH j aA (u.mono M) W aC;refine wpIn_mono (dM t hm c R Qp r s k.l _ _ a1 w1 a3 (aN _ (Z m _))) λe a' q he=>?_;cases e
    case normal=>
     obtain⟨p,v,⟨m',a4,a5⟩,O⟩:=he;exact⟨m',a4,p,v,a5,u.trans O⟩
    case panic=>exact⟨he.1,u.trans he.2⟩
    case outgrown=>exact he
    all_goals
     obtain⟨p,v,hq,O⟩:=he;exact⟨p,v,hq,u.trans O⟩
   ·exact f.elim
 |.exit id,R,Qp,r,_,k=>λQ fr a w j f=>wpIn_exit ⟨fr,j,by cases R<;>exact f,Agr.refl _ _⟩
 |.ret,R,Qp,r,_,k=>λQ fr a w j f=>wpIn_ret ⟨fr,j,by cases R<;>exact f,Agr.refl _ _⟩
 | .rangeFunc g ps assign body,false,Qp,r,s,k=>by
  obtain rfl:=s rfl;exact zD t (λl=>dM t hm assign true none (some l) (by simp) k.l) (λl=>dM t hm body true none (some l) (by simp) k.r)
 |.rangeFunc _ _ _ _,true,_,_,_,_=>λQ fr a w j f=>by simp only[vcC]at f
 | .scope c,false,Qp,r,s,k=>by
  obtain rfl:=s rfl;refine gY (c:=.scope c) (V:=λQ fr w=>vcC P C n N false Qp c k.l (λe p q=>match e with
   |.goto _=>False
   |e=>Q e p q) fr w) λQ fr a w j f=>?_
  refine(wpIn_wide (n:=0)).2 (wp_scope_straight ((wpIn_wide (n:=0)).1 (wpIn_mono (dM t hm c false Qp none (λ_=>rfl) k.l _ fr a w j f) λe a' q he=>?_)));cases e
  case goto l=>obtain⟨_,_,h,_⟩:=he;exact h.elim
  all_goals exact he
 |.scope _,true,_,_,_,_=>λQ fr a w j f=>by simp only[vcC]at f
 |.label _,R,_,_,_,_=>λQ fr a w j f=>wpIn_label ⟨fr,j,by cases R<;>exact f,Agr.refl _ _⟩
 |.goto _,R,_,_,_,_=>λQ fr a w j f=>by cases R<;>simp only[vcC]at f
 |.refuse _,R,_,_,_,_=>λQ fr a w j f=>by cases R<;>simp only[vcC]at f
end
def nU(P:Program)(fr:Fr)(w:World):List ResultVar->(List Value->Prop)->Prop
 | [],F=>F []
 |.tmp t::r,F=>nU P fr w r λvs=>F (lk fr.g t fr.e::vs)
 | .cell a t::r,F=>match lk fr.g a fr.e with
  | .pointer p=>match dg P t,ub P t (sP (dg P t)) && hasType P t && Nat.beq (gF (dg P t)) (aS P t)with
   |s,true=>ai p λp=>s.ex λv=>gS w p s v/\nU P fr w r λvs=>F (v::vs)
   |_,false=>False
  |_=>False
def Ms(P:Program)(rs:List ResultVar)(R:aK)(fr:Fr)(w:World):Prop:=
 nU P fr w rs λvs=>match vs with
  | [v]=>R v w
  |vs=>R (.tuple ⟨vs⟩) w
def tA(P:Program)(rs:List ResultVar)(R:aK)(fr:Fr):List Deferred->World->Prop
 | [],w=>Ms P rs R fr w
 | d::ds,w=>match d.target with
  |.collected D=>w.heap[D]? =some (.deferred (some []))/\tA P rs R fr ds (w.putObj D (.deferred none))
  |_=>False
def num:Nat->List Value->List (Nat×Value)
 |_,[]=>[]
 |i,v::r=>(i,v)::num (i+1) r
def Ec {α:Type}:Option α->Bool
 |none=>false
 |some _=>true
def vcF(P:Program)(C N:List Nat)(fn:Func)(d:Ann)(args:List Value)(R:aK)(Qp:Option (List PanicEntry->World->Prop))(w:World):Prop:=
 match fn.body,Nat.ble args.length fn.ntmps with
 | some c,true=>(match Ec Qp && (writes c).elem qB with
  |true=>False
  | false=>vcC P C fn.ntmps N false Qp c d (λe fr b=>match e with
   |.normal=>tA P fn.results.toList R fr fr.ds b
   |.ret=>tA P fn.results.toList R fr fr.ds b
   |_=>False) ⟨num 0 args,λ_=>undef,[]⟩ w)
 |_,_=>False
section
variable {P:Program}{C N:List Nat}
def kK(tmps:Array Value):ResultVar->Sem Value
 |.tmp t=>pure (tmps.getD t undef)
 |.cell a t=>do loadVar t (<-asAddr (tmps.getD a undef))
theorem kO {fr:Fr}{w:World}{tmps:Array Value}(b:∀i,tmps.getD i undef=lk fr.g i fr.e):∀(rs:List ResultVar){F:List Value->Prop},nU P fr w rs F->
 ∃vs,F vs/\(rs.mapM (kK tmps)).run P w=.ok vs w
 | [],F,h=>⟨[],h,rfl⟩
 | .tmp t::r,F,h=>by
  obtain⟨vs,d,e⟩:=kO b r h;refine⟨_,d,?_⟩;have f:(kK tmps (.tmp t)).run P w=.ok (lk fr.g t fr.e) w:=by rw[<-b];rfl
  rw[List.mapM_cons,Sem.run_bind,f];show(Sem.run P (do let g <-r.mapM (kK tmps);pure (lk fr.g t fr.e::g)) w)=_;rw[Sem.run_bind,e];rfl
 | .cell a t::r,F,h=>by
  simp only[nU]at h;split at h
  ·rename_i p j;split at h
   ·rename_i s u c;simp only[Bool.and_eq_true]at c;obtain⟨q,rfl,k⟩:=cm h;obtain⟨v,l,m⟩:=Sh2.j9 k;obtain⟨vs,d,e⟩:=kO b r m;have:=kM (P:=P) c.1.1 c.1.2 c.2 l;refine⟨_,d,?_⟩;have f:(kK tmps (.cell a t)).run P w=.ok v w:=by
     show(do loadVar t (<-asAddr (tmps.getD a undef)):Sem Value).run P w=_;rw[b,j];exact this
    rw[List.mapM_cons,Sem.run_bind,f];show(Sem.run P (do let g <-r.mapM (kK tmps);pure (v::g)) w)=_;rw[Sem.run_bind,e];rfl
   ·exact h.elim
  ·exact h.elim
theorem GJ {fn:Func}{fr:Fr}{w:World}{tmps:Array Value}{R:aK}(c:∀i,tmps.getD i undef=lk fr.g i fr.e)(h:Ms P fn.results.toList R fr w):
 ∃v,R v w/\(results fn tmps).run P w=.ok v w:=by
 obtain⟨vs,b,d⟩:=kO c _ h;have hm:(fn.results.mapM (kK tmps)).run P w=.ok ⟨vs⟩ w:=by
  rw[Array.mapM_eq_mapM_toList];simp[d]
 have e:results fn tmps=(do let vs <-fn.results.mapM (kK tmps);pure (if h:vs.size=1 then vs[0]else .tuple vs)):=by
  unfold results kK;congr 1
 rw[e,Sem.run_bind,hm];cases vs with
 |nil=>exact⟨_,b,rfl⟩
 | cons v r=>
  cases r with
  |nil=>exact⟨_,b,rfl⟩
  |cons u r=>exact⟨_,b,rfl⟩
theorem tz(g:Nat->Value):∀(l:List Value)(k i:Nat),lk g i (num k l)=if h:k<=i/\i - k<l.length then l[i - k]'h.2 else g i
 | [],k,i=>by simp[num,lk]
 | v::r,k,i=>by
  simp only[num,lk];split
  ·rename_i h;obtain rfl:=Nat.eq_of_beq_eq_true h;simp
  ·rename_i h;have c:i≠k:=by rintro rfl;simp at h
   rw[tz g r (k+1) i];by_cases b:k+1<=i/\i - (k+1)<r.length
   ·rw[dif_pos b,dif_pos ⟨by omega,by simp;omega⟩];have:i - k=(i - (k+1))+1:=by omega
    simp[this]
   ·rw[dif_neg b,dif_neg (by simp;omega)]
theorem mZ {fn:Func}{fr:Fr}{tmps:Array Value}{R:aK}{b:Ending->World->Prop}(c:∀v w,R v w->b (.returned v) w)(e:∀i,tmps.getD i undef=lk fr.g i fr.e):∀(ds:List Deferred)(w:World),tA P fn.results.toList R fr ds w->
 LeavesInM (WF none) 0 P fn tmps b ds .returning w
 | [],w,h=>by
  obtain⟨v,f,g⟩:=GJ e h;exact⟨v,g,c _ _ f⟩
 | d::ds,w,h=>by
  simp only[tA]at h;split at h
  ·rename_i D j;exact⟨by simp,.inl ⟨D,_,j,run_takeDeferred h.1,mZ c e ds _ h.2⟩⟩
  ·exact h.elim
theorem AN {f:FuncId}{fn:Func}{args:List Value}{k:Ann}{R:aK}{Qp:Option (List PanicEntry->World->Prop)}{w:World}(m:P.funcs[f]? =some fn)(p:eI P C=true)(hm:P.follows .mixedOrders=true)
 (h:vcF P C N fn k args R Qp w):Calls P f ⟨args⟩ w λe d=>(∃v,e=.returned v/\R v d)\/∃ch,e=.panicked ch/\QpP Qp ch d:=by
 unfold vcF at h;split at h
 ·rename_i c s t;have y:args.length<=fn.ntmps:=Nat.le_of_ble_eq_true t;split at h
  ·exact h.elim
  rename_i hq;refine(callsIn_wide (n:=0)).1 (callsIn_of_wp_marks (F:=WF none) m s trivial ?_);have u:Rep fn.ntmps ⟨num 0 args,λ_=>undef,[]⟩ {tmps:=(⟨args⟩:Array Value)++Array.replicate (fn.ntmps - (⟨args⟩:Array Value).size) undef,defers:= []}:=by
   refine⟨by simp;omega,λi=>?_,rfl⟩;rw[tz];simp only[Nat.zero_le,Nat.sub_zero,true_and,Array.getD_eq_getD_getElem?];by_cases hi:i<args.length
   ·rw[dif_pos hi,Array.getElem?_append_left (by simpa using hi)];simp[hi]
   ·rw[dif_neg hi,Array.getElem?_append_right (by simpa using hi)];rw[Array.getElem?_replicate];split<;>rfl
  refine wpIn_mono (dM p hm c false Qp none (λ_=>rfl) k _ _ _ w u h) λe a' d he=>?_;cases e
  case normal=>
   obtain⟨fr,b,g,_⟩:=he;show LeavesInM _ _ _ _ _ _ _ _ _;rw[b.defers];exact mZ (λv w j=>.inl ⟨v,rfl,j⟩) b.get _ _ g
  case ret=>
   obtain⟨fr,b,g,_⟩:=he;show LeavesInM _ _ _ _ _ _ _ _ _;rw[b.defers];exact mZ (λv w j=>.inl ⟨v,rfl,j⟩) b.get _ _ g
  case panic ch=>
   obtain⟨l,x⟩:=he;cases Qp with
   |none=>exact l.elim
   | some q=>
    simp only[Ec,Bool.true_and]at hq;have hd:=x.defers (λhm=>by rw[List.elem_iff.2 hm]at hq;cases hq);show LeavesInM _ _ _ _ _ _ _ _ _;rw[hd];exact .inr ⟨ch,rfl,l⟩
  case outgrown=>exact he.elim
  all_goals obtain⟨_,_,h,_⟩:=he;exact h.elim
 ·exact h.elim
theorem uY {f:FuncId}{fn:Func}{args:List Value}{c:Ann}{R:aK}{w:World}(d:P.funcs[f]? =some fn)(g:eI P C=true)(hm:P.follows .mixedOrders=true)
 (h:vcF P C N fn c args R none w):Calls P f ⟨args⟩ w λe b=>∃v,e=.returned v/\R v b:=
 (AN d g hm h).mono λe b he=>by
  rcases he with he|⟨_,_,he⟩
  ·exact he
  ·exact he.elim
end
end Go.Proofs.YtoghdgcmhbanbaaGreatDoor.V
end
section
set_option maxRecDepth 100000
namespace Go.Proofs.YtoghdgcmhbanbaaGreatDoor
open Go Go.RowKit V
open Go.IntKind (i64 u32 u64 wrap_i64 wrap_u32)
open Go.Proofs (Tryz.prog)
def rW:List Nat:=(rgN 2 180++ [208])
theorem CN:eI Tryz.prog rW=true:=by kernel_rfl
theorem aj:Tryz.prog.follows .mixedOrders=true:=by kernel_rfl
abbrev aq(a:Ann):Ann:=.node none .leaf a
abbrev aT(R:aK)(e:Ending)(w:World):Prop:=∃v,e=.returned v/\R v w
theorem rvc(N:List Nat)(b:Ann){f:FuncId}{fn:Func}{args:List Value}{R:aK}{w:World}{F:Prop}(c:Tryz.prog.funcs[f]? =some fn)(h:F)(he:F=vcF Tryz.prog rW N fn b args R none w:=by kernel_rfl):Calls Tryz.prog f ⟨args⟩ w (aT R):=
 uY c CN aj (he.mp h)
theorem F7(m:oA)(s:Bool)(t:Int){R:aK}{w:World}(h:∀(e:Nat)(b:World),e=w.heap.size->b=w.alloc (.cells #[vB s,J t] 111)->ai m λy=>∃u:oA,∃l z:Nat,b.cell? (y.add 1)=some (.slice u l z)/\∃v:Bool,b.cell? ((vA e).add 0)=some (vB v)/\split v (ai m λA=>∃x:oA,∃p B:Nat,b.cell? (A.add 0)=some (.slice x p B)/\∃f:Bool->World->Prop,(∃g:Int,b.cell? ((vA e).add 1)=some (J g)/\split (decide ((g:Int)<0)) (f true b) (∃i:Int,b.cell? ((vA e).add 1)=some (J i)/\f (decide ((i:Int)>=((p:Nat):Int))) b))/\∀(_gv1:Nat->Value)(j:Bool),∀c,f j c->split j (R (.pointer none) c) (∃d:Int,c.cell? ((vA e).add 1)=some (J d)/\(0<=(d:Int)/\(d:Int)<((p:Nat):Int))/\ai x λq=>∃k:oA,c.cell? (q.add (Int.toNat d*1))=some (.pointer k)/\R (.pointer k) c)) (∃f:Bool->World->Prop,(∃g:Int,b.cell? ((vA e).add 1)=some (J g)/\split (decide ((g:Int)<0)) (f true b) (∃i:Int,b.cell? ((vA e).add 1)=some (J i)/\f (decide ((i:Int)>=((l:Nat):Int))) b))/\∀(_gv1:Nat->Value)(j:Bool),∀c,f j c->split j (R (.pointer none) c) (∃d:Int,c.cell? ((vA e).add 1)=some (J d)/\(0<=(d:Int)/\(d:Int)<((l:Nat):Int))/\ai u λq=>∃k:oA,c.cell? (q.add (Int.toNat d*1))=some (.pointer k)/\R (.pointer k) c))):Calls Tryz.prog 76 #[(.pointer m),(.agg #[vB s,J t])] w (aT R):=rvc [] (aq (aq (aq (.node none (.node none (.node (some ⟨[(25,.one (.bool))],(rgN 16 10)⟩) .leaf .leaf) .leaf) .leaf)))) Tryz.func76 h
theorem Dr(m:oA)(d:Bool)(f:Int){R:aK}{w:World}(h:∀(c:Nat)(b:World),c=w.heap.size->b=w.alloc (.cells #[vB d,J f] 111)->∃g:Bool,∃i:Int,(b.cell? ((vA c).add 0)=some (vB g)/\b.cell? ((vA c).add 1)=some (J i))/\Calls Tryz.prog 76 #[(.pointer m),(.agg #[vB g,J i])] b λe k=>∃j:oA,e=.returned (.pointer j)/\R (vB (!j.isNone)) k):Calls Tryz.prog 153 #[(.pointer m),(.agg #[vB d,J f])] w (aT R):=rvc [] (.leaf) Tryz.func153 h
theorem ru(m:oA){R:aK}{w:World}(h:ai m λc=>∃d:oA,∃b e:Nat,w.cell? (c.add 1)=some (.slice d b e)/\R (J ((b:Nat):Int)) w):Calls Tryz.prog 77 #[(.pointer m)] w (aT R):=rvc [] (.leaf) Tryz.func77 h
theorem Dq(m:oA)(g:Bool)(i:Int)(j:oA)(au k:Nat){R:aK}{w:World}(h:∀(d:Nat)(b:World),d=w.heap.size->b=w.alloc (.cells #[vB g,J i] 111)->∃l:Bool,∃p:Int,(b.cell? ((vA d).add 0)=some (vB l)/\b.cell? ((vA d).add 1)=some (J p))/\Calls Tryz.prog 76 #[(.pointer m),(.agg #[vB l,J p])] b λe c=>∃f:oA,e=.returned (.pointer f)/\split f.isNone (R (J 5) c) (split ((((au:Nat):Int):Int) !=1024) (R (J 2) c) (ai m λy=>∃q:Int,c.cell? (y.add 2)=some (J q)/\ai m λz=>ao c (z.add 2) [J (i64.wrap (q+1024))] λA=>ai f λs=>∀t:oA,t=(some (if 1024=0 then s else s.add (0*1)))->∀u:Nat,u=1024 - 0->∀v:Nat,v=1024 - 0->∃B:Int,∃x,(Builtin.copy_ #[26,26] 3 #[(.slice t u v),(.slice j au k)]:Sem Value).run Tryz.prog A=.ok (J B) x/\R (J 0) x))):Calls Tryz.prog 50 #[(.pointer m),(.agg #[vB g,J i]),(.slice j au k)] w (aT R):=rvc [] (.leaf) Tryz.func50 h
theorem BV(n:Int){R:aK}{w:World}(h:∃e:oA,∃c f:Nat,∃g,(Instr.makeSlice 143 (J n) (J n):Sem Value).run Tryz.prog w=.ok (.slice e c f) g/\∃I:Nat->Int->World->Prop,(∃m,I m 0 g)/\∀(m:Nat)(_gv:Nat->Value)(b:Int),∀d,I m b d->split (decide ((b:Int)<((c:Nat):Int))) (∀(i:Nat)(j:World),i=d.heap.size->j=d.alloc (.cells (Array.replicate 1024 (O 0)) 170)->(0<=(b:Int)/\(b:Int)<((c:Nat):Int))/\ai e λl=>ao j (l.add (Int.toNat b*1)) [(.pointer (pvA i))] λp=>∃k,k<m/\I k (i64.wrap (b+1)) p) (R (.slice e c f) d)):Calls Tryz.prog 84 #[J n] w (aT R):=rvc [] (aq (aq (.node none (aq (.node none (.node (some ⟨[(9,.one (.int .i64))],[4,9,10,11,12,13,14,15,16,17]⟩) .leaf .leaf) .leaf)) .leaf))) Tryz.func84 h
theorem Dp(bQ c:Int){R:aK}{w:World}(h:∃b:Bool->World->Prop,(split (decide ((bQ:Int)<1)) (b true w) (split (decide ((bQ:Int)>64)) (b true w) (split (decide ((c:Int)<1)) (b true w) (b (decide ((c:Int)>64)) w))))/\∀(_gv:Nat->Value)(f:Bool),∀d,b f d->split f (R (.tuple #[(.pointer none),J 1]) d) (Calls Tryz.prog 84 #[J bQ] d λe t=>∃g:oA,∃i j:Nat,e=.returned (.slice g i j)/\Calls Tryz.prog 84 #[J c] t λe k=>∃l:oA,∃m p:Nat,e=.returned (.slice l m p)/\∀(q:Nat)(s:World),q=k.heap.size->s=k.alloc (.cells #[(.slice g i j),(.slice l m p),J 0] 145)->R (.tuple #[(.pointer (pvA q)),J 0]) s)):Calls Tryz.prog 68 #[J bQ,J c] w (aT R):=rvc [] (aq (.node none (.node none (.node (some ⟨[(19,.one (.bool))],(rgN 6 14)⟩) .leaf .leaf) .leaf) .leaf)) Tryz.func68 h
theorem BU(m:oA)(j:Bool)(k off:Int){R:aK}{w:World}(h:∀(f:Nat)(b:World),f=w.heap.size->b=w.alloc (.cells #[vB j,J k] 111)->∃l:Bool,∃p:Int,(b.cell? ((vA f).add 0)=some (vB l)/\b.cell? ((vA f).add 1)=some (J p))/\Calls Tryz.prog 76 #[(.pointer m),(.agg #[vB l,J p])] b λe g=>∃i:oA,e=.returned (.pointer i)/\∃c:Bool->World->Prop,(split i.isNone (c true g) (split (decide ((off:Int)<0)) (c true g) (c (decide ((off:Int)>=1024)) g)))/\∀(_gv1:Nat->Value)(q:Bool),∀d,c q d->split q (R (O 0) d) (ai i λt=>(0<=(off:Int)/\(off:Int)<((1024:Nat):Int))/\∃s:Int,d.cell? (t.add (Int.toNat off*1))=some (O s)/\R (O s) d)):Calls Tryz.prog 83 #[(.pointer m),(.agg #[vB j,J k]),J off] w (aT R):=rvc [] (aq (aq (.node none (.node none (.node (some ⟨[(20,.one (.bool))],(rgN 11 10)⟩) .leaf .leaf) .leaf) .leaf))) Tryz.func83 h
theorem vq(m:oA){R:aK}{w:World}(h:ai m λc=>∃d:oA,∃b e:Nat,w.cell? (c.add 0)=some (.slice d b e)/\R (J ((b:Nat):Int)) w):Calls Tryz.prog 72 #[(.pointer m)] w (aT R):=rvc [] (.leaf) Tryz.func72 h
theorem yV(m:oA)(g:Bool)(i times:Int){R:aK}{w:World}(h:∀(c:Nat)(b:World),c=w.heap.size->b=w.alloc (.cells #[vB g,J i] 111)->∃j:Bool,∃k:Int,(b.cell? ((vA c).add 0)=some (vB j)/\b.cell? ((vA c).add 1)=some (J k))/\Calls Tryz.prog 76 #[(.pointer m),(.agg #[vB j,J k])] b λe d=>∃f:oA,e=.returned (.pointer f)/\split f.isNone (R (.tuple #[(.pointer none),J 5]) d) (ai m λp=>∃l:Int,d.cell? (p.add 2)=some (J l)/\ai m λq=>ao d (q.add 2) [J (i64.wrap (l+(i64.wrap (times*1024))))] λs=>R (.tuple #[(.pointer f),J 0]) s)):Calls Tryz.prog 108 #[(.pointer m),(.agg #[vB g,J i]),J times] w (aT R):=rvc [] (.leaf) Tryz.func108 h
theorem BT(m:oA)(f:Bool)(g:Int){R:aK}{w:World}(h:∀(d:Nat)(b:World),d=w.heap.size->b=w.alloc (.cells #[vB f,J g] 111)->∃i:Bool,∃j:Int,(b.cell? ((vA d).add 0)=some (vB i)/\b.cell? ((vA d).add 1)=some (J j))/\Calls Tryz.prog 108 #[(.pointer m),(.agg #[vB i,J j]),J 1] b λe k=>∃l:oA,∃c:Int,e=.returned (.tuple #[(.pointer l),J c])/\split ((c:Int)==0) (ai l λp=>∀q:oA,q=(some (if 1024=0 then p else p.add (0*1)))->∀s:Nat,s=1024 - 0->∀t:Nat,t=1024 - 0->∃u,(Builtin.clear_ #[26] 0 #[(.slice q s t)]:Sem Value).run Tryz.prog k=.ok (.tuple #[]) u/\R (J c) u) (R (J c) k)):Calls Tryz.prog 87 #[(.pointer m),(.agg #[vB f,J g])] w (aT R):=rvc [] (.leaf) Tryz.func87 h
end Go.Proofs.YtoghdgcmhbanbaaGreatDoor
end
section
set_option maxRecDepth 100000
namespace Go.Proofs.YtoghdgcmhbanbaaGreatDoor
open Go Go.RowKit V
open Go.IntKind (i64 u32 u64 wrap_i64 wrap_u32)
open Go.Proofs (Tryz.prog)
theorem uu(t bQ:Int){R:aK}{w:World}(h:∃I:Nat->Option Addr->Nat->Nat->Int->World->Prop,(∃m,I m none 0 0 0 w)/\∀(m:Nat)(_gv:Nat->Value)(i:oA)(j k:Nat)(d:Int),∀e,I m i j k d e->split (decide ((d:Int)<t)) (∀(u:Nat)(b:World),u=e.heap.size->b=e.alloc (.cells #[vB false,J d] 111)->∃v:oA,∃x y:Nat,∃c,(Builtin.append_ #[109,109] 109 #[(.slice i j k),(.slice (pvA u) 1 1)]:Sem Value).run Tryz.prog b=.ok (.slice v x y) c/\∃z,z<m/\I z v x y (i64.wrap (d+1)) c) (∃l:Nat->Option Addr->Nat->Nat->Int->World->Prop,(∃f,l f i j k 0 e)/\∀(f:Nat)(_gv1:Nat->Value)(p:oA)(q s:Nat)(g:Int),∀b,l f p q s g b->split (decide ((g:Int)<bQ)) (∀(A:Nat)(c:World),A=b.heap.size->c=b.alloc (.cells #[vB true,J g] 111)->∃B:oA,∃D E:Nat,∃G,(Builtin.append_ #[109,109] 109 #[(.slice p q s),(.slice (pvA A) 1 1)]:Sem Value).run Tryz.prog c=.ok (.slice B D E) G/\∃H,H<f/\l H B D E (i64.wrap (g+1)) G) (R (.slice p q s) b))):Calls Tryz.prog 49 #[J t,J bQ] w (aT R):=rvc [5] (aq (aq (.node none (aq (.node none (.node (some ⟨[(5,.one (.slice)),(9,.one (.int .i64))],[5,6,9,10,11,12,13,14,15,16,17]⟩) .leaf .leaf) .leaf)) (.node none (aq (.node none (.node (some ⟨[(5,.one (.slice)),(19,.one (.int .i64))],[5,7,19,20,21,22,23,24,25,26,27]⟩) .leaf .leaf) .leaf)) .leaf)))) Tryz.func49 h
theorem yF(m:oA){R:aK}{w:World}(h:Calls Tryz.prog 82 #[(.pointer m)] w λe wv=>∃t u v x y z A B D E:Int,∃G:oA,∃H I:Nat,e=.returned (.agg #[J t,J u,O v,O x,O y,O z,O A,O B,O D,O E,(.slice G H I)])/\Calls Tryz.prog 19 #[(.pointer m)] wv λe K=>∃L M T U V W X Y Z an az aA aC aN a0:Int,e=.returned (.agg #[O L,O M,O T,O U,O V,O W,O X,O Y,O Z,O an,O az,O aA,O aC,O aN,O a0])/\∀(c:Nat)(j:World),c=K.heap.size->j=K.alloc (.cells (#[J 0,J 0,O 0,O 0,O 0,O 0,O 0,O 0,O 0,O 0,(.slice none 0 0)]) 91)->∀(f:Nat)(a1:World),f=j.heap.size->a1=j.alloc (.cells (#[O 0,O 0,O 0,O 0,O 0,O 0,O 0,O 0,O 0,O 0,O 0,O 0,O 0,O 0,O 0]) 52)->ao a1 (vA c) [J t,J u,O v,O x,O y,O z,O A,O B,O D,O E,(.slice G H I)] λbN=>ao bN (vA f) [O L,O M,O T,O U,O V,O W,O X,O Y,O Z,O an,O az,O aA,O aC,O aN,O a0] λd=>∃a2:Int,d.cell? ((vA c).add 0)=some (J a2)/\∃a3:Int,d.cell? ((vA c).add 1)=some (J a3)/\∃b0:oA,∃a4 b4:Nat,d.cell? ((vA c).add 10)=some (.slice b0 a4 b4)/\∀(a5:Nat)(l:World),a5=d.heap.size->l=d.alloc (.cells #[O (u32.wrap a2),O (u32.wrap a3),O (u32.wrap ((a4:Nat):Int))] 22)->∃b:bP,∀a6:oA,a6=(some (if 8=0 then(vA c).add 2 else((vA c).add 2).add (0*1)))->∀a7:Nat,a7=8 - 0->∀a8:Nat,a8=8 - 0->∀a9:oA,a9=(some (if 15=0 then Addr.mk f 0 none else(vA f).add (0*1)))->∀ba:Nat,ba=15 - 0->∀bb:Nat,bb=15 - 0->∃bc:oA,∃bd bg:Nat,∃p,(Builtin.append_ #[26,26] 26 #[(.slice (pvA a5) 3 3),(.slice a6 a7 a8)]:Sem Value).run Tryz.prog l.drew=.ok (.slice bc bd bg) p/\Kept (aX b [4]) l.drew p/\∃b1:bP,(∀i k,b i k->b1 i k)/\∃bl:oA,∃bs bA:Nat,∃g,(Builtin.append_ #[26,26] 26 #[(.slice bc bd bg),(.slice a9 ba bb)]:Sem Value).run Tryz.prog p=.ok (.slice bl bs bA) g/\∃q:bP,(∀i k,b1 i k->q i k)/\∀(bC:Nat)(s:World),bC=g.heap.size->s=g.alloc (.cells #[(.slice bl bs bA)] 26)->Kept (aX q [1]) g s/\∃b3:bP,(∀i k,q i k->b3 i k)/\R (.slice (pvA bC) 1 1) s):Calls Tryz.prog 60 #[(.pointer m)] w (aT R):=rvc [] (.leaf) Tryz.func60 h
theorem qZ(m:oA){R:aK}{w:World}(h:Calls Tryz.prog 82 #[(.pointer m)] w λe f=>∃g i j k l p q s t u:Int,∃b:oA,∃c d:Nat,e=.returned (.agg #[J g,J i,O j,O k,O l,O p,O q,O s,O t,O u,(.slice b c d)])/\R (.slice b c d) f):Calls Tryz.prog 61 #[(.pointer m)] w (aT R):=rvc [] (.leaf) Tryz.func61 h
theorem pK(m:oA){R:aK}{w:World}(h:Calls Tryz.prog 20 #[(.pointer m)] w λe k=>∃b:oA,e=.returned (.pointer b)/\Calls Tryz.prog 21 #[(.pointer b)] k λe c=>∃d:oA,∃f g:Nat,e=.returned (.slice d f g)/\∀(i:Nat)(j:World),i=c.heap.size->j=c.alloc (.cells #[(.slice d f g)] 26)->R (.slice (pvA i) 1 1) j):Calls Tryz.prog 62 #[(.pointer m)] w (aT R):=rvc [] (.leaf) Tryz.func62 h
theorem vb(m:oA){R:aK}{w:World}(h:Calls Tryz.prog 20 #[(.pointer m)] w λe wv=>∃z:oA,e=.returned (.pointer z)/\Calls Tryz.prog 47 #[(.pointer z)] wv λe az=>∃g:oA,e=.returned (.pointer g)/\Calls Tryz.prog 77 #[(.pointer g)] az λe aA=>∃A:Int,e=.returned (J A)/\Calls Tryz.prog 72 #[(.pointer g)] aA λe aC=>∃B:Int,e=.returned (J B)/\Calls Tryz.prog 49 #[J A,J B] aC λe aN=>∃D:oA,∃s a0:Nat,e=.returned (.slice D s a0)/\∃I:Nat->Option Addr->Nat->Nat->Int->World->Prop,(∃i,I i none 0 0 0 aN)/\∀(i:Nat)(_gv:Nat->Value)(t:oA)(u v:Nat)(b:Int),∀d,I i t u v b d->split (decide ((b:Int)<((s:Nat):Int))) ((0<=(b:Int)/\(b:Int)<((s:Nat):Int))/\ai D λE=>∃G:Bool,∃H:Int,(d.cell? ((E.add (Int.toNat b*2)).add 0)=some (vB G)/\d.cell? ((E.add (Int.toNat b*2)).add 1)=some (J H))/\∀(j:Nat)(K:World),j=d.heap.size->K=d.alloc (.cells (#[vB false,J 0]) 111)->ao K (vA j) [vB G,J H] λa1=>∃x:oA,∃k L:Nat,∃M,(Instr.makeSlice 26 (J 1024) (J 1024):Sem Value).run Tryz.prog a1=.ok (.slice x k L) M/\∃y:Nat->Int->World->Prop,(∃l,y l 0 M)/\∀(l:Nat)(_gv2:Nat->Value)(c:Int),∀f,y l c f->split (decide ((c:Int)<((k:Nat):Int))) (∃T:Bool,∃U:Int,(f.cell? ((vA j).add 0)=some (vB T)/\f.cell? ((vA j).add 1)=some (J U))/\Calls Tryz.prog 83 #[(.pointer g),(.agg #[vB T,J U]),J c] f λe p=>∃V:Int,e=.returned (O V)/\(0<=(c:Int)/\(c:Int)<((k:Nat):Int))/\ai x λa2=>ao p (a2.add (Int.toNat c*1)) [O V] λq=>∃W,W<l/\y W (i64.wrap (c+1)) q) (∀(X:Nat)(p:World),X=f.heap.size->p=f.alloc (.cells #[(.slice x k L)] 26)->∃Y:oA,∃Z an:Nat,∃q,(Builtin.append_ #[55,55] 55 #[(.slice t u v),(.slice (pvA X) 1 1)]:Sem Value).run Tryz.prog p=.ok (.slice Y Z an) q/\∃m2,m2<i/\I m2 Y Z an (i64.wrap (b+1)) q)) (R (.slice t u v) d)):Calls Tryz.prog 63 #[(.pointer m)] w (aT R):=rvc [4] (aq (aq (aq (.node none (aq (.node none (.node (some ⟨[(4,.one (.slice)),(18,.one (.int .i64))],[4,6,7,8,18,19,20,21,22,23,24,25,26,27,28,29,30,31,32,33,34,35,36,37,38,39,40]⟩) (aq (aq (.node none (.node none (aq (aq (.node none (aq (.node none (.node (some ⟨[(25,.one (.int .i64))],[8,25,26,27,28,29,30,31,32,33,34,35]⟩) .leaf .leaf) .leaf)) .leaf))) .leaf) .leaf))) .leaf) .leaf)) .leaf)))) Tryz.func63 h
theorem yB(m:oA)(c:Int){R:aK}{w:World}(h:∀d:Bool,d=((c:Int)==0)->split d (Calls Tryz.prog 60 #[(.pointer m)] w λe b=>∃f:oA,∃g i:Nat,e=.returned (.slice f g i)/\R (.slice f g i) b) (∀j:Bool,j=((c:Int)==1)->split j (Calls Tryz.prog 61 #[(.pointer m)] w λe b=>∃k:oA,∃l p:Nat,e=.returned (.slice k l p)/\R (.slice k l p) b) (∀q:Bool,q=((c:Int)==2)->split q (Calls Tryz.prog 62 #[(.pointer m)] w λe b=>∃s:oA,∃t u:Nat,e=.returned (.slice s t u)/\R (.slice s t u) b) (Calls Tryz.prog 63 #[(.pointer m)] w λe b=>∃v:oA,∃x y:Nat,e=.returned (.slice v x y)/\R (.slice v x y) b)))):Calls Tryz.prog 38 #[(.pointer m),J c] w (aT R):=rvc [6,10,14] (.leaf) Tryz.func38 h
theorem yy(m:oA){R:aK}{w:World}(h:∀(z:Nat)(A:World),z=w.heap.size->A=w.alloc (.cells #[vY 119,vY 97,vY 114,vY 100,vY 101,vY 110,vY 32,vY 49] 5)->∃B:oA,∃D E:Nat,∃l,(convert 27 27 (.slice (pvA z) 8 8):Sem Value).run Tryz.prog A=.ok (.slice B D E) l/\∃G H K L:Int,ar l (vA 0) 0 [J G,J H,J K,J L]/\∃I:Nat->Option Addr->Nat->Nat->Int->World->Prop,(∃f,I f B D E 0 l)/\∀(f:Nat)(_gv1:Nat->Value)(g:oA)(i j:Nat)(b:Int),∀p,I f g i j b p->split (decide ((b:Int)<4)) ((0<=(b:Int)/\(b:Int)<((4:Nat):Int))/\∃M:Int,(#[J G,J H,J K,J L]:Array Value)[Int.toNat b*1]? =some (J M)/\Calls Tryz.prog 38 #[(.pointer m),J M] p λe q=>∃T:oA,∃s a5:Nat,e=.returned (.slice T s a5)/\∃t:Nat->Option Addr->Nat->Nat->Int->World->Prop,(∃k,t k g i j 0 q)/\∀(k:Nat)(_gv2:Nat->Value)(u:oA)(v x:Nat)(c:Int),∀d,t k u v x c d->split (decide ((c:Int)<((s:Nat):Int))) ((0<=(c:Int)/\(c:Int)<((s:Nat):Int))/\ai T λa6=>∃U:oA,∃V W:Nat,d.cell? (a6.add (Int.toNat c*1))=some (.slice U V W)/\Calls Tryz.prog 12 #[(.slice U V W)] d λe a7=>∃X:oA,∃y Y:Nat,e=.returned (.slice X y Y)/\Calls Tryz.prog 25 #[(.slice u v x),O (u32.wrap ((y:Nat):Int))] a7 λe a8=>∃Z:oA,∃an az:Nat,e=.returned (.slice Z an az)/\∃aA:oA,∃aC aN:Nat,∃a0,(Builtin.append_ #[27,27] 27 #[(.slice Z an az),(.slice X y Y)]:Sem Value).run Tryz.prog a8=.ok (.slice aA aC aN) a0/\∃m4,m4<k/\t m4 aA aC aN (i64.wrap (c+1)) a0) (∃m2,m2<f/\I m2 u v x (i64.wrap (b+1)) d)) (Calls Tryz.prog 39 #[(.slice g i j)] p λe q=>∃a1:Int,e=.returned (O a1)/\Calls Tryz.prog 25 #[(.slice g i j),O a1] q λe d=>∃a2:oA,∃a3 a4:Nat,e=.returned (.slice a2 a3 a4)/\R (.slice a2 a3 a4) d)):Calls Tryz.prog 17 #[(.pointer m)] w (aT R):=rvc [3] (aq (aq (.node none (aq (.node none (.node (some ⟨[(3,.one (.slice)),(12,.one (.int .i64))],[3,5,7,8,12,13,14,15,16,17,18,19,20,21,22,23,24,25,26,27,28,29,30,31,32,33]⟩) (aq (aq (.node none (.node none (aq (aq (.node none (.node (some ⟨[(3,.one (.slice)),(19,.one (.int .i64))],[3,7,8,19,20,21,22,23,24,25,26,27,28,29,30,31,32]⟩) .leaf .leaf) .leaf))) .leaf) .leaf))) .leaf) .leaf)) .leaf))) Tryz.func17 h
theorem vf(c:oA)(au d:Nat){R:aK}{w:World}(h:Calls Tryz.prog 10 #[(.slice c au d)] w λe s=>∃f:oA,∃b g:Nat,e=.returned (.slice f b g)/\Calls Tryz.prog 23 #[O (u32.wrap ((b:Nat):Int))] s λe t=>∃i:oA,∃j k:Nat,e=.returned (.slice i j k)/\∃l:oA,∃m p:Nat,∃q,(Builtin.append_ #[27,27] 27 #[(.slice i j k),(.slice f b g)]:Sem Value).run Tryz.prog t=.ok (.slice l m p) q/\R (.slice l m p) q):Calls Tryz.prog 40 #[(.slice c au d)] w (aT R):=rvc [] (.leaf) Tryz.func40 h
theorem vg(m:oA)(k:Bool)(l:Int){R:aK}{w:World}(h:∀(f:Nat)(p:World),f=w.heap.size->p=w.alloc (.cells #[vB k,J l] 81)->∀off:Int,off=0->∃I:Nat->Option Addr->Nat->Nat->Int->World->Prop,(∃c,I c none 0 0 off p)/\∀(c:Nat)(_gv1:Nat->Value)(g:oA)(i j:Nat)(d:Int),∀b,I c g i j d b->split (decide ((d:Int)<1024)) (∃q:Bool,∃s:Int,(b.cell? ((vA f).add 0)=some (vB q)/\b.cell? ((vA f).add 1)=some (J s))/\Calls Tryz.prog 64 #[(.pointer m),(.agg #[vB q,J s]),J d] b λe t=>∃u:Int,e=.returned (O u)/\∀(v:Nat)(x:World),v=t.heap.size->x=t.alloc (.cells #[O u] 22)->∃y:oA,∃z A:Nat,∃B,(Builtin.append_ #[26,26] 26 #[(.slice g i j),(.slice (pvA v) 1 1)]:Sem Value).run Tryz.prog x=.ok (.slice y z A) B/\∀D:Int,D=(i64.wrap (d+1))->∃E,E<c/\I E y z A D B) (R (.slice g i j) b)):Calls Tryz.prog 41 #[(.pointer m),(.agg #[vB k,J l])] w (aT R):=rvc [5,6] (aq (aq (.node none (aq (.node none (.node (some ⟨[(5,.one (.slice)),(6,.one (.int .i64))],(rgN 5 13)⟩) .leaf .leaf) .leaf)) .leaf))) Tryz.func41 h
theorem ve(m:oA){R:aK}{w:World}(h:∃a3:oA,∃a4 a5:Nat,∃f,(Builtin.append_ #[27,9] 27 #[(.slice none 0 0),(.string (⟨#[119,97,114,100,101,110,32,49]⟩:ByteArray))]:Sem Value).run Tryz.prog w=.ok (.slice a3 a4 a5) f/\∃b:bP,ai m λa6=>b 4 (((a6.add 0).add 0).block)/\∃a7:Int,f.drew.cell? ((a6.add 0).add 0)=some (J a7)/\ai m λa8=>b 10 (((a8.add 0).add 1).block)/\∃a9:Int,f.drew.cell? ((a8.add 0).add 1)=some (J a9)/\ai m λba=>b 16 (((ba.add 0).add 10).block)/\∃e9:oA,∃bb fa:Nat,f.drew.cell? ((ba.add 0).add 10)=some (.slice e9 bb fa)/\∀(gv:Nat)(T:World),gv=f.drew.heap.size->T=f.drew.alloc (.cells #[O (u32.wrap a7),O (u32.wrap a9),O (u32.wrap ((bb:Nat):Int))] 22)->Kept (aX b [0,1,2,6,7,8,12,13,14,15]) f.drew T/\∃b1:bP,(∀i k,b i k->b1 i k)/\∀i:Int,i=0->∃I:Nat->Option Addr->Nat->Nat->Int->World->Prop,(∃y,I y (pvA gv) 3 3 i T)/\∀(y:Nat)(_gv1:Nat->Value)(U:oA)(V W:Nat)(i1:Int),∀s,I y U V W i1 s->split (decide ((i1:Int)<8)) (ai m λfb=>(0<=(i1:Int)/\(i1:Int)<((8:Nat):Int))/\∃bc:Int,s.cell? (((fb.add 0).add 2).add (Int.toNat i1*1))=some (O bc)/\∀(bd:Nat)(c:World),bd=s.heap.size->c=s.alloc (.cells #[O bc] 22)->∃bg:oA,∃bl bs:Nat,∃g,(Builtin.append_ #[26,26] 26 #[(.slice U V W),(.slice (pvA bd) 1 1)]:Sem Value).run Tryz.prog c=.ok (.slice bg bl bs) g/\∀i2:Int,i2=(i64.wrap (i1+1))->∃m2,m2<y/\I m2 bg bl bs i2 g) (∀i2:Int,i2=0->∃X:Nat->Option Addr->Nat->Nat->Int->World->Prop,(∃z,X z U V W i2 s)/\∀(z:Nat)(_gv2:Nat->Value)(Y:oA)(Z an:Nat)(i3:Int),∀c,X z Y Z an i3 c->split (decide ((i3:Int)<15)) (ai m λfA=>(0<=(i3:Int)/\(i3:Int)<((15:Nat):Int))/\∃bA:Int,c.cell? ((fA.add 20).add (Int.toNat i3*1))=some (O bA)/\∀(bC:Nat)(g:World),bC=c.heap.size->g=c.alloc (.cells #[O bA] 22)->∃bN:oA,∃b0 b2:Nat,∃t,(Builtin.append_ #[26,26] 26 #[(.slice Y Z an),(.slice (pvA bC) 1 1)]:Sem Value).run Tryz.prog g=.ok (.slice bN b0 b2) t/\∀i4:Int,i4=(i64.wrap (i3+1))->∃m4,m4<z/\X m4 bN b0 b2 i4 t) (Calls Tryz.prog 40 #[(.slice Y Z an)] c λe g=>∃b3:oA,∃b4 b5:Nat,e=.returned (.slice b3 b4 b5)/\∃b6:oA,∃b7 b8:Nat,∃t,(Builtin.append_ #[27,27] 27 #[(.slice a3 a4 a5),(.slice b3 b4 b5)]:Sem Value).run Tryz.prog g=.ok (.slice b6 b7 b8) t/\∀i4:Int,i4=0->∃I2:Nat->Option Addr->Nat->Nat->Int->World->Prop,(∃A,I2 A b6 b7 b8 i4 t)/\∀(A:Nat)(_gv3:Nat->Value)(az:oA)(aA aC:Nat)(i5:Int),∀j,I2 A az aA aC i5 j->ai m λfC=>∃ga:oA,∃b9 gb:Nat,j.cell? ((fC.add 0).add 10)=some (.slice ga b9 gb)/\split (decide ((i5:Int)<((b9:Nat):Int))) (ai m λgd=>∃ca:oA,∃cb gf:Nat,j.cell? ((gd.add 0).add 10)=some (.slice ca cb gf)/\(0<=(i5:Int)/\(i5:Int)<((cb:Nat):Int))/\ai ca λgh=>∃cc:oA,∃cf cg:Nat,j.cell? (gh.add (Int.toNat i5*1))=some (.slice cc cf cg)/\Calls Tryz.prog 40 #[(.slice cc cf cg)] j λe aN=>∃cj:oA,∃ck ct:Nat,e=.returned (.slice cj ck ct)/\∃cA:oA,∃cC cM:Nat,∃B,(Builtin.append_ #[27,27] 27 #[(.slice az aA aC),(.slice cj ck ct)]:Sem Value).run Tryz.prog aN=.ok (.slice cA cC cM) B/\∀i6:Int,i6=(i64.wrap (i5+1))->∃m6,m6<A/\I2 m6 cA cC cM i6 B) (ai m λgk=>∃cN:oA,j.cell? (gk.add 11)=some (.pointer cN)/\Calls Tryz.prog 22 #[(.pointer cN)] j λe aN=>∃c0:oA,∃c1 c2:Nat,e=.returned (.slice c0 c1 c2)/\Calls Tryz.prog 40 #[(.slice c0 c1 c2)] aN λe B=>∃c3:oA,∃c4 c5:Nat,e=.returned (.slice c3 c4 c5)/\∃c6:oA,∃c7 c8:Nat,∃c9,(Builtin.append_ #[27,27] 27 #[(.slice az aA aC),(.slice c3 c4 c5)]:Sem Value).run Tryz.prog B=.ok (.slice c6 c7 c8) c9/\∀p:Int,p=0->∃I3:Nat->Option Addr->Nat->Nat->Int->World->Prop,(∃D,I3 D c6 c7 c8 p c9)/\∀(D:Nat)(_gv4:Nat->Value)(a0:oA)(a1 a2:Nat)(E:Int),∀l,I3 D a0 a1 a2 E l->ai m λgm=>∃da:Int,l.cell? ((gm.add 0).add 1)=some (J da)/\split (decide ((E:Int)<da)) (ai m λgr=>∃dc:oA,l.cell? (gr.add 11)=some (.pointer dc)/\ai dc λgw=>∃dd:oA,l.cell? (gw.add 0)=some (.pointer dd)/\Calls Tryz.prog 41 #[(.pointer dd),(.agg #[vB false,J E])] l λe d=>∃dk:oA,∃dp dr:Nat,e=.returned (.slice dk dp dr)/\Calls Tryz.prog 40 #[(.slice dk dp dr)] d λe u=>∃dA:oA,∃dC dN:Nat,e=.returned (.slice dA dC dN)/\∃dT:oA,∃ea eb:Nat,∃q,(Builtin.append_ #[27,27] 27 #[(.slice a0 a1 a2),(.slice dA dC dN)]:Sem Value).run Tryz.prog u=.ok (.slice dT ea eb) q/\∀v:Int,v=(i64.wrap (E+1))->∃m8,m8<D/\I3 m8 dT ea eb v q) (∀v:Int,v=0->∃I4:Nat->Option Addr->Nat->Nat->Int->World->Prop,(∃G,I4 G a0 a1 a2 v l)/\∀(G:Nat)(_gv5:Nat->Value)(H:oA)(K L:Nat)(M:Int),∀d,I4 G H K L M d->ai m λg0=>∃ec:Int,d.cell? ((g0.add 0).add 0)=some (J ec)/\split (decide ((M:Int)<ec)) (ai m λg1=>∃ed:oA,d.cell? (g1.add 11)=some (.pointer ed)/\ai ed λg2=>∃ee:oA,d.cell? (g2.add 0)=some (.pointer ee)/\Calls Tryz.prog 41 #[(.pointer ee),(.agg #[vB true,J M])] d λe u=>∃ei:oA,∃er et:Nat,e=.returned (.slice ei er et)/\Calls Tryz.prog 40 #[(.slice ei er et)] u λe q=>∃ey:oA,∃eL eM:Nat,e=.returned (.slice ey eL eM)/\∃eN:oA,∃eS e0:Nat,∃x,(Builtin.append_ #[27,27] 27 #[(.slice H K L),(.slice ey eL eM)]:Sem Value).run Tryz.prog q=.ok (.slice eN eS e0) x/\∀p4:Int,p4=(i64.wrap (M+1))->∃e1,e1<G/\I4 e1 eN eS e0 p4 x) (Calls Tryz.prog 7 #[(.slice H K L)] d λe u=>∃e2:Int,e=.returned (O e2)/\Calls Tryz.prog 23 #[O e2] u λe q=>∃e3:oA,∃e4 e5:Nat,e=.returned (.slice e3 e4 e5)/\∃e6:oA,∃e7 e8:Nat,∃x,(Builtin.append_ #[27,27] 27 #[(.slice H K L),(.slice e3 e4 e5)]:Sem Value).run Tryz.prog q=.ok (.slice e6 e7 e8) x/\R (.slice e6 e7 e8) x)))))):Calls Tryz.prog 18 #[(.pointer m)] w (aT R):=rvc [3,4,5,6,7,8,9] (aq (aq (aq (aq (.node none (aq (.node none (.node (some ⟨[(4,.one (.slice)),(5,.one (.int .i64))],[4,5,33,34,35,36,37,38,39,40,41,42,43,44,45,46]⟩) .leaf .leaf) .leaf)) (.node none (aq (.node none (.node (some ⟨[(4,.one (.slice)),(6,.one (.int .i64))],[4,6,47,48,49,50,51,52,53,54,55,56,57,58,59]⟩) .leaf .leaf) .leaf)) (aq (.node none (aq (.node none (.node (some ⟨[(3,.one (.slice)),(7,.one (.int .i64))],[3,7,64,65,66,67,68,69,70,71,72,73,74,75,76,77,78,79,80,81,82,83,84]⟩) .leaf .leaf) .leaf)) (aq (.node none (aq (.node none (.node (some ⟨[(3,.one (.slice)),(8,.one (.int .i64))],[3,8,93,94,95,96,97,98,99,100,101,102,103,104,105,106,107,108,109,110,111,112,113,114]⟩) .leaf .leaf) .leaf)) (.node none (aq (.node none (.node (some ⟨[(3,.one (.slice)),(9,.one (.int .i64))],[3,9,115,116,117,118,119,120,121,122,123,124,125,126,127,128,129,130,131,132,133,134,135,136]⟩) .leaf .leaf) .leaf)) .leaf))))))))))) Tryz.func18 h
theorem yz(W:oA)(bN E:Nat){R:aK}{w:World}(h:∀(z:Nat)(wv:World),z=w.heap.size->wv=w.alloc (.cells (#[(.slice none 0 0),(.slice none 0 0),(.slice none 0 0),(.slice none 0 0)]) 70)->∃ca:Bool->World->Prop,(split (decide ((((bN:Nat):Int):Int)<8)) (ca true wv) ((0<=(8:Int)/\(8:Int)<=((E:Nat):Int))/\∀dk:oA,dk=(if E=0 then W else(W:oA).map (·.add (0*1)))->∀dp:Nat,dp=(Int.toNat 8) - 0->∀dr:Nat,dr=E - 0->∃dA:ByteArray,∃az,(convert 27 9 (.slice dk dp dr):Sem Value).run Tryz.prog wv=.ok (.string dA) az/\ca (!((dA:ByteArray).toList==((⟨#[119,97,114,100,101,110,32,49]⟩:ByteArray):ByteArray).toList)) az))/\∀(_gv1:Nat->Value)(dC:Bool),∀az,ca dC az->split dC (ao az (vA z) [(.slice none 0 0),(.slice none 0 0),(.slice none 0 0),(.slice none 0 0)] λa0=>∃d:oA,∃f g:Nat,∃j:oA,∃l p:Nat,∃q:oA,∃s t:Nat,∃u:oA,∃v x:Nat,ar a0 (vA z) 0 [.slice d f g,.slice j l p,.slice q s t,.slice u v x]/\R (.tuple #[(.agg #[(.slice d f g),(.slice j l p),(.slice q s t),(.slice u v x)]),(.pointer none),J 270]) a0) ((0<=(8:Int)/\(8:Int)<=((bN:Nat):Int))/\∀dN:oA,dN=(if E=(Int.toNat 8)then W else(W:oA).map (·.add ((Int.toNat 8)*1)))->∀dT:Nat,dT=bN - (Int.toNat 8)->∀ea:Nat,ea=E - (Int.toNat 8)->Calls Tryz.prog 43 #[(.slice dN dT ea)] az λe a0=>∃eb:oA,∃ec ed:Nat,∃ee:oA,∃ei er:Nat,∃et:oA,∃ey eL:Nat,∃eM:oA,∃eN eS:Nat,∃e0:Bool,e=.returned (.tuple #[(.agg #[(.slice eb ec ed),(.slice ee ei er),(.slice et ey eL),(.slice eM eN eS)]),vB e0])/\∀(c:Nat)(e1:World),c=a0.heap.size->e1=a0.alloc (.cells (#[(.slice none 0 0),(.slice none 0 0),(.slice none 0 0),(.slice none 0 0)]) 70)->ao e1 (vA c) [(.slice eb ec ed),(.slice ee ei er),(.slice et ey eL),(.slice eM eN eS)] λa3=>split (!e0) (∃e2:oA,∃e3 e4:Nat,∃e5:oA,∃e6 e7:Nat,∃e8:oA,∃e9 fa:Nat,∃fb:oA,∃fA fC:Nat,ar a3 (vA c) 0 [.slice e2 e3 e4,.slice e5 e6 e7,.slice e8 e9 fa,.slice fb fA fC]/\ao a3 (vA z) [(.slice e2 e3 e4),(.slice e5 e6 e7),(.slice e8 e9 fa),(.slice fb fA fC)] λa1=>∃d:oA,∃f g:Nat,∃j:oA,∃l p:Nat,∃q:oA,∃s t:Nat,∃u:oA,∃v x:Nat,ar a1 (vA z) 0 [.slice d f g,.slice j l p,.slice q s t,.slice u v x]/\R (.tuple #[(.agg #[(.slice d f g),(.slice j l p),(.slice q s t),(.slice u v x)]),(.pointer none),J 272]) a1) (∀M:Int,M=(i64.wrap (((bN:Nat):Int) - 4))->∃b:bP,(0<=(M:Int)/\(M:Int)<=((bN:Nat):Int))/\∀ga:oA,ga=(if E=M.toNat then W else(W:oA).map (·.add (M.toNat *1)))->∀gb:Nat,gb=bN - M.toNat->∀gd:Nat,gd=E - M.toNat->(0<=(M:Int)/\(M:Int)<=((E:Nat):Int))/\∀gf:oA,gf=(if E=0 then W else(W:oA).map (·.add (0*1)))->∀gh:Nat,gh=M.toNat - 0->∀gk:Nat,gk=E - 0->Calls Tryz.prog 28 #[(.slice ga gb gd)] a3.drew λe a1=>∃gm:Int,e=.returned (O gm)/\Kept (aX b [4,5,6]) a3.drew a1/\∃b1:bP,(∀i k,b i k->b1 i k)/\Calls Tryz.prog 39 #[(.slice gf gh gk)] a1 λe D=>∃gr:Int,e=.returned (O gr)/\∃b2:bP,(∀i k,b1 i k->b2 i k)/\split ((gm:Int) !=gr) (∃gw:oA,∃g0 g1:Nat,∃g2:oA,∃g3 g4:Nat,∃g5:oA,∃g6 g7:Nat,∃g8:oA,∃ha hb:Nat,ar D (vA c) 0 [.slice gw g0 g1,.slice g2 g3 g4,.slice g5 g6 g7,.slice g8 ha hb]/\ao D (vA z) [(.slice gw g0 g1),(.slice g2 g3 g4),(.slice g5 g6 g7),(.slice g8 ha hb)] λy=>∃d:oA,∃f g:Nat,∃j:oA,∃l p:Nat,∃q:oA,∃s t:Nat,∃u:oA,∃v x:Nat,ar y (vA z) 0 [.slice d f g,.slice j l p,.slice q s t,.slice u v x]/\R (.tuple #[(.agg #[(.slice d f g),(.slice j l p),(.slice q s t),(.slice u v x)]),(.pointer none),J 271]) y) (∃X:bP,X 0 ((vA c).block)/\∃cb:oA,∃cc cf:Nat,∃cg:oA,∃cj ck:Nat,∃ct:oA,∃cA cC:Nat,∃cM:oA,∃cN c0:Nat,ar D.drew (vA c) 0 [.slice cb cc cf,.slice cg cj ck,.slice ct cA cC,.slice cM cN c0]/\X 2 ((vA c).block)/\∃a4:oA,∃a5 a6:Nat,∃a7:oA,∃a8 a9:Nat,∃ba:oA,∃bb bc:Nat,∃bd:oA,∃bg bl:Nat,ar D.drew (vA c) 0 [.slice a4 a5 a6,.slice a7 a8 a9,.slice ba bb bc,.slice bd bg bl]/\X 5 (((vA c).add 0).block)/\∃c1:oA,∃o5 bs:Nat,D.drew.cell? ((vA c).add 0)=some (.slice c1 o5 bs)/\(0<=(11:Int)/\(11:Int)<=((bs:Nat):Int))/\(0<=(3:Int)/\(3:Int)<=((Int.toNat 11:Nat):Int))/\∀hc:oA,hc=(if bs=(Int.toNat 3)then c1 else(c1:oA).map (·.add ((Int.toNat 3)*1)))->∀hf:Nat,hf=(Int.toNat 11) - (Int.toNat 3)->∀o6:Nat,o6=bs - (Int.toNat 3)->8<=hf/\ai hc λhg=>X 8 (hg.block)/\∃hh hi hj hk hl hn ho hp:Int,ar D.drew hg 0 [O hh,O hi,O hj,O hk,O hl,O hn,O ho,O hp]/\X 10 (((vA c).add 2).block)/\∃hq:oA,∃hr hs:Nat,D.drew.cell? ((vA c).add 2)=some (.slice hq hr hs)/\((λqT:Int->Int->bP->Nat->World->Prop=>(Calls Tryz.prog 44 #[(.agg #[(.slice cb cc cf),(.slice cg cj ck),(.slice ct cA cC),(.slice cM cN c0)])] D.drew λe y=>∃an:Int,e=.returned (J an)/\Kept (aX X [2,4,5,6,7,8,9,10]) D.drew y/\∃Y:bP,(∀i k,X i k->Y i k)/\(Calls Tryz.prog 45 #[(.agg #[(.slice a4 a5 a6),(.slice a7 a8 a9),(.slice ba bb bc),(.slice bd bg bl)])] y λe A=>∃T:Int,e=.returned (J T)/\Kept (aX Y [4,5,6,7,8,9,10]) y A/\∃G:bP,(∀i k,Y i k->G i k)/\∀(B:Nat)(H:World),B=A.heap.size->H=A.alloc (.cells (#[J 0,J 0,O 0,O 0,O 0,O 0,O 0,O 0,O 0,O 0,(.slice none 0 0)]) 91)->Kept (aX G [0,1,2,3,4,5,6,7,8,9,10,11]) A H/\∃U:bP,(∀i k,G i k->U i k)/\qT an T U B H)/\(∀(B:Nat)(A:World),B=y.heap.size->A=y.alloc (.cells (#[J 0,J 0,O 0,O 0,O 0,O 0,O 0,O 0,O 0,O 0,(.slice none 0 0)]) 91)->Kept (aX Y [0,1,2,4,5,6,7,8,9,10]) y A/\∃G:bP,(∀i k,Y i k->G i k)/\Calls Tryz.prog 45 #[(.agg #[(.slice a4 a5 a6),(.slice a7 a8 a9),(.slice ba bb bc),(.slice bd bg bl)])] A λe H=>∃T:Int,e=.returned (J T)/\Kept (aX G [4,5,6,7,8,9,10,12]) A H/\∃U:bP,(∀i k,G i k->U i k)/\qT an T U B H))/\(∀(B:Nat)(y:World),B=D.drew.heap.size->y=D.drew.alloc (.cells (#[J 0,J 0,O 0,O 0,O 0,O 0,O 0,O 0,O 0,O 0,(.slice none 0 0)]) 91)->Kept (aX X [0,2,4,5,6,7,8,9,10]) D.drew y/\∃Y:bP,(∀i k,X i k->Y i k)/\Calls Tryz.prog 44 #[(.agg #[(.slice cb cc cf),(.slice cg cj ck),(.slice ct cA cC),(.slice cM cN c0)])] y λe A=>∃an:Int,e=.returned (J an)/\Kept (aX Y [2,4,5,6,7,8,9,10,12]) y A/\∃G:bP,(∀i k,Y i k->G i k)/\Calls Tryz.prog 45 #[(.agg #[(.slice a4 a5 a6),(.slice a7 a8 a9),(.slice ba bb bc),(.slice bd bg bl)])] A λe H=>∃T:Int,e=.returned (J T)/\Kept (aX G [4,5,6,7,8,9,10,12]) A H/\∃U:bP,(∀i k,G i k->U i k)/\qT an T U B H)) λan T U B H=>ao H (vA B) [J an,J T,O hh,O hi,O hj,O hk,O hl,O hn,O ho,O hp,(.slice hq hr hs)] λht=>∃b7:bP,(∀i k,U i k->b7 i k)/\∃hv hx hy hz hA hB hC hD hE hF:Int,∃hG:oA,∃hH hI:Nat,ar ht (vA B) 0 [J hv,J hx,O hy,O hz,O hA,O hB,O hC,O hD,O hE,O hF,.slice hG hH hI]/\Calls Tryz.prog 46 #[(.agg #[J hv,J hx,O hy,O hz,O hA,O hB,O hC,O hD,O hE,O hF,(.slice hG hH hI)])] ht λe c2=>∃hJ:oA,∃c3:Int,e=.returned (.tuple #[(.pointer hJ),J c3])/\split ((c3:Int) !=0) (∃hK:oA,∃hL hM:Nat,∃hN:oA,∃hO hP:Nat,∃hQ:oA,∃hR hS:Nat,∃hT:oA,∃hU hV:Nat,ar c2 (vA c) 0 [.slice hK hL hM,.slice hN hO hP,.slice hQ hR hS,.slice hT hU hV]/\ao c2 (vA z) [(.slice hK hL hM),(.slice hN hO hP),(.slice hQ hR hS),(.slice hT hU hV)] λb0=>∃d:oA,∃f g:Nat,∃j:oA,∃l p:Nat,∃q:oA,∃s t:Nat,∃u:oA,∃v x:Nat,ar b0 (vA z) 0 [.slice d f g,.slice j l p,.slice q s t,.slice u v x]/\R (.tuple #[(.agg #[(.slice d f g),(.slice j l p),(.slice q s t),(.slice u v x)]),(.pointer none),J c3]) b0) (Calls Tryz.prog 20 #[(.pointer hJ)] c2 λe b0=>∃hW:oA,e=.returned (.pointer hW)/\Calls Tryz.prog 47 #[(.pointer hW)] b0 λe hX=>∃c4:oA,e=.returned (.pointer c4)/\∃hY:oA,∃hZ h0:Nat,hX.cell? ((vA c).add 1)=some (.slice hY hZ h0)/\Calls Tryz.prog 48 #[(.pointer c4),(.slice hY hZ h0)] hX λe aA=>∃h1:oA,∃c5:Int,e=.returned (.tuple #[(.pointer h1),J c5])/\split ((c5:Int) !=0) (∃h2:oA,∃h3 h4:Nat,∃h5:oA,∃h6 h7:Nat,∃h8:oA,∃h9 ie:Nat,∃ih:oA,∃j0 j1:Nat,ar aA (vA c) 0 [.slice h2 h3 h4,.slice h5 h6 h7,.slice h8 h9 ie,.slice ih j0 j1]/\ao aA (vA z) [(.slice h2 h3 h4),(.slice h5 h6 h7),(.slice h8 h9 ie),(.slice ih j0 j1)] λaC=>∃d:oA,∃f g:Nat,∃j:oA,∃l p:Nat,∃q:oA,∃s t:Nat,∃u:oA,∃v x:Nat,ar aC (vA z) 0 [.slice d f g,.slice j l p,.slice q s t,.slice u v x]/\R (.tuple #[(.agg #[(.slice d f g),(.slice j l p),(.slice q s t),(.slice u v x)]),(.pointer none),J c5]) aC) (∃b8:bP,b8 0 ((vA c).block)/\∃j2:oA,∃kk kl:Nat,∃ks:oA,∃kv kx:Nat,∃ky:oA,∃kA kC:Nat,∃kD:oA,∃kI kN:Nat,ar aA.drew (vA c) 0 [.slice j2 kk kl,.slice ks kv kx,.slice ky kA kC,.slice kD kI kN]/\b8 2 ((vA c).block)/\∃kS:oA,∃k0 k1:Nat,∃k2:oA,∃k3 k4:Nat,∃k5:oA,∃k6 k7:Nat,∃la:oA,∃lb lg:Nat,ar aA.drew (vA c) 0 [.slice kS k0 k1,.slice k2 k3 k4,.slice k5 k6 k7,.slice la lb lg]/\Calls Tryz.prog 45 #[(.agg #[(.slice j2 kk kl),(.slice ks kv kx),(.slice ky kA kC),(.slice kD kI kN)])] aA.drew λe aC=>∃lj:Int,e=.returned (J lj)/\Kept (aX b8 [2,6]) aA.drew aC/\∃b9:bP,(∀i k,b8 i k->b9 i k)/\Calls Tryz.prog 44 #[(.agg #[(.slice kS k0 k1),(.slice k2 k3 k4),(.slice k5 k6 k7),(.slice la lb lg)])] aC λe c6=>∃ll:Int,e=.returned (J ll)/\Kept (aX b9 [6]) aC c6/\∃c7:bP,(∀i k,b9 i k->c7 i k)/\Calls Tryz.prog 49 #[J lj,J ll] c6 λe lp=>∃lA:oA,∃c8 o7:Nat,e=.returned (.slice lA c8 o7)/\Kept (aX c7 [6]) c6 lp/\∃o8:bP,(∀i k,c7 i k->o8 i k)/\∃I:Nat->Int->World->Prop,(∃m,I m 0 lp)/\∀(m:Nat)(_gv4:Nat->Value)(K:Int),∀V,I m K V->split (decide ((K:Int)<((c8:Nat):Int))) ((0<=(K:Int)/\(K:Int)<((c8:Nat):Int))/\ai lA λlC=>∃lN:Bool,∃l0:Int,(V.cell? ((lC.add (Int.toNat K*2)).add 0)=some (vB lN)/\V.cell? ((lC.add (Int.toNat K*2)).add 1)=some (J l0))/\∀(a2:Nat)(aN:World),a2=V.heap.size->aN=V.alloc (.cells (#[vB false,J 0]) 111)->ao aN (vA a2) [vB lN,J l0] λZ=>∃L:bP,L 1 ((vA a2).block)/\∃l1:Bool,∃l2:Int,(Z.drew.cell? ((vA a2).add 0)=some (vB l1)/\Z.drew.cell? ((vA a2).add 1)=some (J l2))/\L 3 (((vA c).add 3).block)/\∃l3:oA,∃l4 o9:Nat,Z.drew.cell? ((vA c).add 3)=some (.slice l3 l4 o9)/\(0<=(K:Int)/\(K:Int)<((l4:Nat):Int))/\ai l3 λl8=>L 6 ((l8.add (Int.toNat K*1)).block)/\∃l9:oA,∃ma mb:Nat,Z.drew.cell? (l8.add (Int.toNat K*1))=some (.slice l9 ma mb)/\Calls Tryz.prog 50 #[(.pointer c4),(.agg #[vB l1,J l2]),(.slice l9 ma mb)] Z.drew λe mc=>∃pa:Int,e=.returned (J pa)/\Kept (aX L [2]) Z.drew mc/\∃c9:bP,(∀i k,L i k->c9 i k)/\∃m1,m1<m/\I m1 (i64.wrap (K+1)) mc) (∃L:bP,L 0 ((vA B).block)/\∃me mn mv mx mz mA m0 m2 m3 m4:Int,∃m5:oA,∃m6 m7:Nat,ar V.drew (vA B) 0 [J me,J mn,O mv,O mx,O mz,O mA,O m0,O m2,O m3,O m4,.slice m5 m6 m7]/\L 3 (((vA c).add 0).block)/\∃da:oA,∃dc dd:Nat,V.drew.cell? ((vA c).add 0)=some (.slice da dc dd)/\(0<=(11:Int)/\(11:Int)<=((dc:Nat):Int))/\∀m8:oA,m8=(if dd=(Int.toNat 11)then da else(da:oA).map (·.add ((Int.toNat 11)*1)))->∀m9:Nat,m9=dc - (Int.toNat 11)->∀pb:Nat,pb=dd - (Int.toNat 11)->15<=m9/\ai m8 λna=>L 6 (na.block)/\∃nb nc nd ni nj nn ns nv nw nx n0 n1 n3 n4 n5:Int,ar V.drew na 0 [O nb,O nc,O nd,O ni,O nj,O nn,O ns,O nv,O nw,O nx,O n0,O n1,O n3,O n4,O n5]/\Calls Tryz.prog 51 #[(.agg #[J me,J mn,O mv,O mx,O mz,O mA,O m0,O m2,O m3,O m4,(.slice m5 m6 m7)]),(.pointer h1),(.agg #[O nb,O nc,O nd,O ni,O nj,O nn,O ns,O nv,O nw,O nx,O n0,O n1,O n3,O n4,O n5])] V.drew λe aN=>∃n6:oA,∃n7:Int,e=.returned (.tuple #[(.pointer n6),J n7])/\Kept (aX L [2,3]) V.drew aN/\∃c9:bP,(∀i k,L i k->c9 i k)/\∃n8:oA,∃n9 oa:Nat,∃oi:oA,∃oj oC:Nat,∃oN:oA,∃o0 o1:Nat,∃o2:oA,∃o3 o4:Nat,ar aN (vA c) 0 [.slice n8 n9 oa,.slice oi oj oC,.slice oN o0 o1,.slice o2 o3 o4]/\ao aN (vA z) [(.slice n8 n9 oa),(.slice oi oj oC),(.slice oN o0 o1),(.slice o2 o3 o4)] λZ=>∃d:oA,∃f g:Nat,∃j:oA,∃l p:Nat,∃q:oA,∃s t:Nat,∃u:oA,∃v x:Nat,ar Z (vA z) 0 [.slice d f g,.slice j l p,.slice q s t,.slice u v x]/\R (.tuple #[(.agg #[(.slice d f g),(.slice j l p),(.slice q s t),(.slice u v x)]),(.pointer n6),J n7]) Z)))))))):Calls Tryz.prog 30 #[(.slice W bN E)] w (aT R):=rvc [7] (aq (.node none (.node none (.node (some ⟨[(24,.one (.bool))],(rgN 16 9)⟩) .leaf .leaf) .leaf) (aq (aq (aq (aq (aq (aq (aq (aq (aq (.node none (aq (.node none (.node (some ⟨[(89,.one (.int .i64))],[13,14,89,90,91,92,93,94,95,96,97,98,99,100,101,102]⟩) .leaf .leaf) .leaf)) .leaf)))))))))))) Tryz.func30 h
theorem yE(c:oA)(d f:Nat){R:aK}{w:World}(h:Calls Tryz.prog 30 #[(.slice c d f)] w λe g=>∃i:oA,∃j k:Nat,∃l:oA,∃m p:Nat,∃q:oA,∃s t:Nat,∃u:oA,∃v x:Nat,∃y:oA,∃b:Int,e=.returned (.tuple #[(.agg #[(.slice i j k),(.slice l m p),(.slice q s t),(.slice u v x)]),(.pointer y),J b])/\∀(z:Nat)(A:World),z=g.heap.size->A=g.alloc (.cells (#[(.slice none 0 0),(.slice none 0 0),(.slice none 0 0),(.slice none 0 0)]) 70)->ao A (vA z) [(.slice i j k),(.slice l m p),(.slice q s t),(.slice u v x)] λB=>split ((b:Int) !=0) (R (.tuple #[(.pointer none),J b]) B) (R (.tuple #[(.pointer y),J 0]) B)):Calls Tryz.prog 15 #[(.slice c d f)] w (aT R):=rvc [] (.leaf) Tryz.func15 h
theorem vi(q:oA)(c f:Nat){R:aK}{w:World}(h:∃an:Bool->World->Prop,(split (decide ((((c:Nat):Int):Int)<8)) (an true w) ((0<=(8:Int)/\(8:Int)<=((f:Nat):Int))/\∀a1:oA,a1=(if f=0 then q else(q:oA).map (·.add (0*1)))->∀a2:Nat,a2=(Int.toNat 8) - 0->∀a3:Nat,a3=f - 0->∃a4:ByteArray,∃z,(convert 27 9 (.slice a1 a2 a3):Sem Value).run Tryz.prog w=.ok (.string a4) z/\an (!((a4:ByteArray).toList==((⟨#[119,97,114,100,101,110,32,49]⟩:ByteArray):ByteArray).toList)) z))/\∀(_gv:Nat->Value)(a5:Bool),∀z,an a5 z->split a5 (R (.tuple #[(.pointer none),J 270]) z) (Calls Tryz.prog 31 #[(.slice q c f)] z λe az=>∃A:oA,∃B g7:Nat,∃a6:Bool,e=.returned (.tuple #[(.slice A B g7),vB a6])/\split (!a6) (R (.tuple #[(.pointer none),J 272]) az) (∃b:bP,(0<=(i64.wrap (((c:Nat):Int) - 4):Int)/\(i64.wrap (((c:Nat):Int) - 4):Int)<=((f:Nat):Int))/\∀a7:oA,a7=(if f=0 then q else(q:oA).map (·.add (0*1)))->∀a8:Nat,a8=(Int.toNat (i64.wrap (((c:Nat):Int) - 4))) - 0->∀a9:Nat,a9=f - 0->(0<=(i64.wrap (((c:Nat):Int) - 4):Int)/\(i64.wrap (((c:Nat):Int) - 4):Int)<=((c:Nat):Int))/\∀ba:oA,ba=(if f=(Int.toNat (i64.wrap (((c:Nat):Int) - 4)))then q else(q:oA).map (·.add ((Int.toNat (i64.wrap (((c:Nat):Int) - 4)))*1)))->∀bb:Nat,bb=c - (Int.toNat (i64.wrap (((c:Nat):Int) - 4)))->∀bc:Nat,bc=f - (Int.toNat (i64.wrap (((c:Nat):Int) - 4)))->Calls Tryz.prog 7 #[(.slice a7 a8 a9)] az.drew λe aA=>∃bd:Int,e=.returned (O bd)/\Kept (aX b [1,6,7,8,9,10]) az.drew aA/\∃b1:bP,(∀i k,b i k->b1 i k)/\Calls Tryz.prog 32 #[(.slice ba bb bc)] aA λe s=>∃bg:Int,e=.returned (O bg)/\Kept (aX b1 [1,2,7]) aA s/\∃b2:bP,(∀i k,b1 i k->b2 i k)/\split ((bd:Int) !=bg) (R (.tuple #[(.pointer none),J 271]) s) ((0<=(0:Int)/\(0:Int)<((B:Nat):Int))/\ai A λg8=>∃D:oA,∃E ha:Nat,s.cell? (g8.add (Int.toNat 0*1))=some (.slice D E ha)/\∃L:bP,(0<=(0:Int)/\(0:Int)<((E:Nat):Int))/\ai D λbl=>L 2 ((bl.add (Int.toNat 0*1)).block)/\∃bs:Int,s.drew.cell? (bl.add (Int.toNat 0*1))=some (O bs)/\(0<=(1:Int)/\(1:Int)<((E:Nat):Int))/\ai D λb0=>L 6 ((b0.add (Int.toNat 1*1)).block)/\∃ca:Int,s.drew.cell? (b0.add (Int.toNat 1*1))=some (O ca)/\∀(d:Nat)(aC:World),d=s.drew.heap.size->aC=s.drew.alloc (.cells (#[J 0,J 0,O 0,O 0,O 0,O 0,O 0,O 0,O 0,O 0,(.slice none 0 0)]) 57)->Kept (aX L [0,1,2,3,4,5,6,7,8]) s.drew aC/\∃b4:bP,(∀i k,L i k->b4 i k)/\ao aC (vA d) [J (i64.wrap bs),J (i64.wrap ca),O 0,O 0,O 0,O 0,O 0,O 0,O 0,O 0,(.slice none 0 0)] λcb=>∃b5:bP,(∀i k,b4 i k->b5 i k)/\∀(aN:Nat)(cc:World),aN=cb.heap.size->cc=cb.alloc (.cells (#[O 0,O 0,O 0,O 0,O 0,O 0,O 0,O 0,O 0,O 0,O 0,O 0,O 0,O 0,O 0]) 52)->∀i:Int,i=0->∃I:Nat->Int->World->Prop,(∃m,I m i cc)/\∀(m:Nat)(_gv3:Nat->Value)(i1:Int),∀M,I m i1 M->split (decide ((i1:Int)<8)) ((0<=(i64.wrap (3+i1):Int)/\(i64.wrap (3+i1):Int)<((E:Nat):Int))/\ai D λhb=>∃cf:Int,M.cell? (hb.add (Int.toNat (i64.wrap (3+i1))*1))=some (O cf)/\(0<=(i1:Int)/\(i1:Int)<((8:Nat):Int))/\ao M (((vA d).add 2).add (Int.toNat i1*1)) [O cf] λt=>∀i2:Int,i2=(i64.wrap (i1+1))->∃m1,m1<m/\I m1 i2 t) (∀i2:Int,i2=0->∃I1:Nat->Int->World->Prop,(∃T,I1 T i2 M)/\∀(T:Nat)(_gv4:Nat->Value)(i3:Int),∀t,I1 T i3 t->split (decide ((i3:Int)<15)) ((0<=(i64.wrap (11+i3):Int)/\(i64.wrap (11+i3):Int)<((E:Nat):Int))/\ai D λhc=>∃cg:Int,t.cell? (hc.add (Int.toNat (i64.wrap (11+i3))*1))=some (O cg)/\(0<=(i3:Int)/\(i3:Int)<((15:Nat):Int))/\ao t ((vA aN).add (Int.toNat i3*1)) [O cg] λg=>∀i4:Int,i4=(i64.wrap (i3+1))->∃m3,m3<T/\I1 m3 i4 g) ((0<=(2:Int)/\(2:Int)<((E:Nat):Int))/\ai D λhf=>∃cj:Int,t.cell? (hf.add (Int.toNat 2*1))=some (O cj)/\∀streams:Int,streams=(i64.wrap cj)->∀i4:Int,i4=0->∃I2:Nat->Int->World->Prop,(∃U,I2 U i4 t)/\∀(U:Nat)(_gv5:Nat->Value)(i5:Int),∀g,I2 U i5 g->split (decide ((i5:Int)<streams)) (∃V:bP,V 1 (((vA d).add 10).block)/\∃ck:oA,∃ct cA:Nat,g.drew.cell? ((vA d).add 10)=some (.slice ck ct cA)/\(0<=(i64.wrap (1+i5):Int)/\(i64.wrap (1+i5):Int)<((B:Nat):Int))/\ai A λcC=>V 6 ((cC.add (Int.toNat (i64.wrap (1+i5))*1)).block)/\∃cM:oA,∃cN c0:Nat,g.drew.cell? (cC.add (Int.toNat (i64.wrap (1+i5))*1))=some (.slice cM cN c0)/\∀(c1:Nat)(j:World),c1=g.drew.heap.size->j=g.drew.alloc (.cells #[(.slice cM cN c0)] 26)->Kept (aX V [0,1,3]) g.drew j/\∃b7:bP,(∀i k,V i k->b7 i k)/\∃c2:oA,∃c3 c4:Nat,∃H,(Builtin.append_ #[55,55] 55 #[(.slice ck ct cA),(.slice (pvA c1) 1 1)]:Sem Value).run Tryz.prog j=.ok (.slice c2 c3 c4) H/\Kept (aX b7 [2,3,4]) j H/\∃b8:bP,(∀i k,b7 i k->b8 i k)/\ao H ((vA d).add 10) [(.slice c2 c3 c4)] λu=>∃b9:bP,(∀i k,b8 i k->b9 i k)/\∀i6:Int,i6=(i64.wrap (i5+1))->∃m5,m5<U/\I2 m5 i6 u) (∃c5 c6 c7 c8 c9 da dc dd dk dp:Int,∃dr:oA,∃dA dC:Nat,ar g (vA d) 0 [J c5,J c6,O c7,O c8,O c9,O da,O dc,O dd,O dk,O dp,.slice dr dA dC]/\Calls Tryz.prog 33 #[(.agg #[J c5,J c6,O c7,O c8,O c9,O da,O dc,O dd,O dk,O dp,(.slice dr dA dC)])] g λe j=>∃dN:Bool,e=.returned (vB dN)/\split (!dN) (R (.tuple #[(.pointer none),J 210]) j) (∃dT:Int,j.cell? ((vA d).add 0)=some (J dT)/\∃ea:Int,j.cell? ((vA d).add 1)=some (J ea)/\Calls Tryz.prog 34 #[J dT,J ea] j λe H=>∃W:oA,∃hg:Int,e=.returned (.tuple #[(.pointer W),J hg])/\∀v:Int,v=(i64.wrap (2+streams))->∀p:Int,p=0->∃I3:Nat->Int->World->Prop,(∃X,I3 X p H)/\∀(X:Nat)(_gv6:Nat->Value)(x:Int),∀u,I3 X x u->∃eb:Int,u.cell? ((vA d).add 1)=some (J eb)/\split (decide ((x:Int)<eb)) ((0<=(i64.wrap (v+x):Int)/\(i64.wrap (v+x):Int)<((B:Nat):Int))/\ai A λhh=>∃ec:oA,∃ed ee:Nat,u.cell? (hh.add (Int.toNat (i64.wrap (v+x))*1))=some (.slice ec ed ee)/\Calls Tryz.prog 35 #[(.pointer W),(.agg #[vB false,J x]),(.slice ec ed ee)] u λe l=>∃hi:Int,e=.returned (J hi)/\∀K:Int,K=(i64.wrap (x+1))->∃m7,m7<X/\I3 m7 K l) (∀K:Int,K=0->∃I4:Nat->Int->World->Prop,(∃Y,I4 Y K u)/\∀(Y:Nat)(_gv7:Nat->Value)(y:Int),∀l,I4 Y y l->∃ei:Int,l.cell? ((vA d).add 0)=some (J ei)/\split (decide ((y:Int)<ei)) (∃Z:Int,l.cell? ((vA d).add 1)=some (J Z)/\(0<=(i64.wrap ((i64.wrap (v+Z))+y):Int)/\(i64.wrap ((i64.wrap (v+Z))+y):Int)<((B:Nat):Int))/\ai A λhj=>∃er:oA,∃et ey:Nat,l.cell? (hj.add (Int.toNat (i64.wrap ((i64.wrap (v+Z))+y))*1))=some (.slice er et ey)/\Calls Tryz.prog 35 #[(.pointer W),(.agg #[vB true,J y]),(.slice er et ey)] l λe G=>∃hk:Int,e=.returned (J hk)/\∀p4:Int,p4=(i64.wrap (y+1))->∃m9,m9<Y/\I4 m9 p4 G) ((0<=(i64.wrap (1+streams):Int)/\(i64.wrap (1+streams):Int)<((B:Nat):Int))/\ai A λhl=>∃eL:oA,∃eM eN:Nat,l.cell? (hl.add (Int.toNat (i64.wrap (1+streams))*1))=some (.slice eL eM eN)/\Calls Tryz.prog 36 #[(.pointer W),(.slice eL eM eN)] l λe G=>∃eS:oA,∃e0:Int,e=.returned (.tuple #[(.pointer eS),J e0])/\split ((e0:Int) !=0) (R (.tuple #[(.pointer none),J 110]) G) (∃e1 e2 e3 e4 e5 e6 e7 e8 e9 fa:Int,∃fb:oA,∃fA fC:Nat,ar G (vA d) 0 [J e1,J e2,O e3,O e4,O e5,O e6,O e7,O e8,O e9,O fa,.slice fb fA fC]/\∃ga gb gd gf gh gk gm gr gv gw g0 g1 g2 g3 g4:Int,ar G (vA aN) 0 [O ga,O gb,O gd,O gf,O gh,O gk,O gm,O gr,O gv,O gw,O g0,O g1,O g2,O g3,O g4]/\Calls Tryz.prog 37 #[(.agg #[J e1,J e2,O e3,O e4,O e5,O e6,O e7,O e8,O e9,O fa,(.slice fb fA fC)]),(.pointer eS),(.agg #[O ga,O gb,O gd,O gf,O gh,O gk,O gm,O gr,O gv,O gw,O g0,O g1,O g2,O g3,O g4])] G λe g5=>∃g6:oA,∃a0:Int,e=.returned (.tuple #[(.pointer g6),J a0])/\split ((a0:Int) !=0) (R (.tuple #[(.pointer none),J a0]) g5) (R (.tuple #[(.pointer g6),J 0]) g5)))))))))))):Calls Tryz.prog 16 #[(.slice q c f)] w (aT R):=rvc [9,10,11,12,16,17,18] (aq (.node none (.node none (.node (some ⟨[(30,.one (.bool))],(rgN 22 9)⟩) .leaf .leaf) .leaf) (aq (aq (aq (aq (aq (aq (.node none (aq (.node none (.node (some ⟨[(9,.one (.int .i64))],[9,63,64,65,66,67,68,69,70,71,72,73,74]⟩) .leaf .leaf) .leaf)) (.node none (aq (.node none (.node (some ⟨[(10,.one (.int .i64))],[10,75,76,77,78,79,80,81,82,83,84,85]⟩) .leaf .leaf) .leaf)) (aq (.node none (aq (.node none (.node (some ⟨[(12,.one (.int .i64))],[12,90,91,92,93,94,95,96,97,98,99,100,101,102,103,104]⟩) .leaf .leaf) .leaf)) (aq (aq (aq (aq (.node none (aq (.node none (.node (some ⟨[(17,.one (.int .i64))],[17,119,120,121,122,123,124,125,126,127,128,129,130,131,132,133,134]⟩) .leaf .leaf) .leaf)) (.node none (aq (.node none (.node (some ⟨[(18,.one (.int .i64))],[18,135,136,137,138,139,140,141,142,143,144,145,146,147,148,149,150,151,152,153]⟩) .leaf .leaf) .leaf)) .leaf)))))))))))))))))) Tryz.func16 h
theorem rv(x lo hi:Int){R:aK}{w:World}(h:nz (i64.wrap ((i64.wrap (hi - lo))+1)) (∀r:Int,r=((x:Int).tmod (i64.wrap ((i64.wrap (hi - lo))+1)))->split (decide ((r:Int)<0)) (∀r1:Int,r1=(i64.wrap ((i64.wrap ((i64.wrap (r+hi)) - lo))+1))->R (J (i64.wrap (lo+r1))) w) (R (J (i64.wrap (lo+r))) w))):Calls Tryz.prog 11 #[J x,J lo,J hi] w (aT R):=rvc [7] (.leaf) Tryz.func11 h
theorem uJ(g:oA)(c W:Nat){R:aK}{w:World}(h:∀i:Int,i=0->∃I:Nat->Option Addr->Nat->Nat->Int->World->Prop,(∃m,I m none 0 0 i w)/\∀(m:Nat)(_gv:Nat->Value)(j:oA)(l p:Nat)(i1:Int),∀q,I m j l p i1 q->split (decide ((i1:Int)<((c:Nat):Int))) (∀k:Int,k=0->∃s:Nat->Option Addr->Nat->Nat->Int->World->Prop,(∃d,s d j l p k q)/\∀(d:Nat)(_gv1:Nat->Value)(t:oA)(f u:Nat)(v:Int),∀x,s d t f u v x->∃y:Bool->World->Prop,((0<=(i1:Int)/\(i1:Int)<((c:Nat):Int))/\ai g λX=>∃z:Int,x.cell? ((X.add (Int.toNat i1*2)).add 1)=some (J z)/\Calls Tryz.prog 11 #[J z,J 0,J 39999] x λe b=>∃A:Int,e=.returned (J A)/\split (decide ((v:Int)<A)) (y (decide ((((f:Nat):Int):Int)<262147)) b) (y false b))/\∀(_gv2:Nat->Value)(B:Bool),∀b,y B b->split B ((0<=(i1:Int)/\(i1:Int)<((c:Nat):Int))/\ai g λY=>∃D:Int,b.cell? ((Y.add (Int.toNat i1*2)).add 0)=some (O D)/\∀(E:Nat)(G:World),E=b.heap.size->G=b.alloc (.cells #[O D] 22)->∃H:oA,∃K L:Nat,∃M,(Builtin.append_ #[26,26] 26 #[(.slice t f u),(.slice (pvA E) 1 1)]:Sem Value).run Tryz.prog G=.ok (.slice H K L) M/\∀T:Int,T=(i64.wrap (v+1))->∃U,U<d/\s U H K L T M) (∀i2:Int,i2=(i64.wrap (i1+1))->∃V,V<m/\I V t f u i2 b)) (R (.slice j l p) q)):Calls Tryz.prog 6 #[(.slice g c W)] w (aT R):=rvc [3,4,5] (aq (aq (.node none (aq (.node none (.node (some ⟨[(3,.one (.slice)),(4,.one (.int .i64))],(rgN 3 32)⟩) (aq (.node none (.node none (aq (.node none (.node (some ⟨[(3,.one (.slice)),(5,.one (.int .i64))],[3,5,12,13,14,15,16,17,18,19,20,21,22,23,24,25,26,27,28,29,30,31,32,33,34]⟩) (.node none (.node none (.node (some ⟨[(24,.one (.bool))],(rgN 12 13)⟩) .leaf .leaf) .leaf) .leaf) .leaf) .leaf)) .leaf) .leaf)) .leaf) .leaf)) .leaf))) Tryz.func6 h
theorem rB(c:oA)(d f:Nat){R:aK}{w:World}(h:Calls Tryz.prog 10 #[(.slice c d f)] w λe g=>∃i:oA,∃b j:Nat,e=.returned (.slice i b j)/\∀n:Int,n=(u32.wrap ((b:Nat):Int))->∀(k:Nat)(l:World),k=g.heap.size->l=g.alloc (.cells #[vY (IntKind.u8.wrap ((n:Int).fdiv (2 ^ 24))),vY (IntKind.u8.wrap ((n:Int).fdiv (2 ^ 16))),vY (IntKind.u8.wrap ((n:Int).fdiv (2 ^ 8))),vY (IntKind.u8.wrap n)] 5)->∃m:oA,∃p q:Nat,∃s,(Builtin.append_ #[27,27] 27 #[(.slice (pvA k) 4 4),(.slice i b j)]:Sem Value).run Tryz.prog l=.ok (.slice m p q) s/\R (.slice m p q) s):Calls Tryz.prog 5 #[(.slice c d f)] w (aT R):=rvc [4] (.leaf) Tryz.func5 h
theorem uK {R:aK}{w:World}(h:∀(d:Nat)(f:World),d=w.heap.size->f=w.alloc (.cells #[O 1,O 2,O 2,O 3] 22)->Calls Tryz.prog 12 #[(.slice (pvA d) 4 4)] f λe g=>∃i:oA,∃j k:Nat,e=.returned (.slice i j k)/\∀(l:Nat)(m:World),l=g.heap.size->m=g.alloc (.cells #[vY 0,vY 0,vY 0,vY 3,vY 128,vY 3,vY 0,vY 0,vY 0,vY 7] 5)->Calls Tryz.prog 13 #[(.slice (pvA l) 10 10)] m λe A=>∃p:oA,∃q s:Nat,∃t:Int,e=.returned (.tuple #[(.slice p q s),J t])/\∃c:Bool->World->Prop,(∃u:ByteArray,∃b,(convert 27 9 (.slice i j k):Sem Value).run Tryz.prog A=.ok (.string u) b/\split ((u:ByteArray).toList==((⟨#[0,0,0,4,0,1,0,0,0,1,128,2,0,0,0,2,0,1,0,0,0,3]⟩:ByteArray):ByteArray).toList) (split ((t:Int)==0) (∀(v:Nat)(x:World),v=b.heap.size->x=b.alloc (.cells #[O 7,O 7,O 7] 22)->Calls Tryz.prog 14 #[(.slice p q s),(.slice (pvA v) 3 3)] x λe B=>∃y:Bool,e=.returned (vB y)/\c y B) (c false b)) (c false b))/\∀(_gv2:Nat->Value)(z:Bool),∀b,c z b->R (vB z) b):Calls Tryz.prog 8 #[] w (aT R):=rvc [] (aq (aq (aq (.node none (.node (some ⟨[(0,.one (.bool))],[0,11,12,13,14,15,16,17,18,19,20,21,22]⟩) .leaf .leaf) .leaf)))) Tryz.func8 h
theorem ry(v:oA)(x y:Nat){R:aK}{w:World}(h:Calls Tryz.prog 4 #[(.slice v x y)] w λe wv=>∃I:oA,∃K L:Nat,e=.returned (.slice I K L)/\Calls Tryz.prog 15 #[(.slice I K L)] wv λe c8=>∃g:oA,∃M:Int,e=.returned (.tuple #[(.pointer g),J M])/\Calls Tryz.prog 16 #[(.slice v x y)] c8 λe T=>∃q:oA,∃s:Int,e=.returned (.tuple #[(.pointer q),J s])/\∃z:Bool->World->Prop,(split ((M:Int) !=s) (z true T) (z (!(g.isNone==((s:Int) !=0))) T))/\∀(_gv:Nat->Value)(U:Bool),∀j,z U j->split U (R (vB false) j) (∃l:Bool->World->Prop,(∃b:bP,split ((s:Int) !=0) (l true j.drew) (Calls Tryz.prog 17 #[(.pointer g)] j.drew λe c=>∃V:oA,∃W X:Nat,e=.returned (.slice V W X)/\Kept (aX b [6]) j.drew c/\∃t:bP,(∀i k,b i k->t i k)/\∃Y:ByteArray,(∀d,Kept (t 5) c d->(convert 27 9 (.slice V W X)).run Tryz.prog d=.ok (.string Y) d)/\Calls Tryz.prog 18 #[(.pointer q)] c λe f=>∃Z:oA,∃an az:Nat,e=.returned (.slice Z an az)/\Kept (aX t [5]) c f/\∃m:bP,(∀i k,t i k->m i k)/\∃aA:ByteArray,(∀d,Kept (m 8) f d->(convert 27 9 (.slice Z an az)).run Tryz.prog d=.ok (.string aA) d)/\split ((Y:ByteArray).toList==(aA:ByteArray).toList) (ai q λaC=>m 16 ((aC.add 20).block)/\∃aN a0 a1 a2 a3 a4 a5 a6 a7 a8 a9 ba bb bc bd:Int,ar f (aC.add 20) 0 [O aN,O a0,O a1,O a2,O a3,O a4,O a5,O a6,O a7,O a8,O a9,O ba,O bb,O bc,O bd]/\Calls Tryz.prog 19 #[(.pointer g)] f λe p=>∃bg bl bs b0 b8 b9 ca cb cc cf cg cj ck ct cA:Int,e=.returned (.agg #[O bg,O bl,O bs,O b0,O b8,O b9,O ca,O cb,O cc,O cf,O cg,O cj,O ck,O ct,O cA])/\Kept (aX m [0,3,13,14,15,16]) f p/\∃u:bP,(∀i k,m i k->u i k)/\split (bk #[O bg,O bl,O bs,O b0,O b8,O b9,O ca,O cb,O cc,O cf,O cg,O cj,O ck,O ct,O cA] #[O aN,O a0,O a1,O a2,O a3,O a4,O a5,O a6,O a7,O a8,O a9,O ba,O bb,O bc,O bd]) (ai q λcC=>u 26 ((cC.add 11).block)/\∃cM:oA,p.cell? (cC.add 11)=some (.pointer cM)/\Calls Tryz.prog 20 #[(.pointer g)] p λe A=>∃cN:oA,e=.returned (.pointer cN)/\Kept (aX u [0,3,4,5,6,7,8,9,13,14,15,16,23,24,25,26]) p A/\∃B:bP,(∀i k,u i k->B i k)/\Calls Tryz.prog 21 #[(.pointer cN)] A λe D=>∃c0:oA,∃c1 c2:Nat,e=.returned (.slice c0 c1 c2)/\Kept (aX B [0,3,4,5,6,7,8,9,13,14,15,16,23,24,25,26]) A D/\∃E:bP,(∀i k,B i k->E i k)/\Calls Tryz.prog 22 #[(.pointer cM)] D λe G=>∃c3:oA,∃c4 c5:Nat,e=.returned (.slice c3 c4 c5)/\Kept (aX E [0,3,4,5,6,7,8,9,13,14,15,16,23]) D G/\∃H:bP,(∀i k,E i k->H i k)/\Calls Tryz.prog 14 #[(.slice c0 c1 c2),(.slice c3 c4 c5)] G λe c6=>∃c7:Bool,e=.returned (vB c7)/\Kept (aX H [0,3,4,5,6,7,8,9,13,14,15,16,23,24]) G c6/\∃b7:bP,(∀i k,H i k->b7 i k)/\l c7 c6) (l false p)) (l false f)))/\∀(_gv1:Nat->Value)(x2:Bool),∀c,l x2 c->R (vB x2) c)):Calls Tryz.prog 9 #[(.slice v x y)] w (aT R):=rvc [] (aq (aq (aq (.node none (.node none (.node (some ⟨[(27,.one (.bool))],(rgN 18 10)⟩) .leaf .leaf) .leaf) (.node none (.node (some ⟨[(2,.one (.bool))],[2,28,29,30,31,32,33,34,35,36,37,38,39,40,41,42,43,44,45,46,47,48,49,50,51,52,53,54,55,56,57,58]⟩) .leaf .leaf) .leaf))))) Tryz.func9 h
theorem nI(Z pb pc:Int)(an:oA)(az aA:Nat){R:aK}{w:World}(h:∀(c:Nat)(d:World),c=w.heap.size->d=w.alloc (.cells #[O Z,O pb,O pc,(.slice an az aA)] 25)->∃aC:Int,d.cell? ((vA c).add 0)=some (O aC)/\∃aN:Int,d.cell? ((vA c).add 1)=some (O aN)/\∃a0:Int,d.cell? ((vA c).add 2)=some (O a0)/\∀(a1:Nat)(a2:World),a1=d.heap.size->a2=d.alloc (.cells #[O aC,O aN,O a0] 22)->∀i:Int,i=0->∃I:Nat->Option Addr->Nat->Nat->Int->World->Prop,(∃m,I m (pvA a1) 3 3 i a2)/\∀(m:Nat)(_gv2:Nat->Value)(U:oA)(V W:Nat)(i1:Int),∀g,I m U V W i1 g->split (decide ((i1:Int)<23)) (∀(j:Nat)(k:World),j=g.heap.size->k=g.alloc (.cells #[O (u32.wrap i1)] 22)->∃a3:oA,∃a4 a5:Nat,∃l,(Builtin.append_ #[26,26] 26 #[(.slice U V W),(.slice (pvA j) 1 1)]:Sem Value).run Tryz.prog k=.ok (.slice a3 a4 a5) l/\∀i2:Int,i2=(i64.wrap (i1+1))->∃m1,m1<m/\I m1 a3 a4 a5 i2 l) (∀(j:Nat)(k:World),j=g.heap.size->k=g.alloc (.cells #[vY 119,vY 97,vY 114,vY 100,vY 101,vY 110,vY 32,vY 49] 5)->∃a6:oA,∃a7 a8:Nat,∃l,(convert 27 27 (.slice (pvA j) 8 8):Sem Value).run Tryz.prog k=.ok (.slice a6 a7 a8) l/\Calls Tryz.prog 4 #[(.slice a6 a7 a8)] l λe cA=>∃a9:oA,∃ba bb:Nat,e=.returned (.slice a9 ba bb)/\Calls Tryz.prog 5 #[(.slice U V W)] cA λe cC=>∃bc:oA,∃bd bg:Nat,e=.returned (.slice bc bd bg)/\∃bl:oA,∃bs b0:Nat,∃b1,(Builtin.append_ #[27,27] 27 #[(.slice a9 ba bb),(.slice bc bd bg)]:Sem Value).run Tryz.prog cC=.ok (.slice bl bs b0) b1/\∀i2:Int,i2=0->∃L:Nat->Option Addr->Nat->Nat->Int->World->Prop,(∃p,L p bl bs b0 i2 b1)/\∀(p:Nat)(_gv4:Nat->Value)(q:oA)(s t:Nat)(i3:Int),∀M,L p q s t i3 M->∃J:Bool->World->Prop,(∃cM:oA,∃b2 cN:Nat,M.cell? ((vA c).add 3)=some (.slice cM b2 cN)/\split (decide ((i3:Int)<((b2:Nat):Int))) (J (decide ((i3:Int)<200)) M) (J false M))/\∀(_gv5:Nat->Value)(b3:Bool),∀u,J b3 u->split b3 (∃b4:oA,∃b5 c0:Nat,u.cell? ((vA c).add 3)=some (.slice b4 b5 c0)/\(0<=(i3:Int)/\(i3:Int)<((b5:Nat):Int))/\ai b4 λc1=>∃b6:oA,∃b7 b8:Nat,u.cell? (c1.add (Int.toNat i3*1))=some (.slice b6 b7 b8)/\Calls Tryz.prog 6 #[(.slice b6 b7 b8)] u λe v=>∃T:oA,∃X x:Nat,e=.returned (.slice T X x)/\split (decide ((((X:Nat):Int):Int)>5000)) ((0<=(5000:Int)/\(5000:Int)<=((x:Nat):Int))/\∀b9:oA,b9=(if x=0 then T else(T:oA).map (·.add (0*1)))->∀ca:Nat,ca=(Int.toNat 5000) - 0->∀cb:Nat,cb=x - 0->Calls Tryz.prog 5 #[(.slice b9 ca cb)] v λe f=>∃y:oA,∃z A:Nat,e=.returned (.slice y z A)/\∃B:oA,∃D E:Nat,∃b,(Builtin.append_ #[27,27] 27 #[(.slice q s t),(.slice y z A)]:Sem Value).run Tryz.prog f=.ok (.slice B D E) b/\∀i4:Int,i4=(i64.wrap (i3+1))->∃G,G<p/\L G B D E i4 b) (Calls Tryz.prog 5 #[(.slice T X x)] v λe f=>∃y:oA,∃z A:Nat,e=.returned (.slice y z A)/\∃B:oA,∃D E:Nat,∃b,(Builtin.append_ #[27,27] 27 #[(.slice q s t),(.slice y z A)]:Sem Value).run Tryz.prog f=.ok (.slice B D E) b/\∀i4:Int,i4=(i64.wrap (i3+1))->∃G,G<p/\L G B D E i4 b)) (Calls Tryz.prog 7 #[(.slice q s t)] u λe v=>∃H:Int,e=.returned (O H)/\∀(cc:Nat)(f:World),cc=v.heap.size->f=v.alloc (.cells #[vY (IntKind.u8.wrap ((H:Int).fdiv (2 ^ 24))),vY (IntKind.u8.wrap ((H:Int).fdiv (2 ^ 16))),vY (IntKind.u8.wrap ((H:Int).fdiv (2 ^ 8))),vY (IntKind.u8.wrap H)] 5)->∃cf:oA,∃cg cj:Nat,∃b,(Builtin.append_ #[27,27] 27 #[(.slice q s t),(.slice (pvA cc) 4 4)]:Sem Value).run Tryz.prog f=.ok (.slice cf cg cj) b/\∃Y:Bool->World->Prop,(Calls Tryz.prog 8 #[] b λe K=>∃ck:Bool,e=.returned (vB ck)/\split ck (Calls Tryz.prog 9 #[(.slice cf cg cj)] K λe c2=>∃ct:Bool,e=.returned (vB ct)/\Y ct c2) (Y false K))/\∀(_gv7:Nat->Value)(x2:Bool),∀K,Y x2 K->R (vB x2) K))):Calls Tryz.prog 3 #[(.agg #[O Z,O pb,O pc,(.slice an az aA)])] w (aT R):=rvc [3,4,5,6] (aq (aq (.node none (aq (.node none (.node (some ⟨[(3,.one (.slice)),(4,.one (.int .i64))],[3,4,16,17,18,19,20,21,22,23,24]⟩) .leaf .leaf) .leaf)) (aq (aq (.node none (aq (.node none (.node (some ⟨[(5,.one (.slice)),(6,.one (.int .i64))],[5,6,7,32,33,34,35,36,37,38,39,40,41,42,43,44,45,46,47,48,49,50,51,52,53,54,55,56,57]⟩) (.node none (.node none (.node (some ⟨[(40,.one (.bool))],(rgN 32 9)⟩) .leaf .leaf) .leaf) .leaf) .leaf) .leaf)) (aq (aq (.node none (.node (some ⟨[(2,.one (.bool))],[2,74,75,76,77,78]⟩) .leaf .leaf) .leaf))))))))) Tryz.func3 h
end Go.Proofs.YtoghdgcmhbanbaaGreatDoor
end
section
set_option maxRecDepth 100000
namespace Go.Proofs.YtoghdgcmhbanbaaGreatDoor
open Go Go.RowKit V
open Go.IntKind (i64 u32 u64 wrap_i64 wrap_u32)
open Go.Proofs (Tryz.prog)
theorem DC(g i j k l m p q:Int){R:aK}{w:World}(h:∀(b:Nat)(c:World),b=w.heap.size->c=w.alloc (.cells (q8a g i j k l m p q) 54)->∀(d:Nat)(f:World),d=c.heap.size->f=c.alloc (.cells (z8a) 54)->∀s:oA,s=(some (if 8=0 then Addr.mk b 0 none else(vA b).add (0*1)))->∀t:Nat,t=8 - 0->∀u:Nat,u=8 - 0->∀(v:Nat)(x:World),v=f.heap.size->x=f.alloc (.cells #[O 2002874980,O 1701716075,O 1702436913] 22)->Calls Tryz.prog 86 #[(.slice s t u),(.slice (pvA v) 3 3)] x λe X=>∃y z A B D E G H:Int,e=.returned (.agg (q8a y z A B D E G H))/\ao X (vA d) (q8l y z A B D E G H) λI=>∃J K L M T U V W:Int,ar I (vA d) 0 [O J,O K,O L,O M,O T,O U,O V,O W]/\R (.agg (q8a J K L M T U V W)) I):Calls Tryz.prog 70 #[(.agg (q8a g i j k l m p q))] w (aT R):=rvc [] (.leaf) Tryz.func70 h
theorem yM(g i j k l m p q:Int){R:aK}{w:World}(h:∀(b:Nat)(c:World),b=w.heap.size->c=w.alloc (.cells (q8a g i j k l m p q) 54)->∀(d:Nat)(f:World),d=c.heap.size->f=c.alloc (.cells (z8a) 54)->∀s:oA,s=(some (if 8=0 then Addr.mk b 0 none else(vA b).add (0*1)))->∀t:Nat,t=8 - 0->∀u:Nat,u=8 - 0->∀(v:Nat)(x:World),v=f.heap.size->x=f.alloc (.cells #[O 2002874980,O 1701716075,O 1702436913] 22)->Calls Tryz.prog 81 #[(.slice s t u),(.slice (pvA v) 3 3)] x λe X=>∃y z A B D E G H:Int,e=.returned (.agg (q8a y z A B D E G H))/\ao X (vA d) (q8l y z A B D E G H) λI=>∃J K L M T U V W:Int,ar I (vA d) 0 [O J,O K,O L,O M,O T,O U,O V,O W]/\R (.agg (q8a J K L M T U V W)) I):Calls Tryz.prog 59 #[(.agg (q8a g i j k l m p q))] w (aT R):=rvc [] (.leaf) Tryz.func59 h
theorem BS(i j k cd ce l p ch ci q:Int)(s:oA)(t u:Nat){R:aK}{w:World}(h:∀(c:Nat)(f:World),c=w.heap.size->f=w.alloc (.cells #[J i,J j,O k,O cd,O ce,O l,O p,O ch,O ci,O q,(.slice s t u)] 91)->∃v:oA,∃g K:Nat,f.cell? ((vA c).add 10)=some (.slice v g K)/\∃I:Nat->Int->World->Prop,(∃m,I m 0 f)/\∀(m:Nat)(_gv1:Nat->Value)(d:Int),∀b,I m d b->split (decide ((d:Int)<((g:Nat):Int))) ((0<=(d:Int)/\(d:Int)<((g:Nat):Int))/\ai v λL=>∃M:oA,∃x T:Nat,b.cell? (L.add (Int.toNat d*1))=some (.slice M x T)/\split (decide ((((x:Nat):Int):Int)>4096)) (R (vB false) b) (∃y,y<m/\I y (i64.wrap (d+1)) b)) (∃e:Bool->World->Prop,(∃z:Int,b.cell? ((vA c).add 0)=some (J z)/\split (decide ((z:Int)>=1)) (∃A:Int,b.cell? ((vA c).add 0)=some (J A)/\split (decide ((A:Int)<=64)) (∃B:Int,b.cell? ((vA c).add 1)=some (J B)/\split (decide ((B:Int)>=1)) (∃D:Int,b.cell? ((vA c).add 1)=some (J D)/\split (decide ((D:Int)<=64)) (∃U:oA,∃E V:Nat,b.cell? ((vA c).add 10)=some (.slice U E V)/\e (decide ((((E:Nat):Int):Int)<=64)) b) (e false b)) (e false b)) (e false b)) (e false b))/\∀(_gv2:Nat->Value)(G:Bool),∀H,e G H->R (vB G) H)):Calls Tryz.prog 67 #[(.agg #[J i,J j,O k,O cd,O ce,O l,O p,O ch,O ci,O q,(.slice s t u)])] w (aT R):=rvc [] (aq (.node none (aq (.node none (.node (some ⟨[(8,.one (.int .i64))],[2,4,8,9,10,11,12,13,14,15]⟩) .leaf .leaf) .leaf)) (.node none (.node (some ⟨[(2,.one (.bool))],[2,16,17,18,19,20,21,22,23,24,25,26,27,28,29,30,31,32,33,34,35,36,37,38,39]⟩) .leaf .leaf) .leaf))) Tryz.func67 h
theorem uH(u v x cd ce y z ch ci A:Int)(B:oA)(D E:Nat){R:aK}{w:World}(h:∀(c:Nat)(i:World),c=w.heap.size->i=w.alloc (.cells #[J u,J v,O x,O cd,O ce,O y,O z,O ch,O ci,O A,(.slice B D E)] 91)->∀(j:Nat)(k:World),j=i.heap.size->k=i.alloc (.cells (#[J 0,J 0,O 0,O 0,O 0,O 0,O 0,O 0,O 0,O 0,(.slice none 0 0)]) 91)->∃bC:oA,∃l bN:Nat,k.cell? ((vA c).add 10)=some (.slice bC l bN)/\∃p:oA,∃q G:Nat,∃s,(Instr.makeSlice 55 (J ((l:Nat):Int)) (J ((l:Nat):Int)):Sem Value).run Tryz.prog k=.ok (.slice p q G) s/\∃H:oA,∃t b0:Nat,s.cell? ((vA c).add 10)=some (.slice H t b0)/\∃I:Nat->Int->World->Prop,(∃m,I m 0 s)/\∀(m:Nat)(_gv2:Nat->Value)(b:Int),∀d,I m b d->split (decide ((b:Int)<((t:Nat):Int))) ((0<=(b:Int)/\(b:Int)<((t:Nat):Int))/\ai H λb1=>∃K:oA,∃L M:Nat,d.cell? (b1.add (Int.toNat b*1))=some (.slice K L M)/\Calls Tryz.prog 85 #[(.slice K L M)] d λe f=>∃T:oA,∃U V:Nat,e=.returned (.slice T U V)/\(0<=(b:Int)/\(b:Int)<((q:Nat):Int))/\ai p λb2=>ao f (b2.add (Int.toNat b*1)) [(.slice T U V)] λg=>∃W,W<m/\I W (i64.wrap (b+1)) g) (ao d ((vA c).add 10) [(.slice p q G)] λf=>∃X Y Z an az aA aC aN a0 a1:Int,∃a2:oA,∃a3 a4:Nat,ar f (vA c) 0 [J X,J Y,O Z,O an,O az,O aA,O aC,O aN,O a0,O a1,.slice a2 a3 a4]/\ao f (vA j) [J X,J Y,O Z,O an,O az,O aA,O aC,O aN,O a0,O a1,(.slice a2 a3 a4)] λg=>∃a5 a6 a7 a8 a9 ba bb bc bd bg:Int,∃bl:oA,∃bs bA:Nat,ar g (vA j) 0 [J a5,J a6,O a7,O a8,O a9,O ba,O bb,O bc,O bd,O bg,.slice bl bs bA]/\R (.agg #[J a5,J a6,O a7,O a8,O a9,O ba,O bb,O bc,O bd,O bg,(.slice bl bs bA)]) g)):Calls Tryz.prog 69 #[(.agg #[J u,J v,O x,O cd,O ce,O y,O z,O ch,O ci,O A,(.slice B D E)])] w (aT R):=rvc [] (aq (aq (.node none (aq (.node none (.node (some ⟨[(13,.one (.int .i64))],[4,5,13,14,15,16,17,18,19,20,21,22,23]⟩) .leaf .leaf) .leaf)) .leaf))) Tryz.func69 h
theorem BR(s t u cd ce v x ch ci y:Int)(z:oA)(A B:Nat){R:aK}{w:World}(h:∀(c:Nat)(g:World),c=w.heap.size->g=w.alloc (.cells #[J s,J t,O u,O cd,O ce,O v,O x,O ch,O ci,O y,(.slice z A B)] 91)->∃D E G H I K L M T U:Int,∃V:oA,∃W X:Nat,ar g (vA c) 0 [J D,J E,O G,O H,O I,O K,O L,O M,O T,O U,.slice V W X]/\Calls Tryz.prog 67 #[(.agg #[J D,J E,O G,O H,O I,O K,O L,O M,O T,O U,(.slice V W X)])] g λe d=>∃Y:Bool,e=.returned (vB Y)/\split (!Y) (R (.tuple #[(.pointer none),J 210]) d) (∃Z:Int,d.cell? ((vA c).add 0)=some (J Z)/\∃an:Int,d.cell? ((vA c).add 1)=some (J an)/\Calls Tryz.prog 68 #[J Z,J an] d λe f=>∃az:oA,∃da:Int,e=.returned (.tuple #[(.pointer az),J da])/\∃b:bP,b 0 ((vA c).block)/\∃aA aC aN a0 a1 a2 a3 a4 a5 a6:Int,∃a7:oA,∃a8 a9:Nat,ar f.drew (vA c) 0 [J aA,J aC,O aN,O a0,O a1,O a2,O a3,O a4,O a5,O a6,.slice a7 a8 a9]/\b 3 (((vA c).add 2).block)/\∃ba bb bc bd bg bl bs bA:Int,ar f.drew ((vA c).add 2) 0 [O ba,O bb,O bc,O bd,O bg,O bl,O bs,O bA]/\Calls Tryz.prog 69 #[(.agg #[J aA,J aC,O aN,O a0,O a1,O a2,O a3,O a4,O a5,O a6,(.slice a7 a8 a9)])] f.drew λe j=>∃bC bN b0 b5 b6 b7 b8 b9 ck ct:Int,∃cA:oA,∃cC cM:Nat,e=.returned (.agg #[J bC,J bN,O b0,O b5,O b6,O b7,O b8,O b9,O ck,O ct,(.slice cA cC cM)])/\Kept (aX b [2,3,5]) f.drew j/\∃l:bP,(∀i k,b i k->l i k)/\Calls Tryz.prog 70 #[(.agg (q8a ba bb bc bd bg bl bs bA))] j λe cN=>∃c0 c1 c2 c3 c4 c5 c6 c7:Int,e=.returned (.agg (q8a c0 c1 c2 c3 c4 c5 c6 c7))/\Kept (aX l [5]) j cN/\∃b2:bP,(∀i k,l i k->b2 i k)/\Calls Tryz.prog 71 #[(.pointer az)] cN λe m=>∃c8:oA,e=.returned (.pointer c8)/\∃p:bP,(∀i k,b2 i k->p i k)/\∀(c9:Nat)(q:World),c9=m.heap.size->q=m.alloc (.cells #[J bC,J bN,O b0,O b5,O b6,O b7,O b8,O b9,O ck,O ct,(.slice cA cC cM),O c0,O c1,O c2,O c3,O c4,O c5,O c6,O c7,(.pointer c8),O 0,O 0,O 0,O 0,O 0,O 0,O 0,O 0,O 0,O 0,O 0,O 0,O 0,O 0,O 0] 93)->Kept (aX p [2]) m q/\∃b4:bP,(∀i k,p i k->b4 i k)/\R (.tuple #[(.pointer (pvA c9)),J 0]) q)):Calls Tryz.prog 46 #[(.agg #[J s,J t,O u,O cd,O ce,O v,O x,O ch,O ci,O y,(.slice z A B)])] w (aT R):=rvc [] (.leaf) Tryz.func46 h
theorem yU(y z A cd ce B D ch ci E:Int)(G:oA)(H I:Nat)(d:oA)(K L M T U V W X Y Z an az aA aC aN:Int){R:aK}{w:World}(h:∀(f:Nat)(t:World),f=w.heap.size->t=w.alloc (.cells #[J y,J z,O A,O cd,O ce,O B,O D,O ch,O ci,O E,(.slice G H I)] 91)->∀(u:Nat)(v:World),u=t.heap.size->v=t.alloc (.cells #[O K,O L,O M,O T,O U,O V,O W,O X,O Y,O Z,O an,O az,O aA,O aC,O aN] 52)->∃q:Bool->World->Prop,(∃b:bP,b 0 ((vA f).block)/\∃a0 a1 a2 a3 a4 a5 a6 a7 a8 a9:Int,∃ba:oA,∃bb bc:Nat,ar v.drew (vA f) 0 [J a0,J a1,O a2,O a3,O a4,O a5,O a6,O a7,O a8,O a9,.slice ba bb bc]/\Calls Tryz.prog 67 #[(.agg #[J a0,J a1,O a2,O a3,O a4,O a5,O a6,O a7,O a8,O a9,(.slice ba bb bc)])] v.drew λe g=>∃bd:Bool,e=.returned (vB bd)/\∃j:bP,(∀i k,b i k->j i k)/\split (!bd) (q true g) (split d.isNone (q true g) (j 11 (((vA f).add 0).block)/\∃bg:Int,g.cell? ((vA f).add 0)=some (J bg)/\Calls Tryz.prog 73 #[(.pointer d)] g λe c=>∃bl:Int,e=.returned (J bl)/\Kept (aX j [0,4,10,11]) g c/\∃l:bP,(∀i k,j i k->l i k)/\split ((bl:Int) !=bg) (q true c) (l 19 (((vA f).add 1).block)/\∃bs:Int,c.cell? ((vA f).add 1)=some (J bs)/\Calls Tryz.prog 47 #[(.pointer d)] c λe m=>∃bA:oA,e=.returned (.pointer bA)/\Kept (aX l [0,1,2,3,4,5,6,10,11,18,19]) c m/\∃s:bP,(∀i k,l i k->s i k)/\Calls Tryz.prog 77 #[(.pointer bA)] m λe p=>∃bC:Int,e=.returned (J bC)/\Kept (aX s [0,1,2,3,4,5,6,10,11,18,19]) m p/\∃b4:bP,(∀i k,s i k->b4 i k)/\q ((bC:Int) !=bs) p))))/\∀(_gv2:Nat->Value)(bN:Bool),∀g,q bN g->split bN (R (.tuple #[(.pointer none),J 210]) g) (Calls Tryz.prog 78 #[(.pointer d)] g λe c=>∃b0 ga:Int,e=.returned (.tuple #[J b0,J ga])/\split ((b0:Int) !=0) (R (.tuple #[(.pointer none),J 211]) c) (∃b:bP,b 0 ((vA f).block)/\∃b5 b6 b7 b8 b9 ck ct cA cC cM:Int,∃cN:oA,∃c0 c1:Nat,ar c.drew (vA f) 0 [J b5,J b6,O b7,O b8,O b9,O ck,O ct,O cA,O cC,O cM,.slice cN c0 c1]/\b 3 (((vA f).add 2).block)/\∃c2 c3 c4 c5 c6 c7 c8 c9:Int,ar c.drew ((vA f).add 2) 0 [O c2,O c3,O c4,O c5,O c6,O c7,O c8,O c9]/\b 6 ((vA u).block)/\∃da dc dd dk dp dr dA dC dN dT ea eb ec ed ee:Int,ar c.drew (vA u) 0 [O da,O dc,O dd,O dk,O dp,O dr,O dA,O dC,O dN,O dT,O ea,O eb,O ec,O ed,O ee]/\Calls Tryz.prog 69 #[(.agg #[J b5,J b6,O b7,O b8,O b9,O ck,O ct,O cA,O cC,O cM,(.slice cN c0 c1)])] c.drew λe m=>∃ei er et ey eL eM eN eS e0 e1:Int,∃e2:oA,∃e3 e4:Nat,e=.returned (.agg #[J ei,J er,O et,O ey,O eL,O eM,O eN,O eS,O e0,O e1,(.slice e2 e3 e4)])/\Kept (aX b [2,3,5,6]) c.drew m/\∃j:bP,(∀i k,b i k->j i k)/\Calls Tryz.prog 70 #[(.agg (q8a c2 c3 c4 c5 c6 c7 c8 c9))] m λe p=>∃e5 e6 e7 e8 e9 fa fb fA:Int,e=.returned (.agg (q8a e5 e6 e7 e8 e9 fa fb fA))/\Kept (aX j [5,6]) m p/\∃l:bP,(∀i k,j i k->l i k)/\∀(fC:Nat)(x:World),fC=p.heap.size->x=p.alloc (.cells #[J ei,J er,O et,O ey,O eL,O eM,O eN,O eS,O e0,O e1,(.slice e2 e3 e4),O e5,O e6,O e7,O e8,O e9,O fa,O fb,O fA,(.pointer d),O da,O dc,O dd,O dk,O dp,O dr,O dA,O dC,O dN,O dT,O ea,O eb,O ec,O ed,O ee] 93)->Kept (aX l [2]) p x/\∃s:bP,(∀i k,l i k->s i k)/\R (.tuple #[(.pointer (pvA fC)),J 0]) x))):Calls Tryz.prog 51 #[(.agg #[J y,J z,O A,O cd,O ce,O B,O D,O ch,O ci,O E,(.slice G H I)]),(.pointer d),(.agg #[O K,O L,O M,O T,O U,O V,O W,O X,O Y,O Z,O an,O az,O aA,O aC,O aN])] w (aT R):=rvc [] (aq (.node none (.node none (.node (some ⟨[(31,.one (.bool))],(rgN 10 22)⟩) .leaf .leaf) .leaf) .leaf)) Tryz.func51 h
theorem uI(m:oA){R:aK}{w:World}(h:∀(b:Nat)(c:World),b=w.heap.size->c=w.alloc (.cells (#[J 0,J 0,O 0,O 0,O 0,O 0,O 0,O 0,O 0,O 0,(.slice none 0 0)]) 91)->ai m λp4=>∃d f g i j k l p q s:Int,∃t:oA,∃u v:Nat,ar c (p4.add 0) 0 [J d,J f,O g,O i,O j,O k,O l,O p,O q,O s,.slice t u v]/\Calls Tryz.prog 69 #[(.agg #[J d,J f,O g,O i,O j,O k,O l,O p,O q,O s,(.slice t u v)])] c λe a2=>∃x y z A B D E G H I:Int,∃K:oA,∃L M:Nat,e=.returned (.agg #[J x,J y,O z,O A,O B,O D,O E,O G,O H,O I,(.slice K L M)])/\ao a2 (vA b) [J x,J y,O z,O A,O B,O D,O E,O G,O H,O I,(.slice K L M)] λT=>∃U V W X Y Z an az aA aC:Int,∃aN:oA,∃a0 a1:Nat,ar T (vA b) 0 [J U,J V,O W,O X,O Y,O Z,O an,O az,O aA,O aC,.slice aN a0 a1]/\R (.agg #[J U,J V,O W,O X,O Y,O Z,O an,O az,O aA,O aC,(.slice aN a0 a1)]) T):Calls Tryz.prog 82 #[(.pointer m)] w (aT R):=rvc [] (.leaf) Tryz.func82 h
theorem oL(m:oA){R:aK}{w:World}(h:∀(b:Nat)(c:World),b=w.heap.size->c=w.alloc (.cells (#[O 0,O 0,O 0,O 0,O 0,O 0,O 0,O 0,O 0,O 0,O 0,O 0,O 0,O 0,O 0]) 52)->ai m λW=>∃d e f g i j k l p q s t u v x:Int,ar c (W.add 20) 0 [O d,O e,O f,O g,O i,O j,O k,O l,O p,O q,O s,O t,O u,O v,O x]/\ao c (vA b) [O d,O e,O f,O g,O i,O j,O k,O l,O p,O q,O s,O t,O u,O v,O x] λy=>∃z A B D E G H I J K L M T U V:Int,ar y (vA b) 0 [O z,O A,O B,O D,O E,O G,O H,O I,O J,O K,O L,O M,O T,O U,O V]/\R (.agg #[O z,O A,O B,O D,O E,O G,O H,O I,O J,O K,O L,O M,O T,O U,O V]) y):Calls Tryz.prog 19 #[(.pointer m)] w (aT R):=rvc [] (.leaf) Tryz.func19 h
theorem Dn(m:oA){R:aK}{w:World}(h:ai m λc=>∃b:oA,w.cell? (c.add 19)=some (.pointer b)/\R (.pointer b) w):Calls Tryz.prog 20 #[(.pointer m)] w (aT R):=rvc [] (.leaf) Tryz.func20 h
theorem fh(b:oA)(c d:Nat){R:aK}{w:World}(h:split b.isNone (R (.slice none 0 0) w) (∀(e:Nat)(f:World),e=w.heap.size->f=w.alloc (.cells #[] 22)->∃g:oA,∃i j:Nat,∃k,(Builtin.append_ #[26,26] 26 #[(.slice (pvA e) 0 0),(.slice b c d)]:Sem Value).run Tryz.prog f=.ok (.slice g i j) k/\R (.slice g i j) k)):Calls Tryz.prog 85 #[(.slice b c d)] w (aT R):=rvc [] (.leaf) Tryz.func85 h
theorem ux(k l p cd ce q s ch ci t:Int)(u:oA)(v x:Nat){R:aK}{w:World}(h:∀(c:Nat)(b:World),c=w.heap.size->b=w.alloc (.cells #[J k,J l,O p,O cd,O ce,O q,O s,O ch,O ci,O t,(.slice u v x)] 57)->∃f:Bool->World->Prop,(∃y:Int,b.cell? ((vA c).add 0)=some (J y)/\split (decide ((y:Int)>=1)) (∃z:Int,b.cell? ((vA c).add 0)=some (J z)/\split (decide ((z:Int)<=64)) (∃A:Int,b.cell? ((vA c).add 1)=some (J A)/\split (decide ((A:Int)>=1)) (∃B:Int,b.cell? ((vA c).add 1)=some (J B)/\split (decide ((B:Int)<=64)) (∃U:oA,∃D V:Nat,b.cell? ((vA c).add 10)=some (.slice U D V)/\∀ok:Bool,ok=(decide ((((D:Nat):Int):Int)<=64))->f ok b) (∀ok:Bool,ok=false->f ok b)) (∀ok:Bool,ok=false->f ok b)) (∀ok:Bool,ok=false->f ok b)) (∀ok:Bool,ok=false->f ok b))/\∀(_gv1:Nat->Value)(ok:Bool),∀E,f ok E->∀i:Int,i=0->∃I:Nat->Bool->Int->World->Prop,(∃m,I m ok i E)/\∀(m:Nat)(_gv2:Nat->Value)(g:Bool)(i1:Int),∀e,I m g i1 e->∃W:oA,∃G X:Nat,e.cell? ((vA c).add 10)=some (.slice W G X)/\split (decide ((i1:Int)<((G:Nat):Int))) (∃j:Bool->World->Prop,(split g (∃H:oA,∃K Y:Nat,e.cell? ((vA c).add 10)=some (.slice H K Y)/\(0<=(i1:Int)/\(i1:Int)<((K:Nat):Int))/\ai H λZ=>∃an:oA,∃L az:Nat,e.cell? (Z.add (Int.toNat i1*1))=some (.slice an L az)/\∀d:Bool,d=(decide ((((L:Nat):Int):Int)<=4096))->j d e) (∀d:Bool,d=false->j d e))/\∀(_gv3:Nat->Value)(d:Bool),∀M,j d M->∀i2:Int,i2=(i64.wrap (i1+1))->∃T,T<m/\I T d i2 M) (R (vB g) e)):Calls Tryz.prog 33 #[(.agg #[J k,J l,O p,O cd,O ce,O q,O s,O ch,O ci,O t,(.slice u v x)])] w (aT R):=rvc [3,4] (aq (.node none (.node (some ⟨[(3,.one (.bool))],[3,5,6,7,8,9,10,11,12,13,14,15,16,17,18,19,20,21,22,23,24,25,26,27,28]⟩) .leaf .leaf) (.node none (aq (.node none (.node (some ⟨[(3,.one (.bool)),(4,.one (.int .i64))],[3,4,29,30,31,32,33,34,35,36,37,38,39,40,41,42,43,44,45]⟩) (aq (.node none (.node none (.node (some ⟨[(3,.one (.bool))],[3,36,37,38,39,40,41,42,43,44,45]⟩) .leaf .leaf) .leaf) .leaf)) .leaf) .leaf)) .leaf))) Tryz.func33 h
theorem rj(k l p cd ce q s ch ci t:Int)(u:oA)(v x:Nat){R:aK}{w:World}(h:∀(e:Nat)(g:World),e=w.heap.size->g=w.alloc (.cells #[J k,J l,O p,O cd,O ce,O q,O s,O ch,O ci,O t,(.slice u v x)] 57)->∀(j:Nat)(f:World),j=g.heap.size->f=g.alloc (.cells (#[J 0,J 0,O 0,O 0,O 0,O 0,O 0,O 0,O 0,O 0,(.slice none 0 0)]) 57)->∃y z A B D E G H K L:Int,∃M:oA,∃T U:Nat,ar f (vA e) 0 [J y,J z,O A,O B,O D,O E,O G,O H,O K,O L,.slice M T U]/\∀(d:Nat)(V:World),d=f.heap.size->V=f.alloc (.cells (#[J 0,J 0,O 0,O 0,O 0,O 0,O 0,O 0,O 0,O 0,(.slice none 0 0)]) 57)->ao V (vA d) [J y,J z,O A,O B,O D,O E,O G,O H,O K,O L,(.slice M T U)] λcN=>ao cN ((vA d).add 10) [(.slice none 0 0)] λc0=>∀i:Int,i=0->∃I:Nat->Int->World->Prop,(∃m,I m i c0)/\∀(m:Nat)(_gv3:Nat->Value)(i1:Int),∀b,I m i1 b->∃c1:oA,∃W c2:Nat,b.cell? ((vA e).add 10)=some (.slice c1 W c2)/\split (decide ((i1:Int)<((W:Nat):Int))) (∃X:oA,∃Y c3:Nat,b.cell? ((vA e).add 10)=some (.slice X Y c3)/\(0<=(i1:Int)/\(i1:Int)<((Y:Nat):Int))/\ai X λc4=>∃Z:oA,∃an az:Nat,b.cell? (c4.add (Int.toNat i1*1))=some (.slice Z an az)/\∃aA:oA,∃aC aN:Nat,∃c,(Builtin.append_ #[26,26] 26 #[(.slice none 0 0),(.slice Z an az)]:Sem Value).run Tryz.prog b=.ok (.slice aA aC aN) c/\∃a0:oA,∃a1 a2:Nat,c.cell? ((vA d).add 10)=some (.slice a0 a1 a2)/\∀(a3:Nat)(a4:World),a3=c.heap.size->a4=c.alloc (.cells #[(.slice aA aC aN)] 26)->∃a5:oA,∃a6 a7:Nat,∃a8,(Builtin.append_ #[55,55] 55 #[(.slice a0 a1 a2),(.slice (pvA a3) 1 1)]:Sem Value).run Tryz.prog a4=.ok (.slice a5 a6 a7) a8/\ao a8 ((vA d).add 10) [(.slice a5 a6 a7)] λc5=>∀i2:Int,i2=(i64.wrap (i1+1))->∃m1,m1<m/\I m1 i2 c5) (∃a9 ba bb bc bd bg bl bs bA bC:Int,∃bN:oA,∃b0 b1:Nat,ar b (vA d) 0 [J a9,J ba,O bb,O bc,O bd,O bg,O bl,O bs,O bA,O bC,.slice bN b0 b1]/\ao b (vA j) [J a9,J ba,O bb,O bc,O bd,O bg,O bl,O bs,O bA,O bC,(.slice bN b0 b1)] λc=>∃b2 b3 b4 b5 b6 b7 b8 b9 ck ct:Int,∃cA:oA,∃cC cM:Nat,ar c (vA j) 0 [J b2,J b3,O b4,O b5,O b6,O b7,O b8,O b9,O ck,O ct,.slice cA cC cM]/\R (.agg #[J b2,J b3,O b4,O b5,O b6,O b7,O b8,O b9,O ck,O ct,(.slice cA cC cM)]) c)):Calls Tryz.prog 58 #[(.agg #[J k,J l,O p,O cd,O ce,O q,O s,O ch,O ci,O t,(.slice u v x)])] w (aT R):=rvc [4,5] (aq (aq (aq (.node none (aq (.node none (.node (some ⟨[(4,.one (.int .i64))],[4,5,8,9,10,11,12,13,14,15,16,17,18,19,20,21,22,23,24,25,26,27]⟩) .leaf .leaf) .leaf)) .leaf)))) Tryz.func58 h
theorem vk(y z A cd ce B D ch ci E:Int)(G:oA)(H I:Nat)(d:oA)(K L M T U V W X Y Z an az aA aC aN:Int){R:aK}{w:World}(h:∀(c:Nat)(s:World),c=w.heap.size->s=w.alloc (.cells #[J y,J z,O A,O cd,O ce,O B,O D,O ch,O ci,O E,(.slice G H I)] 57)->∀(t:Nat)(u:World),t=s.heap.size->u=s.alloc (.cells #[O K,O L,O M,O T,O U,O V,O W,O X,O Y,O Z,O an,O az,O aA,O aC,O aN] 52)->∃a0 a1 a2 a3 a4 a5 a6 a7 a8 a9:Int,∃ba:oA,∃bb bc:Nat,ar u (vA c) 0 [J a0,J a1,O a2,O a3,O a4,O a5,O a6,O a7,O a8,O a9,.slice ba bb bc]/\Calls Tryz.prog 33 #[(.agg #[J a0,J a1,O a2,O a3,O a4,O a5,O a6,O a7,O a8,O a9,(.slice ba bb bc)])] u λe l=>∃bd:Bool,e=.returned (vB bd)/\∃m:Bool->World->Prop,(∃b:bP,split (!bd) (m true l.drew) (split d.isNone (m true l.drew) (ai d λbg=>b 10 ((bg.add 0).block)/\∃bl:oA,l.drew.cell? (bg.add 0)=some (.pointer bl)/\b 13 (((vA c).add 0).block)/\∃bs:Int,l.drew.cell? ((vA c).add 0)=some (J bs)/\Calls Tryz.prog 54 #[(.pointer bl)] l.drew λe f=>∃bA:Int,e=.returned (J bA)/\Kept (aX b [0,3,7,12,13]) l.drew f/\∃g:bP,(∀i k,b i k->g i k)/\split ((bA:Int) !=bs) (m true f) (ai d λbC=>g 20 ((bC.add 0).block)/\∃bN:oA,f.cell? (bC.add 0)=some (.pointer bN)/\g 23 (((vA c).add 1).block)/\∃b0:Int,f.cell? ((vA c).add 1)=some (J b0)/\Calls Tryz.prog 56 #[(.pointer bN)] f λe j=>∃b4:Int,e=.returned (J b4)/\Kept (aX g [0,1,2,3,4,5,7,8,9,12,13,17,22,23]) f j/\∃p:bP,(∀i k,g i k->p i k)/\m ((b4:Int) !=b0) j))))/\∀(_gv2:Nat->Value)(b5:Bool),∀f,m b5 f->split b5 (R (.tuple #[(.pointer none),J 210]) f) (Calls Tryz.prog 57 #[(.pointer d)] f λe j=>∃b6 gd:Int,e=.returned (.tuple #[J b6,J gd])/\split ((b6:Int) !=0) (R (.tuple #[(.pointer none),J 211]) j) (∃b:bP,b 0 ((vA c).block)/\∃b7 b8 b9 ck ct cA cC cM cN c0:Int,∃c1:oA,∃c2 c3:Nat,ar j.drew (vA c) 0 [J b7,J b8,O b9,O ck,O ct,O cA,O cC,O cM,O cN,O c0,.slice c1 c2 c3]/\b 4 (((vA c).add 2).block)/\∃c4 c5 c6 c7 c8 c9 da dc:Int,ar j.drew ((vA c).add 2) 0 [O c4,O c5,O c6,O c7,O c8,O c9,O da,O dc]/\b 6 ((vA t).block)/\∃dd dk dp dr dA dC dN dT ea eb ec ed ee ei er:Int,ar j.drew (vA t) 0 [O dd,O dk,O dp,O dr,O dA,O dC,O dN,O dT,O ea,O eb,O ec,O ed,O ee,O ei,O er]/\Calls Tryz.prog 58 #[(.agg #[J b7,J b8,O b9,O ck,O ct,O cA,O cC,O cM,O cN,O c0,(.slice c1 c2 c3)])] j.drew λe v=>∃et ey eL eM eN eS e0 e1 e2 e3:Int,∃e4:oA,∃e5 e6:Nat,e=.returned (.agg #[J et,J ey,O eL,O eM,O eN,O eS,O e0,O e1,O e2,O e3,(.slice e4 e5 e6)])/\Kept (aX b [2,3,4,6]) j.drew v/\∃g:bP,(∀i k,b i k->g i k)/\Calls Tryz.prog 59 #[(.agg (q8a c4 c5 c6 c7 c8 c9 da dc))] v λe q=>∃e7 e8 e9 fa fb fA fC ga:Int,e=.returned (.agg (q8a e7 e8 e9 fa fb fA fC ga))/\Kept (aX g [2,6]) v q/\∃p:bP,(∀i k,g i k->p i k)/\∀(gb:Nat)(x:World),gb=q.heap.size->x=q.alloc (.cells #[J et,J ey,O eL,O eM,O eN,O eS,O e0,O e1,O e2,O e3,(.slice e4 e5 e6),(.pointer d),O e7,O e8,O e9,O fa,O fb,O fA,O fC,O ga,O dd,O dk,O dp,O dr,O dA,O dC,O dN,O dT,O ea,O eb,O ec,O ed,O ee,O ei,O er] 60)->Kept (aX p [3]) q x/\∃b3:bP,(∀i k,p i k->b3 i k)/\R (.tuple #[(.pointer (pvA gb)),J 0]) x))):Calls Tryz.prog 37 #[(.agg #[J y,J z,O A,O cd,O ce,O B,O D,O ch,O ci,O E,(.slice G H I)]),(.pointer d),(.agg #[O K,O L,O M,O T,O U,O V,O W,O X,O Y,O Z,O an,O az,O aA,O aC,O aN])] w (aT R):=rvc [] (aq (aq (.node none (.node none (.node (some ⟨[(38,.one (.bool))],(rgN 13 26)⟩) .leaf .leaf) .leaf) .leaf))) Tryz.func37 h
theorem yR(m:oA)(p:Bool)(q:Int)(s:oA)(au t:Nat){R:aK}{w:World}(h:∀(g:Nat)(d:World),g=w.heap.size->d=w.alloc (.cells #[vB p,J q] 81)->∃u:Bool,∃v:Int,(d.cell? ((vA g).add 0)=some (vB u)/\d.cell? ((vA g).add 1)=some (J v))/\Calls Tryz.prog 53 #[(.pointer m),(.agg #[vB u,J v])] d λe f=>∃c:Int,e=.returned (J c)/\split (decide ((c:Int)<0)) (R (J 5) f) (split ((((au:Nat):Int):Int) !=1024) (R (J 2) f) (ai m λH=>∃x:Int,f.cell? (H.add 2)=some (J x)/\ai m λI=>ao f (I.add 2) [J (i64.wrap (x+1024))] λj=>∃b:bP,ai m λy=>b 3 ((y.add 0).block)/\∃z:oA,∃A K:Nat,j.drew.cell? (y.add 0)=some (.slice z A K)/\∃B:oA,∃D E:Nat,∃l,(Builtin.append_ #[26,26] 26 #[(.slice none 0 0),(.slice s au t)]:Sem Value).run Tryz.prog j.drew=.ok (.slice B D E) l/\Kept (aX b [0,1,2,3,4]) j.drew l/\∃G:bP,(∀i k,b i k->G i k)/\(0<=(c:Int)/\(c:Int)<((A:Nat):Int))/\ai z λL=>ao l (L.add (Int.toNat c*1)) [(.slice B D E)] λM=>∃O:bP,(∀i k,G i k->O i k)/\R (J 0) M))):Calls Tryz.prog 35 #[(.pointer m),(.agg #[vB p,J q]),(.slice s au t)] w (aT R):=rvc [] (.leaf) Tryz.func35 h
end Go.Proofs.YtoghdgcmhbanbaaGreatDoor
end
section
set_option maxRecDepth 100000
namespace Go.Proofs.YtoghdgcmhbanbaaGreatDoor
open Go Go.RowKit V
open Go.IntKind (i64 u32 u64 wrap_i64 wrap_u32)
open Go.Proofs (Tryz.prog)
theorem BA(s:oA)(l y:Nat){R:aK}{w:World}(h:∀c:Int,c=4294967295->∃I:Nat->Int->Int->World->Prop,(∃m,I m c 0 w)/\∀(m:Nat)(_gv:Nat->Value)(p b:Int),∀f,I m p b f->split (decide ((b:Int)<((l:Nat):Int))) ((0<=(b:Int)/\(b:Int)<((l:Nat):Int))/\ai s λz=>∃t:Int,f.cell? (z.add (Int.toNat b*1))=some (vY t)/\∀u:Int,u=(u32.wrap (BitVec.ofInt u32.bits p ^^^ BitVec.ofInt u32.bits (u32.wrap t)).toNat)->∃g:Nat->Int->Int->World->Prop,(∃d,g d u 0 f)/\∀(d:Nat)(_gv1:Nat->Value)(i j:Int),∀k,g d i j k->split (decide ((j:Int)<8)) (∀low:Int,low=(u32.wrap (BitVec.ofInt u32.bits i &&& BitVec.ofInt u32.bits 1).toNat)->∀q:Int,q=((i:Int).fdiv (2 ^ 1))->split ((low:Int)==1) (∀v:Int,v=(u32.wrap (BitVec.ofInt u32.bits q ^^^ BitVec.ofInt u32.bits 3988292384).toNat)->∃e,e<d/\g e v (i64.wrap (j+1)) k) (∃e,e<d/\g e q (i64.wrap (j+1)) k)) (∃x,x<m/\I x i (i64.wrap (b+1)) k)) (R (O (u32.wrap (BitVec.ofInt u32.bits (if u32.signed then -1 else u32.max) ^^^ BitVec.ofInt u32.bits p).toNat)) f)):Calls Tryz.prog 39 #[(.slice s l y)] w (aT R):=rvc [3,6] (aq (aq (.node none (aq (.node none (.node (some ⟨[(3,.one (.int .u32)),(9,.one (.int .i64))],[3,5,6,9,10,11,12,13,14,15,16,17,18,19,20,21,22,23,24,25,26,27,28]⟩) (aq (aq (.node none (.node none (aq (aq (aq (.node none (.node (some ⟨[(3,.one (.int .u32)),(17,.one (.int .i64))],[3,6,17,18,19,20,21,22,23,24,25,26,27]⟩) .leaf .leaf) .leaf)))) .leaf) .leaf))) .leaf) .leaf)) .leaf))) Tryz.func39 h
theorem yK(t:oA)(p y:Nat){R:aK}{w:World}(h:∀s:Int,s=4294967295->∀i:Int,i=0->∃I:Nat->Int->Int->World->Prop,(∃m,I m s i w)/\∀(m:Nat)(_gv:Nat->Value)(s1 i1:Int),∀e,I m s1 i1 e->split (decide ((i1:Int)<((p:Nat):Int))) ((0<=(i1:Int)/\(i1:Int)<((p:Nat):Int))/\ai t λz=>∃u:Int,e.cell? (z.add (Int.toNat i1*1))=some (vY u)/\∀s2:Int,s2=(u32.wrap (BitVec.ofInt u32.bits s1 ^^^ BitVec.ofInt u32.bits (u32.wrap u)).toNat)->∀k:Int,k=0->∃f:Nat->Int->Int->World->Prop,(∃b,f b s2 k e)/\∀(b:Nat)(_gv1:Nat->Value)(g j:Int),∀l,f b g j l->split (decide ((j:Int)<8)) (∀low:Int,low=(u32.wrap (BitVec.ofInt u32.bits g &&& BitVec.ofInt u32.bits 1).toNat)->∀q:Int,q=((g:Int).fdiv (2 ^ 1))->split ((low:Int)==1) (∀v:Int,v=(u32.wrap (BitVec.ofInt u32.bits q ^^^ BitVec.ofInt u32.bits 3988292384).toNat)->∀c:Int,c=(i64.wrap (j+1))->∃d,d<b/\f d v c l) (∀c:Int,c=(i64.wrap (j+1))->∃d,d<b/\f d q c l)) (∀i2:Int,i2=(i64.wrap (i1+1))->∃x,x<m/\I x g i2 l)) (R (O (u32.wrap (BitVec.ofInt u32.bits s1 ^^^ BitVec.ofInt u32.bits 4294967295).toNat)) e)):Calls Tryz.prog 7 #[(.slice t p y)] w (aT R):=rvc [3,4,5,6] (aq (aq (.node none (aq (.node none (.node (some ⟨[(3,.one (.int .u32)),(4,.one (.int .i64))],(rgN 3 29)⟩) (aq (.node none (.node none (aq (aq (.node none (.node (some ⟨[(3,.one (.int .u32)),(5,.one (.int .i64))],[3,5,6,20,21,22,23,24,25,26,27,28,29,30,31]⟩) .leaf .leaf) .leaf))) .leaf) .leaf)) .leaf) .leaf)) .leaf))) Tryz.func7 h
theorem BC(c:oA)(d f:Nat){R:aK}{w:World}(h:split (decide ((((d:Nat):Int):Int)<4)) (R (.tuple #[(.slice none 0 0),(.slice none 0 0),vB false]) w) (Calls Tryz.prog 28 #[(.slice c d f)] w λe g=>∃i:Int,e=.returned (O i)/\∀n:Int,n=(u64.wrap i)->split (decide ((n:Int)>(u64.wrap (i64.wrap (((d:Nat):Int) - 4))))) (R (.tuple #[(.slice none 0 0),(.slice none 0 0),vB false]) g) (∀b:Int,b=(i64.wrap (4+(i64.wrap n)))->(0<=(b:Int)/\(b:Int)<=((f:Nat):Int))/\(0<=(b:Int)/\(b:Int)<=((Int.toNat b:Nat):Int))/\(0<=(4:Int)/\(4:Int)<=((Int.toNat b:Nat):Int))/\∀j:oA,j=(if b.toNat=(Int.toNat 4)then c else(c:oA).map (·.add ((Int.toNat 4)*1)))->∀k:Nat,k=b.toNat - (Int.toNat 4)->∀l:Nat,l=b.toNat - (Int.toNat 4)->Calls Tryz.prog 13 #[(.slice j k l)] g λe x=>∃m:oA,∃p q:Nat,∃s:Int,e=.returned (.tuple #[(.slice m p q),J s])/\(0<=(b:Int)/\(b:Int)<=((d:Nat):Int))/\∀t:oA,t=(if f=b.toNat then c else(c:oA).map (·.add (b.toNat *1)))->∀u:Nat,u=d - b.toNat->∀v:Nat,v=f - b.toNat->R (.tuple #[(.slice m p q),(.slice t u v),vB ((s:Int)==0)]) x.drew))):Calls Tryz.prog 66 #[(.slice c d f)] w (aT R):=rvc [5,6] (.leaf) Tryz.func66 h
theorem vc(bA:oA)(bN bC:Nat){R:aK}{w:World}(h:∀(A:Nat)(W:World),A=w.heap.size->W=w.alloc (.cells (#[(.slice none 0 0),(.slice none 0 0),(.slice none 0 0),(.slice none 0 0)]) 70)->∀(c:Nat)(aN:World),c=W.heap.size->aN=W.alloc (.cells (#[(.slice none 0 0),(.slice none 0 0),(.slice none 0 0),(.slice none 0 0)]) 70)->Calls Tryz.prog 66 #[(.slice bA bN bC)] aN λe hW=>∃a0:oA,∃a1 a2:Nat,∃a3:oA,∃a4 a5:Nat,∃a6:Bool,e=.returned (.tuple #[(.slice a0 a1 a2),(.slice a3 a4 a5),vB a6])/\ao hW ((vA c).add 0) [(.slice a0 a1 a2)] λy=>∃E:Bool->World->Prop,(split (!a6) (E true y) (∃hX:oA,∃a7 hY:Nat,y.cell? ((vA c).add 0)=some (.slice hX a7 hY)/\split ((((a7:Nat):Int):Int) !=26) (E true y) (∃a8:oA,∃a9 hZ:Nat,y.cell? ((vA c).add 0)=some (.slice a8 a9 hZ)/\(0<=(0:Int)/\(0:Int)<((a9:Nat):Int))/\ai a8 λh0=>∃ba:Int,y.cell? (h0.add (Int.toNat 0*1))=some (O ba)/\split (decide ((ba:Int)>64)) (E true y) (∃bb:oA,∃bc h1:Nat,y.cell? ((vA c).add 0)=some (.slice bb bc h1)/\(0<=(1:Int)/\(1:Int)<((bc:Nat):Int))/\ai bb λh2=>∃bd:Int,y.cell? (h2.add (Int.toNat 1*1))=some (O bd)/\split (decide ((bd:Int)>64)) (E true y) (∃bg:oA,∃bl h3:Nat,y.cell? ((vA c).add 0)=some (.slice bg bl h3)/\(0<=(2:Int)/\(2:Int)<((bl:Nat):Int))/\ai bg λh4=>∃bs:Int,y.cell? (h4.add (Int.toNat 2*1))=some (O bs)/\E (decide ((bs:Int)>64)) y)))))/\∀(_gv2:Nat->Value)(b0:Bool),∀G,E b0 G->split b0 (∃b3:oA,∃b4 b5:Nat,∃b6:oA,∃b7 b8:Nat,∃b9:oA,∃ca cb:Nat,∃cc:oA,∃cf cg:Nat,ar G (vA c) 0 [.slice b3 b4 b5,.slice b6 b7 b8,.slice b9 ca cb,.slice cc cf cg]/\ao G (vA A) [(.slice b3 b4 b5),(.slice b6 b7 b8),(.slice b9 ca cb),(.slice cc cf cg)] λH=>∃d:oA,∃f g:Nat,∃j:oA,∃l p:Nat,∃q:oA,∃s t:Nat,∃u:oA,∃v x:Nat,ar H (vA A) 0 [.slice d f g,.slice j l p,.slice q s t,.slice u v x]/\R (.tuple #[(.agg #[(.slice d f g),(.slice j l p),(.slice q s t),(.slice u v x)]),vB false]) H) (∃cj:oA,∃ck h5:Nat,G.cell? ((vA c).add 0)=some (.slice cj ck h5)/\(0<=(2:Int)/\(2:Int)<((ck:Nat):Int))/\ai cj λh6=>∃ct:Int,G.cell? (h6.add (Int.toNat 2*1))=some (O ct)/\∃I:Nat->Option Addr->Nat->Nat->Int->World->Prop,(∃m,I m a3 a4 a5 0 G)/\∀(m:Nat)(_gv3:Nat->Value)(X:oA)(Y Z:Nat)(an:Int),∀H,I m X Y Z an H->split (decide ((an:Int)<ct)) (Calls Tryz.prog 66 #[(.slice X Y Z)] H λe D=>∃cA:oA,∃cC cM:Nat,∃cN:oA,∃c0 c1:Nat,∃c2:Bool,e=.returned (.tuple #[(.slice cA cC cM),(.slice cN c0 c1),vB c2])/\split (!c2) (∃c3:oA,∃c4 c5:Nat,∃c6:oA,∃c7 c8:Nat,∃c9:oA,∃da dc:Nat,∃dd:oA,∃dk dp:Nat,ar D (vA c) 0 [.slice c3 c4 c5,.slice c6 c7 c8,.slice c9 da dc,.slice dd dk dp]/\ao D (vA A) [(.slice c3 c4 c5),(.slice c6 c7 c8),(.slice c9 da dc),(.slice dd dk dp)] λz=>∃d:oA,∃f g:Nat,∃j:oA,∃l p:Nat,∃q:oA,∃s t:Nat,∃u:oA,∃v x:Nat,ar z (vA A) 0 [.slice d f g,.slice j l p,.slice q s t,.slice u v x]/\R (.tuple #[(.agg #[(.slice d f g),(.slice j l p),(.slice q s t),(.slice u v x)]),vB false]) z) (∃dr:oA,∃dA dC:Nat,D.cell? ((vA c).add 2)=some (.slice dr dA dC)/\∀(dN:Nat)(z:World),dN=D.heap.size->z=D.alloc (.cells #[(.slice cA cC cM)] 26)->∃dT:oA,∃ea eb:Nat,∃B,(Builtin.append_ #[55,55] 55 #[(.slice dr dA dC),(.slice (pvA dN) 1 1)]:Sem Value).run Tryz.prog z=.ok (.slice dT ea eb) B/\ao B ((vA c).add 2) [(.slice dT ea eb)] λT=>∃m1,m1<m/\I m1 cN c0 c1 (u32.wrap (an+1)) T)) (Calls Tryz.prog 66 #[(.slice X Y Z)] H λe D=>∃ec:oA,∃ed ee:Nat,∃ei:oA,∃er et:Nat,∃ey:Bool,e=.returned (.tuple #[(.slice ec ed ee),(.slice ei er et),vB ey])/\ao D ((vA c).add 1) [(.slice ec ed ee)] λz=>split (!ey) (∃eL:oA,∃eM eN:Nat,∃eS:oA,∃e0 e1:Nat,∃e2:oA,∃e3 e4:Nat,∃e5:oA,∃e6 e7:Nat,ar z (vA c) 0 [.slice eL eM eN,.slice eS e0 e1,.slice e2 e3 e4,.slice e5 e6 e7]/\ao z (vA A) [(.slice eL eM eN),(.slice eS e0 e1),(.slice e2 e3 e4),(.slice e5 e6 e7)] λB=>∃d:oA,∃f g:Nat,∃j:oA,∃l p:Nat,∃q:oA,∃s t:Nat,∃u:oA,∃v x:Nat,ar B (vA A) 0 [.slice d f g,.slice j l p,.slice q s t,.slice u v x]/\R (.tuple #[(.agg #[(.slice d f g),(.slice j l p),(.slice q s t),(.slice u v x)]),vB false]) B) (∃b:bP,b 0 ((vA c).block)/\∃e8:oA,∃e9 fa:Nat,∃fb:oA,∃fA fC:Nat,∃ga:oA,∃gb gd:Nat,∃gf:oA,∃gh gk:Nat,ar z.drew (vA c) 0 [.slice e8 e9 fa,.slice fb fA fC,.slice ga gb gd,.slice gf gh gk]/\b 2 ((vA c).block)/\∃gm:oA,∃gr gw:Nat,∃g0:oA,∃g1 g2:Nat,∃g3:oA,∃g4 g5:Nat,∃g6:oA,∃g7 g8:Nat,ar z.drew (vA c) 0 [.slice gm gr gw,.slice g0 g1 g2,.slice g3 g4 g5,.slice g6 g7 g8]/\Calls Tryz.prog 44 #[(.agg #[(.slice e8 e9 fa),(.slice fb fA fC),(.slice ga gb gd),(.slice gf gh gk)])] z.drew λe B=>∃ha:Int,e=.returned (J ha)/\Kept (aX b [2,5]) z.drew B/\∃b1:bP,(∀i k,b i k->b1 i k)/\Calls Tryz.prog 45 #[(.agg #[(.slice gm gr gw),(.slice g0 g1 g2),(.slice g3 g4 g5),(.slice g6 g7 g8)])] B λe T=>∃hb:Int,e=.returned (J hb)/\Kept (aX b1 [5]) B T/\∃b2:bP,(∀i k,b1 i k->b2 i k)/\∃I1:Nat->Option Addr->Nat->Nat->Int->World->Prop,(∃U,I1 U ei er et 0 T)/\∀(U:Nat)(_gv4:Nat->Value)(hc:oA)(az hf:Nat)(aA:Int),∀V,I1 U hc az hf aA V->split (decide ((aA:Int)<(i64.wrap (ha+hb)))) (Calls Tryz.prog 66 #[(.slice hc az hf)] V λe L=>∃hg:oA,∃aC hh:Nat,∃hi:oA,∃hj hk:Nat,∃hl:Bool,e=.returned (.tuple #[(.slice hg aC hh),(.slice hi hj hk),vB hl])/\∃J1:Bool->World->Prop,(split (!hl) (J1 true L) (J1 ((((aC:Nat):Int):Int) !=1024) L))/\∀(_gv5:Nat->Value)(hn:Bool),∀K,J1 hn K->split hn (∃ho:oA,∃hp hq:Nat,∃hr:oA,∃hs ht:Nat,∃hv:oA,∃hx hy:Nat,∃hz:oA,∃hA hB:Nat,ar K (vA c) 0 [.slice ho hp hq,.slice hr hs ht,.slice hv hx hy,.slice hz hA hB]/\ao K (vA A) [(.slice ho hp hq),(.slice hr hs ht),(.slice hv hx hy),(.slice hz hA hB)] λM=>∃d:oA,∃f g:Nat,∃j:oA,∃l p:Nat,∃q:oA,∃s t:Nat,∃u:oA,∃v x:Nat,ar M (vA A) 0 [.slice d f g,.slice j l p,.slice q s t,.slice u v x]/\R (.tuple #[(.agg #[(.slice d f g),(.slice j l p),(.slice q s t),(.slice u v x)]),vB false]) M) (∃hC:oA,∃hD hE:Nat,K.cell? ((vA c).add 3)=some (.slice hC hD hE)/\∀(hF:Nat)(M:World),hF=K.heap.size->M=K.alloc (.cells #[(.slice hg aC hh)] 26)->∃hG:oA,∃hH hI:Nat,∃hJ,(Builtin.append_ #[55,55] 55 #[(.slice hC hD hE),(.slice (pvA hF) 1 1)]:Sem Value).run Tryz.prog M=.ok (.slice hG hH hI) hJ/\ao hJ ((vA c).add 3) [(.slice hG hH hI)] λh7=>∃m3,m3<U/\I1 m3 hi hj hk (i64.wrap (aA+1)) h7)) (∃hK:oA,∃hL hM:Nat,∃hN:oA,∃hO hP:Nat,∃hQ:oA,∃hR hS:Nat,∃hT:oA,∃hU hV:Nat,ar V (vA c) 0 [.slice hK hL hM,.slice hN hO hP,.slice hQ hR hS,.slice hT hU hV]/\ao V (vA A) [(.slice hK hL hM),(.slice hN hO hP),(.slice hQ hR hS),(.slice hT hU hV)] λL=>∃d:oA,∃f g:Nat,∃j:oA,∃l p:Nat,∃q:oA,∃s t:Nat,∃u:oA,∃v x:Nat,ar L (vA A) 0 [.slice d f g,.slice j l p,.slice q s t,.slice u v x]/\R (.tuple #[(.agg #[(.slice d f g),(.slice j l p),(.slice q s t),(.slice u v x)]),vB ((((az:Nat):Int):Int)==4)]) L))))):Calls Tryz.prog 43 #[(.slice bA bN bC)] w (aT R):=rvc [] (aq (aq (aq (aq (.node none (.node none (.node (some ⟨[(42,.one (.bool))],(rgN 14 29)⟩) .leaf .leaf) .leaf) (aq (.node none (aq (.node none (.node (some ⟨[(0,.one (.slice)),(48,.one (.int .u32))],[0,3,5,6,48,49,50,51,52,53,54,55,56,57,58,59,60,61,62,63,64,65]⟩) .leaf .leaf) .leaf)) (aq (.node none (aq (.node none (.node (some ⟨[(0,.one (.slice)),(81,.one (.int .i64))],[0,3,5,6,81,82,83,84,85,86,87,88,89,90,91,92,93,94,95,96,97,98,99,100,101,102,103]⟩) (aq (aq (.node none (.node none (.node none (aq (.node none (.node (some ⟨[(95,.one (.bool))],(rgN 89 7)⟩) .leaf .leaf) .leaf)) .leaf) .leaf) .leaf))) .leaf) .leaf)) .leaf))))))))) Tryz.func43 h
theorem yL(q:oA)(l p:Nat){R:aK}{w:World}(h:∀want:Int,want=1->∀W:Int,W=8->∃I:Nat->Option Addr->Nat->Nat->Int->Int->World->Prop,(∃m,I m none 0 0 want W w)/\∀(m:Nat)(_gv:Nat->Value)(B:oA)(z D:Nat)(E g:Int),∀A,I m B z D E g A->split (decide ((((z:Nat):Int):Int)<E)) (split (decide ((i64.wrap (g+4):Int)>((l:Nat):Int))) (R (.tuple #[(.slice none 0 0),vB false]) A) ((0<=(g:Int)/\(g:Int)<=((l:Nat):Int))/\∀X:oA,X=(if p=g.toNat then q else(q:oA).map (·.add (g.toNat *1)))->∀Y:Nat,Y=l - g.toNat->∀Z:Nat,Z=p - g.toNat->Calls Tryz.prog 32 #[(.slice X Y Z)] A λe an=>∃az:Int,e=.returned (O az)/\∀n:Int,n=(i64.wrap az)->∀b:Int,b=(i64.wrap (g+4))->split (decide ((n:Int)>(i64.wrap (((l:Nat):Int) - b)))) (R (.tuple #[(.slice none 0 0),vB false]) an) ((0<=(i64.wrap (b+n):Int)/\(i64.wrap (b+n):Int)<=((p:Nat):Int))/\(0<=(b:Int)/\(b:Int)<=((Int.toNat (i64.wrap (b+n)):Nat):Int))/\∀aA:oA,aA=(if p=b.toNat then q else(q:oA).map (·.add (b.toNat *1)))->∀aC:Nat,aC=(Int.toNat (i64.wrap (b+n))) - b.toNat->∀aN:Nat,aN=p - b.toNat->Calls Tryz.prog 52 #[(.slice aA aC aN)] an λe G=>∃j:oA,∃f a0:Nat,∃a1:Int,e=.returned (.tuple #[(.slice j f a0),J a1])/\split ((a1:Int) !=0) (R (.tuple #[(.slice none 0 0),vB false]) G) (∀H:Int,H=(i64.wrap (b+n))->∀(a2:Nat)(a3:World),a2=G.heap.size->a3=G.alloc (.cells #[(.slice j f a0)] 26)->∃s:oA,∃k K:Nat,∃d,(Builtin.append_ #[55,55] 55 #[(.slice B z D),(.slice (pvA a2) 1 1)]:Sem Value).run Tryz.prog a3=.ok (.slice s k K) d/\split ((((k:Nat):Int):Int)==1) (∃i:Bool->World->Prop,(split ((((f:Nat):Int):Int) !=26) (i true d) ((0<=(0:Int)/\(0:Int)<((f:Nat):Int))/\ai j λbc=>∃a4:Int,d.cell? (bc.add (Int.toNat 0*1))=some (O a4)/\split (decide ((a4:Int)>64)) (i true d) ((0<=(1:Int)/\(1:Int)<((f:Nat):Int))/\ai j λbd=>∃a5:Int,d.cell? (bd.add (Int.toNat 1*1))=some (O a5)/\split (decide ((a5:Int)>64)) (i true d) ((0<=(2:Int)/\(2:Int)<((f:Nat):Int))/\ai j λbg=>∃a6:Int,d.cell? (bg.add (Int.toNat 2*1))=some (O a6)/\i (decide ((a6:Int)>64)) d))))/\∀(_gv2:Nat->Value)(a7:Bool),∀c,i a7 c->split a7 (R (.tuple #[(.slice none 0 0),vB false]) c) ((0<=(0:Int)/\(0:Int)<((f:Nat):Int))/\ai j λbl=>∃a8:Int,c.drew.cell? (bl.add (Int.toNat 0*1))=some (O a8)/\(0<=(1:Int)/\(1:Int)<((f:Nat):Int))/\ai j λbs=>∃a9:Int,c.drew.cell? (bs.add (Int.toNat 1*1))=some (O a9)/\(0<=(2:Int)/\(2:Int)<((f:Nat):Int))/\ai j λb0=>∃ba:Int,c.drew.cell? (b0.add (Int.toNat 2*1))=some (O ba)/\∀bb:Int,bb=(i64.wrap (2+(i64.wrap (u32.wrap ((u32.wrap (a8+a9))+ba)))))->∃L:Bool->World->Prop,((0<=(0:Int)/\(0:Int)<((k:Nat):Int))/\ai s λM=>∃t:oA,∃u T:Nat,c.drew.cell? (M.add (Int.toNat 0*1))=some (.slice t u T)/\(0<=(2:Int)/\(2:Int)<((u:Nat):Int))/\ai t λU=>∃v:Int,c.drew.cell? (U.add (Int.toNat 2*1))=some (O v)/\split (decide ((((k:Nat):Int):Int)>(i64.wrap (2+(i64.wrap v))))) (L ((((f:Nat):Int):Int) !=1024) c.drew) (L false c.drew))/\∀(_gv3:Nat->Value)(x:Bool),∀V,L x V->split x (R (.tuple #[(.slice none 0 0),vB false]) V) (∃y,y<m/\I y s k K bb H V))) (∃i:Bool->World->Prop,((0<=(0:Int)/\(0:Int)<((k:Nat):Int))/\ai s λM=>∃t:oA,∃u T:Nat,d.cell? (M.add (Int.toNat 0*1))=some (.slice t u T)/\(0<=(2:Int)/\(2:Int)<((u:Nat):Int))/\ai t λU=>∃v:Int,d.cell? (U.add (Int.toNat 2*1))=some (O v)/\split (decide ((((k:Nat):Int):Int)>(i64.wrap (2+(i64.wrap v))))) (i ((((f:Nat):Int):Int) !=1024) d) (i false d))/\∀(_gv2:Nat->Value)(x:Bool),∀c,i x c->split x (R (.tuple #[(.slice none 0 0),vB false]) c) (∃y,y<m/\I y s k K E H c)))))) (R (.tuple #[(.slice B z D),vB ((i64.wrap (g+4):Int)==((l:Nat):Int))]) A)):Calls Tryz.prog 31 #[(.slice q l p)] w (aT R):=rvc [4,5,6,7] (aq (aq (aq (aq (.node none (.node none (.node (some ⟨[(4,.one (.slice)),(5,.one (.int .i64)),(6,.one (.int .i64))],(rgN 2 101)⟩) (aq (.node none (aq (aq (aq (aq (aq (aq (aq (aq (.node none (aq (.node none (.node none (.node none (.node (some ⟨[(74,.one (.bool))],(rgN 54 21)⟩) .leaf .leaf) .leaf) .leaf) .leaf)) (.node none (.node (some ⟨[(102,.one (.bool))],(rgN 88 15)⟩) .leaf .leaf) .leaf)))))))))) .leaf)) .leaf) .leaf) .leaf))))) Tryz.func31 h
theorem ur(c:oA)(d e:Nat)(f:oA)(g i:Nat)(j:oA)(k l:Nat)(m:oA)(p q:Nat){R:aK}{w:World}(h:∀(s:Nat)(b:World),s=w.heap.size->b=w.alloc (.cells #[(.slice c d e),(.slice f g i),(.slice j k l),(.slice m p q)] 70)->∃t:oA,∃u x:Nat,b.cell? ((vA s).add 0)=some (.slice t u x)/\(0<=(0:Int)/\(0:Int)<((u:Nat):Int))/\ai t λy=>∃v:Int,b.cell? (y.add (Int.toNat 0*1))=some (O v)/\R (J (i64.wrap v)) b):Calls Tryz.prog 44 #[(.agg #[(.slice c d e),(.slice f g i),(.slice j k l),(.slice m p q)])] w (aT R):=rvc [] (.leaf) Tryz.func44 h
theorem pI(c:oA)(d e:Nat)(f:oA)(g i:Nat)(j:oA)(k l:Nat)(m:oA)(p q:Nat){R:aK}{w:World}(h:∀(s:Nat)(b:World),s=w.heap.size->b=w.alloc (.cells #[(.slice c d e),(.slice f g i),(.slice j k l),(.slice m p q)] 70)->∃t:oA,∃u x:Nat,b.cell? ((vA s).add 0)=some (.slice t u x)/\(0<=(1:Int)/\(1:Int)<((u:Nat):Int))/\ai t λy=>∃v:Int,b.cell? (y.add (Int.toNat 1*1))=some (O v)/\R (J (i64.wrap v)) b):Calls Tryz.prog 45 #[(.agg #[(.slice c d e),(.slice f g i),(.slice j k l),(.slice m p q)])] w (aT R):=rvc [] (.leaf) Tryz.func45 h
end Go.Proofs.YtoghdgcmhbanbaaGreatDoor
end
