/- SvcAll returns true for every input of bulk at most 1048576; each argument reads behind the call as it read before. -/
import Derived.KernelRfl
import Derived.WalkKit
import Derived.Test.YtbcmefndjggkpaaGreatDoorProg
import Derived.Great.BuildSlice
import Derived.OrdersHeld
import Derived.Deep.Draws
import Derived.Scope
import Derived.RangeFuncSeq
import Derived.Laws.StructEq
import Derived.ChangeKeysEq
import Derived.DeepKeys
import Derived.RangeFuncLeaves
import Derived.RangeFuncRecord
import Derived.TacticsIn
import Derived.Laws.IdiomCopy
import Derived.Laws.MakeOwn
import Derived.Laws.OwnMore
import Derived.Lib.SliceRun
import Derived.Maps.AppendAt
import Derived.Deep.Upon
import Derived.ArgAppend
import Derived.MapKept
import Derived.Maps.Own
set_option linter.unusedVariables false
set_option linter.unusedSimpArgs false
set_option maxRecDepth 100000
set_option maxHeartbeats 1000000
namespace Go.Proofs.YtbcmefndjggkpaaGreatDoor
open Go.Proofs.Tryz (prog)
open Go
abbrev O(x:Int):Value:=.int .u32 x
abbrev J(x:Int):Value:=.int .i64 x
abbrev vY(x:Int):Value:=.int .u8 x
abbrev vA(b:Nat):Addr:=Addr.mk b 0 none
abbrev vB(x:Bool):Value:=.bool x
abbrev pvA(b:Nat):Option Addr:=some (vA b)
abbrev oA:=Option Addr
abbrev q8l(a b c d e f g h:Int):List Value:= [O a,O b,O c,O d,O e,O f,O g,O h]
abbrev q8a(a b c d e f g h:Int):Array Value:= #[O a,O b,O c,O d,O e,O f,O g,O h]
abbrev Nn(a b c d e f g h i j k l m n o p:Int):List Value:= [O a,O b,O c,O d,O e,O f,O g,O h,O i,O j,O k,O l,O m,O n,O o,O p]
abbrev jG(a b c d e f g h i j k l m n o p:Int):Array Value:= #[O a,O b,O c,O d,O e,O f,O g,O h,O i,O j,O k,O l,O m,O n,O o,O p]
abbrev z8a:Array Value:= #[O 0,O 0,O 0,O 0,O 0,O 0,O 0,O 0]
abbrev Mb:Array Value:= #[O 0,O 0,O 0,O 0,O 0,O 0,O 0,O 0,O 0,O 0,O 0,O 0,O 0,O 0,O 0,O 0]
def rgN(a:Nat):Nat->List Nat
 |0=>[]
 |n+1=>a::rgN (a+1) n
abbrev bP:=Nat->Nat->Prop
namespace V
open Go.RowKit
open Go.IntKind (i64 u32 u64 wrap_i64 wrap_u32)
section
structure Kept(B:Nat->Prop)(w w':World):Prop where
 os:w'.os=w.os
 tape:w'.tape=w.tape
 output:w'.output=w.output
 size:w.heap.size<=w'.heap.size
 block:∀k,B k->w'.heap[k]? =w.heap[k]?
theorem Kept.refl(B:Nat->Prop)(w:World):Kept B w w:=⟨rfl,rfl,rfl,Nat.le_refl _,λ_ _=>rfl⟩
theorem Kept.trans {B:Nat->Prop}{a b c:World}(h:Kept B a b)(k:Kept B b c):Kept B a c:=
 ⟨k.os.trans h.os,k.tape.trans h.tape,k.output.trans h.output,Nat.le_trans h.size k.size,λi hi=>(k.block i hi).trans (h.block i hi)⟩
theorem Kept.mono {B b:Nat->Prop}{w w':World}(h:Kept B w w')(d:∀k,b k->B k):Kept b w w':=
 ⟨h.os,h.tape,h.output,h.size,λk f=>h.block k (d k f)⟩
theorem Kept.cell {B:Nat->Prop}{w w':World}{p:Addr}(h:Kept B w w')(b:B p.block):w'.cell? p=w.cell? p:=by
 unfold World.cell?;rw[h.block _ b]
theorem Kept.below {n:Nat}{w w':World}(h:Kept (· <n) w w'):Below n w w':=⟨h.os,h.tape,h.output,h.size,h.block⟩
theorem Kept.Hw {n:Nat}{w w':World}(h:Below n w w'):Kept (· <n) w w':=⟨h.os,h.tape,h.output,h.size,h.block⟩
def held(B:Option (Nat->Prop))(w:World):Nat->Prop:=
 match B with
 |none=>λk=>k<w.heap.size
 |some b=>b
inductive Sh where
 |int (k:IntKind)|bool|str|ptr|slice|map|val
def Sh.ex:Sh->(Value->Prop)->Prop
 |.int k,F=>∃x:Int,F (.int k x)
 |.bool,F=>∃b:Bool,F (.bool b)
 |.str,F=>∃s:ByteArray,F (.string s)
 |.ptr,F=>∃a:Option Addr,F (.pointer a)
 |.slice,F=>∃(a:Option Addr)(n c:Nat),F (.slice a n c)
 |.map,F=>∃r:Option Nat,F (.map r)
 |.val,F=>∃v:Value,F v
theorem Sh.lB {s:Sh}{F:Value->Prop}(h:s.ex F):∃v,F v:=by
 cases s<;>simp only[Sh.ex]at h
 case int=>obtain⟨x,h⟩:=h;exact⟨_,h⟩
 case bool=>obtain⟨x,h⟩:=h;exact⟨_,h⟩
 case str=>obtain⟨x,h⟩:=h;exact⟨_,h⟩
 case ptr=>obtain⟨x,h⟩:=h;exact⟨_,h⟩
 case slice=>obtain⟨x,y,z,h⟩:=h;exact⟨_,h⟩
 case map=>obtain⟨x,h⟩:=h;exact⟨_,h⟩
 case val=>exact h
def exs:List Sh->(List Value->Prop)->Prop
 | [],F=>F []
 |s::r,F=>s.ex λv=>exs r λvs=>F (v::vs)
theorem EG:∀ {l:List Sh}{F:List Value->Prop},exs l F->∃vs,F vs
 | [],_,h=>⟨[],h⟩
 | _::_,_,h=>by
  obtain⟨v,h⟩:=Sh.lB h;obtain⟨vs,h⟩:=EG h;exact⟨_,h⟩
inductive Sh2 where
 |one (s:Sh)|agg (l:List Sh)|row (n:Nat)
def Sh2.ex:Sh2->(Value->Prop)->Prop
 |.one s,F=>s.ex F
 |.agg l,F=>exs l λvs=>F (.agg ⟨vs⟩)
 |.row _,F=>∃cs:Array Value,F (.agg cs)
theorem Sh2.lB {s:Sh2}{F:Value->Prop}(h:s.ex F):∃v,F v:=by
 cases s with
 |one s=>exact Sh.lB h
 |agg l=>obtain⟨vs,h⟩:=EG h;exact⟨_,h⟩
 |row n=>obtain⟨cs,h⟩:=h;exact⟨_,h⟩
def Dm:List Sh2->(List Value->Prop)->Prop
 | [],F=>F []
 |s::r,F=>s.ex λv=>Dm r λvs=>F (v::vs)
theorem Bm:∀ {l:List Sh2}{F:List Value->Prop},Dm l F->∃vs,F vs
 | [],_,h=>⟨[],h⟩
 | _::_,_,h=>by
  obtain⟨v,h⟩:=Sh2.lB h;obtain⟨vs,h⟩:=Bm h;exact⟨_,h⟩
def Mj:Value->Sh
 |.int k _=>.int k
 |.bool _=>.bool
 |.string _=>.str
 |.pointer _=>.ptr
 |.slice .. =>.slice
 |.map _=>.map
 |_=>.val
def G2:Value->Sh2
 | .agg cs=>match Nat.ble cs.size 24 with
  |true=>.agg (cs.toList.map Mj)
  |false=>.row cs.size
 |v=>.one (Mj v)
def rW:Nat:=1000000007
def exT(P:Program)(t:TypeId)(F:Value->Prop):Prop:=
 match (P.info? t).bind (·.zero)with
 |some (.tuple vs)=>Dm (vs.toList.map G2) λus=>F (.tuple ⟨us⟩)
 |some z=>(G2 z).ex F
 |none=>∃v,F v
theorem tr {P:Program}{t:TypeId}{F:Value->Prop}(h:exT P t F):∃v,F v:=by
 unfold exT at h;split at h
 ·obtain⟨vs,h⟩:=Bm h;exact⟨_,h⟩
 ·exact Sh2.lB h
 ·exact h
structure Fr where
 e:List (Nat×Value)
 g:Nat->Value
 ds:List Deferred
def lk(g:Nat->Value)(i:Nat):List (Nat×Value)->Value
 | []=>g i
 | (d,v)::r=>match Nat.beq i d with
  |true=>v
  |false=>lk g i r
def ev(fr:Fr):Operand->Value
 |.tmp t=>lk fr.g t fr.e
 |.const v=>v
 |.global g=>.pointer (some ⟨g,0,none⟩)
 |.func f=>.func (.func f) #[] #[]
structure Rep(n:Nat)(fr:Fr)(a:Act):Prop where
 size:a.tmps.size=n
 get:∀i,a.tmps.getD i undef=lk fr.g i fr.e
 defers:a.defers=fr.ds
theorem Rep.eval {n:Nat}{fr:Fr}{a:Act}(h:Rep n fr a):a.eval=ev fr:=by
 funext x;cases x<;>simp[Act.eval,ev,h.get]
def Kv(v:Value)(F:Value->Prop):Prop:=
 match v with
 |.int k x=>∀z:Int,z=x->F (.int k z)
 |.bool x=>∀z:Bool,z=x->F (.bool z)
 |v=>F v
theorem FO {v:Value}{F:Value->Prop}(h:Kv v F):F v:=by
 cases v<;>first|exact h|exact h _ rfl
def kh(n:Nat)(N:List Nat)(fr:Fr)(dst:Option Tmp)(v:Value)(F:Fr->Prop):Prop:=
 match dst with
 |none=>F fr
 | some d=>match Nat.blt d n with
  | true=>(match N.elem d with
   |true=>Kv v λv=>F ⟨(d,v)::fr.e,fr.g,fr.ds⟩
   |false=>F ⟨(d,v)::fr.e,fr.g,fr.ds⟩)
  |false=>False
structure Agr(ws:List Nat)(a b:Act):Prop where
 tmps:∀i,i ∉ ws->b.tmps.getD i undef=a.tmps.getD i undef
 defers:rW ∉ ws->b.defers=a.defers
theorem Agr.refl(ws:List Nat)(a:Act):Agr ws a a:=⟨λ_ _=>rfl,λ_=>rfl⟩
theorem Agr.trans {ws:List Nat}{a b c:Act}(h:Agr ws a b)(k:Agr ws b c):Agr ws a c:=⟨λi hi=>(k.tmps i hi).trans (h.tmps i hi),λhi=>(k.defers hi).trans (h.defers hi)⟩
theorem Agr.mono {ws f:List Nat}{a b:Act}(h:Agr ws a b)(hs:∀i,i∈ws->i∈f):Agr f a b:=⟨λi hi=>h.tmps i (λd=>hi (hs i d)),λhi=>h.defers (λd=>hi (hs _ d))⟩
theorem rV(a:Act)(d:Nat)(v:Value)(i:Nat)(h:i≠d):(a.put (some d) v).tmps.getD i undef=a.tmps.getD i undef:=by
 simp only[Act.put,Array.getD_eq_getD_getElem?,Array.getElem?_setIfInBounds];rw[if_neg (by omega)]
theorem getD_put_eq(a:Act)(d:Nat)(v:Value)(h:d<a.tmps.size):(a.put (some d) v).tmps.getD d undef=v:=by
 simp only[Act.put,Array.getD_eq_getD_getElem?,Array.getElem?_setIfInBounds];simp[h]
theorem iU {n:Nat}{N:List Nat}{fr:Fr}{a:Act}{dst:Option Tmp}{v:Value}{F:Fr->Prop}(b:Rep n fr a)(h:kh n N fr dst v F):
 ∃f,Rep n f (a.put dst v)/\F f:=by
 unfold kh at h;cases dst with
 |none=>exact⟨fr,b,h⟩
 | some d=>
  simp only at h;split at h
  ·rename_i j;have hd:d<n:=by simpa[Nat.blt_eq]using j
   have h:F ⟨(d,v)::fr.e,fr.g,fr.ds⟩:=by
    split at h
    ·exact FO h
    ·exact h
   refine⟨_,⟨by simp[Act.put,b.size],λi=>?_,by simp[Act.put,b.defers]⟩,h⟩;simp only[lk];split
   ·rename_i hi;obtain rfl:i=d:=Nat.eq_of_beq_eq_true hi;exact getD_put_eq a i v (by rw[b.size];exact hd)
   ·rename_i hi;have m:i≠d:=by rintro rfl;simp at hi
    rw[rV a d v i m,b.get]
  ·exact h.elim
theorem Agr.put {ws:List Nat}(a:Act)(dst:Option Tmp)(v:Value)(h:∀d,dst=some d->d∈ws):Agr ws a (a.put dst v):=by
 refine⟨λi hi=>?_,λ_=>by cases dst<;>rfl⟩;cases dst with
 |none=>rfl
 |some d=>exact rV a d v i (λe=>hi (e▸h d rfl))
def split(b:Bool)(x y:Prop):Prop:=
 match b with
 |true=>x
 |false=>y
theorem aj {b:Bool}{x y:Prop}(d:b=true->x)(f:b=false->y):split b x y:=by
 cases b
 ·exact f rfl
 ·exact d rfl
theorem iC {b:Bool}{x y:Prop}(h:split b x y):(b=true/\x)\/(b=false/\y):=by
 cases b
 ·exact .inr ⟨rfl,h⟩
 ·exact .inl ⟨rfl,h⟩
def ay {α:Type}(a:Option α)(F:α->Prop):Prop:=
 match a with
 |some p=>F p
 |none=>False
theorem ar {α:Type}{a:Option α}{F:α->Prop}(p:α)(h:a=some p)(b:F p):ay a F:=by
 subst h;exact b
theorem dU {α:Type}{a:Option α}{F:α->Prop}(h:ay a F):∃p,a=some p/\F p:=by
 cases a with
 |none=>exact h.elim
 |some p=>exact⟨p,rfl,h⟩
def kEq:IntKind->IntKind->Bool
 |.i8,.i8|.i16,.i16|.i32,.i32|.i64,.i64|.u8,.u8|.u16,.u16|.u32,.u32|.u64,.u64=>true
 |_,_=>false
theorem pS {a b:IntKind}(h:kEq a b=true):a=b:=by
 cases a<;>cases b<;>simp_all[kEq]
def jf(P:Program)(t:TypeId):Bool:=
 match P.underlying t with
 |some (.struct _)=>true
 |some (.array _ _)=>true
 |_=>false
def lT:Value->Value->Bool
 |.int _ a,.int _ b=>a==b
 |.bool a,.bool b=>a==b
 |.string a,.string b=>a.toList==b.toList
 |_,_=>false
def eqL:List Value->List Value->Bool
 |a::d,b::f=>lT a b && eqL d f
 |_,_=>true
def bW(xs b:Array Value):Bool:=eqL xs.toList b.toList
def uN(P:Program)(g:TypeId->Option (List Sh)):Nat->List Field->Option (List Sh)
 |_,[]=>some []
 |off,f::r=>match Nat.beq f.offset off,f.name== "_",g f.type,P.info? f.type with
  | true,false,some l,some i=>(match Nat.beq i.size l.length,uN P g (off+l.length) r with
   |true,some l'=>some (l++l')
   |_,_=>none)
  |_,_,_,_=>none
def Az(l:List Sh):Nat->List Sh
 |0=>[]
 |n+1=>l++Az l n
def jj(P:Program):Nat->TypeId->Option (List Sh)
 |0,_=>none
 | m+1,t=>match P.underlying t with
  |some (.int k)=>some [.int k]
  |some .bool=>some [.bool]
  |some .string=>some [.str]
  | some (.struct fs)=>match P.stoodInHeld t with
   |true=>none
   |false=>uN P (jj P m) 0 fs.toList
  | some (.array n e)=>match jj P m e,P.info? e with
   | some l,some i=>(match Nat.beq i.size l.length with
    |true=>some (Az l n)
    |false=>none)
   |_,_=>none
  |_=>none
def eg:List Sh->List Value->Bool
 | [],[]=>true
 | .int k::l,.int k' _::vs=>match kEq k k' with
  |true=>eg l vs
  |false=>false
 |.bool::l,.bool _::vs=>eg l vs
 |.str::l,.string _::vs=>eg l vs
 |_,_=>false
def JS(l:List Sh)(xs:Array Value)(F:Prop):Prop:=
 match Nat.ble l.length 24 with
 | true=>(match eg l xs.toList with
  |true=>F
  |false=>False)
 |false=>eg l xs.toList=true/\F
theorem Bi {l:List Sh}{xs:Array Value}{F:Prop}(h:JS l xs F):eg l xs.toList=true/\F:=by
 unfold JS at h;split at h
 ·split at h
  ·rename_i b;exact⟨b,h⟩
  ·exact h.elim
 ·exact h
abbrev bq:=Value->World->Prop
def aL(w:World)(p:Addr):Nat->List Value->Prop
 |_,[]=>True
 |i,[v]=>w.cell? (p.add i)=some v
 |i,v::r=>w.cell? (p.add i)=some v/\aL w p (i+1) r
theorem yW {w:World}{p:Addr}{i:Nat}{v:Value}{r:List Value}(h:aL w p i (v::r)):w.cell? (p.add i)=some v/\aL w p (i+1) r:=by
 cases r with
 |nil=>exact⟨h,trivial⟩
 |cons u r=>exact h
def jq(w:World)(p:Addr):Sh2->Value->Prop
 |.one _,v=>w.cell? p=some v
 | .agg l,.agg cs=>match Nat.beq cs.toList.length l.length with
  |true=>aL w p 0 cs.toList
  |false=>False
 |.row n,.agg cs=>cs.size=n/\∀i u,cs[i]? =some u->w.cell? (p.add i)=some u
 |_,_=>False
def eV(P:Program)(t:TypeId):Sh2:=
 match (P.info? t).bind (·.zero)with
 |some z=>G2 z
 |none=>.one .val
def u5(P:Program)(t:TypeId)(b:Bool):Bool:=
 match P.underlying t with
 |some (.struct _)=>b
 |some (.array _ _)=>b
 |some _=>!b
 |none=>false
theorem xV {P:Program}{t:TypeId}{b:Bool}(h:u5 P t b=true)(w:World):(isAgg t).run P w=.ok b w:=by
 unfold u5 at h;cases hu:P.underlying t with
 |none=>simp[hu]at h
 |some d=>cases d<;>simp_all[isAgg,run_underlying hu]
def tV:Sh2->Bool
 |.one _=>false
 |_=>true
def jd:Sh2->Nat
 |.one _=>1
 |.agg l=>l.length
 |.row n=>n
def one? :Value->Prop->Prop
 |.agg _,_=>False
 |.tuple _,_=>False
 |_,p=>p
def ph(p:Addr):Nat->List Value->World->(World->Prop)->Prop
 |_,[],w,K=>K w
 |i,v::r,w,K=>one? v ((∃u,w.cell? (p.add i)=some u)/\w.frozen? (p.add i)=false/\ph p (i+1) r (w.setCell (p.add i) v) K)
def nz(y:Int)(p:Prop):Prop:=
 match y with
 |.ofNat 0=>False
 |.ofNat (_+1)=>p
 |.negSucc _=>p
theorem AO {y:Int}{p:Prop}(d:y≠0)(b:p):nz y p:=by
 cases y with
 | ofNat n=>cases n with
  |zero=>exact absurd rfl d
  |succ n=>exact b
 |negSucc n=>exact b
theorem Hx {y:Int}{p:Prop}(h:nz y p):y≠0/\p:=by
 cases y with
 | ofNat n=>cases n with
  |zero=>exact h.elim
  |succ n=>exact⟨by simp;omega,h⟩
 |negSucc n=>exact⟨by simp,h⟩
def iM(y:Int)(F:Nat->Prop):Prop:=
 match y with
 |.ofNat n=>F n
 |.negSucc _=>False
theorem jD {y:Int}{F:Nat->Prop}(d:0<=y)(b:F y.toNat):iM y F:=by
 cases y with
 |ofNat n=>exact b
 |negSucc n=>omega
theorem rE {y:Int}{F:Nat->Prop}(h:iM y F):¬y<0/\F y.toNat:=by
 cases y with
 |ofNat n=>exact⟨by simp,h⟩
 |negSucc n=>exact h.elim
def HK(op:BinOp)(k:IntKind)(x y:Int)(F:Value->Prop):Prop:=
 match op with
 |.add=>F (.int k (k.wrap (x+y)))
 |.sub=>F (.int k (k.wrap (x - y)))
 |.mul=>F (.int k (k.wrap (x*y)))
 |.quo=>nz y (F (.int k (k.wrap (x.tdiv y))))
 |.rem=>nz y (F (.int k (x.tmod y)))
 |.and=>F (.int k (k.wrap (BitVec.ofInt k.bits x &&& BitVec.ofInt k.bits y).toNat))
 |.or=>F (.int k (k.wrap (BitVec.ofInt k.bits x ||| BitVec.ofInt k.bits y).toNat))
 |.xor=>F (.int k (k.wrap (BitVec.ofInt k.bits x ^^^ BitVec.ofInt k.bits y).toNat))
 |.andNot=>F (.int k (k.wrap (BitVec.ofInt k.bits x &&& ~~~(BitVec.ofInt k.bits y)).toNat))
 |.eql=>F (.bool (x==y))
 |.neq=>F (.bool (x !=y))
 |.lss=>F (.bool (decide (x<y)))
 |.leq=>F (.bool (decide (x<=y)))
 |.gtr=>F (.bool (decide (x>y)))
 |.geq=>F (.bool (decide (x>=y)))
 |_=>False
def yy(op:BinOp)(k:IntKind)(x y:Int)(F:Value->Prop):Prop:=
 match op with
 |.shl=>iM y λn=>F (.int k (k.wrap (x*2 ^ (min n k.bits))))
 |.shr=>iM y λn=>F (.int k (x.fdiv (2 ^ (min n k.bits))))
 |_=>False
def yO:BinOp->Bool
 |.shl|.shr=>true
 |_=>false
def GY(op:BinOp)(x y:ByteArray)(F:Value->Prop):Prop:=
 match op with
 |.add=>x.size+y.size<=9223372036854775807/\F (.string (x++y))
 |.eql=>F (.bool (x.toList==y.toList))
 |.neq=>F (.bool (!(x.toList==y.toList)))
 |.lss=>F (.bool (Op.bytesLess x.toList y.toList))
 |.leq=>F (.bool (Op.bytesLess x.toList y.toList || x.toList==y.toList))
 |.gtr=>F (.bool (!(Op.bytesLess x.toList y.toList || x.toList==y.toList)))
 |.geq=>F (.bool (!(Op.bytesLess x.toList y.toList)))
 |_=>False
def eqB(op:BinOp)(b:Bool)(F:Value->Prop):Prop:=
 match op with
 |.eql=>F (.bool b)
 |.neq=>F (.bool (!b))
 |_=>False
def LG(P:Program)(op:BinOp)(t:TypeId)(Y:Operand)(x y:Value)(F:Value->Prop)(els:Prop):Prop:=
 match x,y with
 | .int k a,.int k' b=>match yO op with
  |true=>yy op k a b F
  | false=>match kEq k k' with
   |true=>HK op k a b F
   |false=>False
 |.string a,.string b=>GY op a b F
 | .bool a,.bool b=>match P.underlying t with
  |some .bool=>eqB op (a==b) F
  |_=>els
 | .pointer a,_=>match P.underlying t,Y with
  |some (.pointer _),.const (.pointer none)=>eqB op a.isNone F
  |_,_=>els
 | .slice a _ _,_=>match P.underlying t,Y with
  |some (.slice _),.const (.slice none _ _)=>eqB op a.isNone F
  |_,_=>els
 | .map a,_=>match P.underlying t,Y with
  |some (.map _ _),.const (.map none)=>eqB op a.isNone F
  |_,_=>els
 | .agg xs,.agg d=>match P.eqGuardType P.depth t,jf P t,jj P 8 t with
  |false,true,some l=>JS l xs (JS l d (eqB op (bW xs d) F))
  |_,_,_=>els
 |_,_=>els
def unM(op:UnOp)(x:Value)(F:Value->Prop):Prop:=
 match op,x with
 |.not,.bool b=>F (.bool (!b))
 |.neg,.int k n=>F (.int k (k.wrap (0 - n)))
 |.xor,.int k n=>F (.int k (k.wrap (BitVec.ofInt k.bits (if k.signed then -1 else k.max) ^^^ BitVec.ofInt k.bits n).toNat))
 |_,_=>False
def sm(hi:Option Value)(len cap:Nat)(F:Nat->Prop):Prop:=
 match hi with
 |none=>F len
 |some (.int _ h)=>(0<=h/\h<=cap)/\F h.toNat
 |_=>False
def sk(lo:Option Value)(h:Nat)(F:Nat->Prop):Prop:=
 match lo with
 |none=>F 0
 |some (.int _ l)=>(0<=l/\l<=h)/\F l.toNat
 |_=>False
def oE(mx:Option Value)(cap:Nat)(F:Nat->Prop):Prop:=
 match mx with
 |none=>F cap
 |some (.int _ m)=>(0<=m/\m<=cap)/\F m.toNat
 |_=>False
def bw(P:Program)(t:TypeId):Nat:=
 match P.info? t with
 |some i=>i.size
 |none=>0
def hasType(P:Program)(t:TypeId):Bool:=
 match P.info? t with
 |some _=>true
 |none=>false
def n9(P:Program)(t:TypeId)(x:Value)(lo hi mx:Option Value)(F:Value->Prop)(els:Prop):Prop:=
 match P.underlying t,x with
 | some (.slice e),.slice a len cap=>match hasType P e && (mx.isNone || hi.isSome)with
  | true=>oE mx cap λm=>sm hi len m λh=>sk lo h λl=>
   ∀a',a'=(if m=l then a else a.map (·.add (l*bw P e)))->∀n',n'=h - l->∀c',c'=m - l->F (.slice a' n' c')
  |false=>False
 | some .string,.string s=>match mx with
  |none=>sm hi s.size s.size λh=>sk lo h λl=>F (.string (s.extract l h))
  |some _=>False
 | some (.array n e),.pointer a=>match hasType P e && (mx.isNone || hi.isSome)with
  | true=>ay a λp=>oE mx n λm=>sm hi n m λh=>sk lo h λl=>
   ∀a',a'=some (if m=l then p else p.add (l*bw P e))->∀n',n'=h - l->∀c',c'=m - l->F (.slice a' n' c')
  |false=>False
 |_,_=>els
def nK(P:Program)(t:TypeId)(x i:Value)(F:Value->Prop):Prop:=
 match P.underlying t,x,i with
 | some (.slice e),.slice a n _,.int _ i=>match hasType P e with
  |true=>(0<=i/\i<n)/\ay a λp=>F (.pointer (some (p.add (i.toNat *bw P e))))
  |false=>False
 | some (.array n e),.pointer a,.int _ i=>match hasType P e with
  |true=>(0<=i/\i<n)/\ay a λp=>F (.pointer (some (p.add (i.toNat *bw P e))))
  |false=>False
 |_,_,_=>False
def lz(P:Program)(s:TypeId)(x:Value)(f:Nat)(F:Value->Prop):Prop:=
 match P.underlying s with
 | some (.struct fields)=>match fields[f]? with
  | some fd=>match P.info? fd.type with
   | some i=>match Nat.beq i.size 0 with
    | false=>match x with
     |.pointer a=>ay a λp=>F (.pointer (some (p.add fd.offset)))
     |_=>False
    |true=>False
   |none=>False
  |none=>False
 |_=>False
def H3(P:Program)(src dst:TypeId)(x:Value)(F:Value->Prop)(els:Prop):Prop:=
 match P.underlying src,P.underlying dst,x with
 |some _,some (.int k),.int _ n=>F (.int k (k.wrap n))
 |some _,some .string,.string s=>F (.string s)
 |_,_,_=>els
def QpP:Option (List PanicEntry->World->Prop)->List PanicEntry->World->Prop
 |none,_,_=>False
 |some q,ch,w=>q ch w
def dy(P:Program)(f:FuncId):Bool:=
 match P.funcs[f]? with
 |some fn=>fn.body.isSome && !(fn.name== "runtime.NumGoroutine")
 |none=>false
def setRow(p:Addr):Nat->List Value->World->World
 |_,[],w=>w
 |i,v::r,w=>setRow p (i+1) r (w.setCell (p.add i) v)
def Blk(w:World)(g:Nat)(cs:Array Value)(T:TypeId):Prop:=w.heap[g]? =some (.cells cs T (0,0))
def setAt(cs:Array Value)(o:Nat):List Value->Array Value
 | []=>cs
 |v::r=>setAt (cs.setIfInBounds o v) (o+1) r
structure cJ(w:World)(g:Nat)(cs:Array Value)(T:TypeId)(w2:World):Prop where
 blk:Blk w2 g cs T
 kept:Kept (λk=>k≠g) w w2
 size:w2.heap.size=w.heap.size
def aF(w:World)(p:Addr)(vs:List Value)(K:World->Prop):Prop:=∃(g o:Nat)(cs:Array Value)(T:TypeId),p=⟨g,o,none⟩/\Blk w g cs T/\o+vs.length<=cs.size/\∀w2,cJ w g (setAt cs o vs) T w2->K w2
def nI:List Value->Prop->Prop
 | [],F=>F
 |v::r,F=>one? v (nI r F)
def uA(K:bq)(v:Value)(w':World):Prop:=
 match v with
 |.pointer (some ⟨b,0,none⟩)=>∀(g:Nat)(w2:World),g=b->w2=w'->K (.pointer (some ⟨g,0,none⟩)) w2
 |.slice (some ⟨b,0,none⟩) n c=>∀(g:Nat)(w2:World),g=b->w2=w'->K (.slice (some ⟨g,0,none⟩) n c) w2
 |v=>K v w'
theorem xp {K:bq}{v:Value}{w':World}(h:uA K v w'):K v w':=by
 unfold uA at h;split at h
 ·exact h _ _ rfl rfl
 ·exact h _ _ rfl rfl
 ·exact h
def KG(P:Program)(C:List Nat)(Y:Bool)(v:Value)(args:Array Value)(w:World)(R:Ending->World->Prop):Prop:=
 match v with
 | .func (.func f) first cap=>(match C.elem f with
  |true=>Calls P f (first++args++cap) w R
  |false=>False)
 | .func (.yield l) first _=>(match Y with
  |true=>YieldAt Fence.wide 0 P l (first++args) w R
  |false=>False)
 |_=>False
def AX(P:Program)(t:TypeId)(name:String):Option FuncId:=
 match P.info? t,P.underlying t with
 |some _,some (.pointer _)=>none
 | some i,some _=>(match i.methods.find? (·.name==name)with
  | some m=>(match m.func,m.path.toList with
   |some (f,false),[]=>some f
   |_,_=>none)
  |none=>none)
 |_,_=>none
theorem xq {P:Program}{t:TypeId}{name:String}{f:FuncId}{u:Value}(h:AX P t name=some f)(w:World):(method (P.types.size+Made.depth) t u name).run P w=.ok (f,u) w:=by
 obtain⟨n,b⟩:∃n,P.types.size+Made.depth=n+1:=⟨P.types.size+Made.depth - 1,by unfold Made.depth;omega⟩;rw[b];unfold AX at h;split at h
 ·cases h
 ·rename_i i d hi hu hd;split at h
  ·rename_i m hm;split at h
   ·rename_i j p q;injection h with h
    subst h;have s:i.methods.find? (λm=>m.name==name)=some m:=hm;cases d<;>simp_all[method,typeInfo,follow,receiverAt,underlying,Place.get]
   ·cases h
  ·cases h
 ·cases h
def M1(P:Program)(C:List Nat)(v:Value)(name:String)(args:Array Value)(w:World)(R:Ending->World->Prop):Prop:=∃(t:TypeId)(u:Value)(f:Nat),v=.iface t u/\AX P t name=some f/\C.elem f=true/\Calls P f (#[u]++args) w R
def xI(P:Program)(t:TypeId)(K:bq)(Qp:Option (List PanicEntry->World->Prop)):Ending->World->Prop:=
 match Qp with
 |none=>λe w'=>exT P t λv=>e=.returned v/\K v w'
 |some q=>λe w'=>(exT P t λv=>e=.returned v/\K v w')\/∃ch,e=.panicked ch/\q ch w'
theorem qN {P:Program}{t:TypeId}{K:bq}{Qp:Option (List PanicEntry->World->Prop)}{e:Ending}{w':World}(h:xI P t K Qp e w'):(∃v,e=.returned v/\K v w')\/∃ch,e=.panicked ch/\QpP Qp ch w':=by
 unfold xI at h;cases Qp with
 |none=>exact .inl (tr h)
 |some q=>exact h.imp tr id
def gM(P:Program){α:Type}:Sem α->Option α
 |.pure a=>some a
 |.program k=>gM P (k P)
 |.mark _ k=>gM P k
 |_=>none
theorem AH {P:Program}{α:Type}{s:Sem α}{v:α}(h:gM P s=some v)(w:World):s.run P w=.ok v w:=by
 induction s with
 |pure a=>simp only[gM,Option.some.injEq]at h;subst h;rfl
 |program k b=>exact b _ h
 |mark m k b=>exact b h
 |_=>simp[gM]at h
def so(F:Value->Prop)(els:Prop):Option Next->Prop
 |some (.value v)=>F v
 |_=>els
def Di(P:Program)(t:TypeId)(x i:Value)(F:Value->Prop):Prop:=
 match P.underlying t,x,i with
 |some .string,.string s,.int _ i=>ay (if 0<=i then s[i.toNat]? else none) λb=>F (.int .u8 b.toNat)
 | some (.array n e),.agg cs,.int _ i=>match u5 P e false,hasType P e with
  |true,true=>(0<=i/\i<n)/\(eV P e).ex λv=>cs[i.toNat *bw P e]? =some v/\F v
  |_,_=>False
 |_,_,_=>False
def Mu(B:Option (Nat->Prop))(p:Addr)(F:Prop):Prop:=
 match B with
 |none=>F
 |some b=>b p.block/\F
def rJ(P:Program)(B:Option (Nat->Prop))(o:Oper)(ρ:Operand->Value)(w:World)(F:Value->Prop)(els:Prop):Prop:=
 match o.op with
 |.move x=>F (ρ x)
 |.assign x=>F (ρ x)
 | .pick c a b=>match ρ c with
  |.bool t=>split t (F (ρ a)) (F (ρ b))
  |_=>False
 | .load t x=>match ρ x with
  | .pointer a=>match eV P t,u5 P t (tV (eV P t)) && hasType P t && Nat.beq (jd (eV P t)) (bw P t)with
   |s,true=>ay a λp=>Mu B p (s.ex λv=>jq w p s v/\F v)
   |_,false=>False
  |_=>False
 | .nilCheck x=>match ρ x with
  |.pointer a=>ay a λp=>F (.pointer (some p))
  |_=>els
 |.fieldAddr s x f=>lz P s (ρ x) f F
 |.indexAddr t x i=>nK P t (ρ x) (ρ i) F
 |.index t x i=>Di P t (ρ x) (ρ i) F
 |.binOp op t x y _=>LG P op t y (ρ x) (ρ y) F els
 |.unOp op _ x=>unM op (ρ x) F
 |.convert src dst x=>H3 P src dst (ρ x) F els
 |.slice t x lo hi mx=>n9 P t (ρ x) (lo.map ρ) (hi.map ρ) (mx.map ρ) F els
 |.build .. =>so F els (gM P (execOp ρ o))
 |.field .. =>so F els (gM P (execOp ρ o))
 |.extract .. =>so F els (gM P (execOp ρ o))
 |.makeInterface .. =>so F els (gM P (execOp ρ o))
 |.typeAssert .. =>so F els (gM P (execOp ρ o))
 |.makeFunc .. =>so F els (gM P (execOp ρ o))
 | .sliceToArrayPointer arr x=>match P.underlying arr,ρ x with
  |some (.array n _),.slice a len _=>n<=len/\F (.pointer a)
  |_,_=>els
 | .call c=>match c.callee,c.args.toList,c.argTypes.toList with
  | .builtin .len,[x],[t]=>match P.underlying t with
   | some (.slice _)=>(match ρ x with
    |.slice _ n _=>F (.int .i64 n)
    |_=>els)
   | some .string=>(match ρ x with
    |.string s=>F (.int .i64 s.size)
    |_=>els)
   |_=>els
  | .builtin .min,[x,y],_=>match ρ x,ρ y with
   |.int k a,.int _ b=>F (.int k (if b<a then b else a))
   |_,_=>els
  | .builtin .max,[x,y],_=>match ρ x,ρ y with
   |.int k a,.int _ b=>F (.int k (if b>a then b else a))
   |_,_=>els
  |_,_,_=>els
 |_=>els
def runM(P:Program)(s:Sem Next)(w:World)(K:bq):Prop:=
 match s.run P w with
 |.ok (.value v) w'=>K v w'
 |_=>False
def we(o:Oper)(ρ:Operand->Value):Option (Sem Value):=
 match o.op with
 |.binOp op t x y _=>some (do eqGuard op t x y (ρ x) (ρ y);binOp op t (ρ x) (ρ y))
 |.convert src dst x=>some (convert src dst (ρ x))
 |.sliceToArrayPointer arr x=>some (Instr.arrayAt arr (ρ x))
 |.makeMap t r=>some (Instr.makeMap t (r.map ρ))
 |.makeSlice t l c=>some (Instr.makeSlice t (ρ l) (ρ c))
 |.lookup t x ix ok=>some (Instr.lookup t (ρ x) (ρ ix) ok)
 |.typeAssert x a b ok=>some (Instr.typeAssert (ρ x) a b ok)
 |.range t x=>some (Instr.range t (ρ x))
 |.next it s=>some (Instr.next (ρ it) s o.type)
 | .call c=>match c.callee with
  |.builtin .append=>some (Builtin.append_ c.argTypes o.type (c.args.map ρ))
  |.builtin .copy=>some (Builtin.copy_ c.argTypes o.type (c.args.map ρ))
  |.builtin .cap=>some (Builtin.cap_ c.argTypes o.type (c.args.map ρ))
  |.builtin .clear=>some (Builtin.clear_ c.argTypes o.type (c.args.map ρ))
  |.builtin .delete=>some (Builtin.delete_ c.argTypes o.type (c.args.map ρ))
  |.builtin .len=>some (Builtin.len_ c.argTypes o.type (c.args.map ρ))
  |.builtin .min=>some (Builtin.min_ c.argTypes o.type (c.args.map ρ))
  |.builtin .max=>some (Builtin.max_ c.argTypes o.type (c.args.map ρ))
  |_=>none
 |_=>none
def Ax(P:Program)(o:Oper)(ρ:Operand->Value)(w:World)(K:bq):Prop:=
 match we o ρ with
 |some s=>exT P o.type λv=>∃w',s.run P w=.ok v w'/\K v w'
 |none=>exT P o.type λv=>∃w',(execOp ρ o).run P w=.ok (.value v) w'/\K v w'
def HL(P:Program)(t:TypeId):Option TypeId:=
 match P.underlying t with
 | some (.slice e)=>(match P.info? e with
  | some i=>(match i.zero,Nat.beq i.size 1 with
   |some .nilIface,true=>some e
   |_,_=>none)
  |none=>none)
 |_=>none
theorem FY {P:Program}{t e:TypeId}{v:Value}(h:HL P t=some e)(b:v.oneCell'=true)(w:World):(Instr.buildSlice t 1 #[(0,v)]).run P w=.ok (.slice (some ⟨w.heap.size,0,none⟩) 1 1) (w.alloc (.cells #[v] e)):=by
 unfold HL at h;split at h
 ·rename_i d hu;split at h
  ·rename_i i hi;split at h
   ·rename_i f hs;injection h with h
    subst h;have hs:=Nat.eq_of_beq_eq_true hs;have j:v.cells= #[v]:=by cases v<;>first|rfl|cases b
    have m:(Array.range (1*1)).map (Value.nilIface.cells[· % Value.nilIface.cells.size]!)= #[.nilIface]:=by kernel_rfl
    exact run_buildSlice (P:=P) w t d 1 #[(0,v)] #[v] i .nilIface hu hi f (by omega) (by omega) (by rw[hs,m];simp only[Instr.fill,j];simp)
   ·cases h
  ·cases h
 ·cases h
def opM(P:Program)(C:List Nat)(Y:Bool)(o:Oper)(ρ:Operand->Value)(w:World)(K:bq)(Qp:Option (List PanicEntry->World->Prop)):Prop:=
 rJ P none o ρ w (λv=>K v w)<|
 match o.op with
 | .store t x y=>match ρ x with
  | .pointer a=>match eV P t with
   | .row n=>(match hasType P t && Nat.beq n (bw P t),ρ y with
    |true,.agg cs=>ay a λp=>cs.size=n/\(∀v∈cs.toList,one? v True)/\aF w p cs.toList λw'=>K undef w'
    |_,_=>False)
   | _=>match Nat.beq (ρ y).cells.toList.length (bw P t) && hasType P t with
    |true=>ay a λp=>nI (ρ y).cells.toList (aF w p (ρ y).cells.toList λw'=>K undef w')
    |false=>False
  |_=>False
 |.alloc _=>runM P (execOp ρ o) w (uA K)
 |.box .. =>runM P (execOp ρ o) w (uA K)
 | .buildSlice t n parts=>(match HL P t,n,parts.toList with
  |some e,1,[(0,x)]=>(ρ x).oneCell'=true/\uA K (.slice (some ⟨w.heap.size,0,none⟩) 1 1) (w.alloc (.cells #[ρ x] e))
  |_,_,_=>runM P (execOp ρ o) w (uA K))
 | .call c=>match c.callee with
  |.builtin _=>Ax P o ρ w K
  |.value f=>KG P C Y (ρ f) (c.args.map ρ) w (xI P o.type K Qp)
  |.invoke x name=>M1 P C (ρ x) name (c.args.map ρ) w (xI P o.type K Qp)
 |.mapUpdate t m k x=>∃w',(Instr.mapUpdate t (ρ m) (ρ k) (ρ x):Sem Unit).run P w=.ok () w'/\K undef w'
 |.insert t m k x=>∃w',(Instr.mapUpdate t (ρ m) (ρ k) (ρ x):Sem Unit).run P w=.ok () w'/\K undef w'
 |.go _=>False
 |.defer _=>False
 |_=>Ax P o ρ w K
def Out(P:Program)(Y:Bool)(K:bq)(Qp:List PanicEntry->World->Prop):Result Next->Prop
 |.ok (.value v) w'=>K v w'
 |.ok .skip w'=>K undef w'
 |.ok (.enter f args) w'=>Calls P f args w' λe b=>(∃v,e=.returned v/\K v b)\/∃ch,e=.panicked ch/\Qp ch b
 |.ok (.round l f tmps assign body) w'=>Y=true/\RoundIn Fence.wide 0 P l f tmps assign body w' λe b=>(∃v,e=.returned v/\K v b)\/∃ch,e=.panicked ch/\Qp ch b
 |.halt (.panic v) w'=>Qp [{v,recovered:=false}] w'
 |_=>False
section
variable {P:Program}{o:Oper}{ρ:Operand->Value}{w:World}{F:Value->Prop}{els:Prop}
theorem fw {t:TypeId}(h:hasType P t=true):∃i,P.info? t=some i/\bw P t=i.size:=by
 unfold hasType at h;unfold bw;cases hi:P.info? t with
 |none=>simp[hi]at h
 |some i=>exact⟨i,rfl,rfl⟩
theorem FX {op:BinOp}{k:IntKind}{x y:Int}(hs:yO op=false)(h:HK op k x y F)(t:TypeId):∃v,F v/\∀w,(binOp op t (.int k x) (.int k y)).run P w=.ok v w:=by
 cases op<;>simp only[HK,yO]at h hs
 case quo=>obtain⟨b,h⟩:=Hx h;exact⟨_,h,λw=>by simp[binOp,Op.intDiv,b]⟩
 case rem=>obtain⟨b,h⟩:=Hx h;exact⟨_,h,λw=>by simp[binOp,Op.intDiv,b]⟩
 all_goals exact⟨_,h,λw=>by simp only[binOp,ne_eq,not_true_eq_false,if_false];rfl⟩
theorem Al {op:BinOp}{k k':IntKind}{x y:Int}(h:yy op k x y F)(t:TypeId):∃v,F v/\∀w,(binOp op t (.int k x) (.int k' y)).run P w=.ok v w:=by
 cases op<;>simp only[yy]at h
 case shl=>obtain⟨b,h⟩:=rE h;exact⟨_,h,λw=>by simp[binOp,Op.shift,b]⟩
 case shr=>obtain⟨b,h⟩:=rE h;exact⟨_,h,λw=>by simp[binOp,Op.shift,b]⟩
theorem Fj {op:BinOp}{x y:ByteArray}(h:GY op x y F)(t:TypeId):∃v,F v/\∀w,(binOp op t (.string x) (.string y)).run P w=.ok v w:=by
 cases op<;>simp only[GY]at h
 case add=>
  obtain⟨b,h⟩:=h;refine⟨_,h,λw=>?_⟩;have:¬(((x.size+y.size:Nat):Int)>i64.max):=by simp[IntKind.max,IntKind.bits,IntKind.signed];omega
  simp only[binOp,Op.stringOp,this,if_false];rfl
 all_goals exact⟨_,h,λw=>rfl⟩
theorem fY(op:BinOp)(t:TypeId)(x y:Operand)(a b:Value)(w:World)(h:a≠ .nilIface)(d:∀u,a≠ .agg u):
 (eqGuard op t x y a b).run P w=.ok () w:=by
 have key:∀f g:Sem Unit,(match a,b with
  |.nilIface,.nilIface=>f
  |.agg _,.agg _=>g
  |_,_=>pure ())=pure ():=by
  intro f g;split
  ·exact absurd rfl h
  ·exact absurd rfl (d _)
  ·rfl
 cases op<;>first|rfl|(unfold eqGuard;exact congrArg (λs:Sem Unit=>s.run P w) (key _ _))
theorem pU {op:BinOp}{b:Bool}(h:eqB op b F):∃v,F v/\((op=.eql/\v=.bool b)\/(op=.neq/\v=.bool (!b))):=by
 cases op<;>simp only[eqB]at h
 ·exact⟨_,h,.inl ⟨rfl,rfl⟩⟩
 ·exact⟨_,h,.inr ⟨rfl,rfl⟩⟩
theorem run_equalIn_bool'(d:Nat)(t:TypeId)(a b:Bool)(h:P.underlying t=some .bool)(w:World):(Op.equalIn (d+1) t (.bool a) (.bool b)).run P w=.ok (a==b) w:=by
 simp[Op.equalIn,run_underlying h]
theorem sL(t:TypeId)(a b:Bool)(h:P.underlying t=some .bool)(w:World):(Op.equal t (.bool a) (.bool b)).run P w=.ok (a==b) w:=run_equalIn_bool' 9999 t a b h w
theorem qy(d:Nat)(t e:TypeId)(a:Option Addr)(h:P.underlying t=some (.pointer e))(w:World):(Op.equalIn (d+1) t (.pointer a) (.pointer none)).run P w=.ok a.isNone w:=by
 cases a<;>simp[Op.equalIn,run_underlying h]
theorem ud(t e:TypeId)(a:Option Addr)(h:P.underlying t=some (.pointer e))(w:World):(Op.equal t (.pointer a) (.pointer none)).run P w=.ok a.isNone w:=qy 9999 t e a h w
theorem oc(d:Nat)(t e:TypeId)(a:Option Addr)(n c n' c':Nat)(h:P.underlying t=some (.slice e))(w:World):(Op.equalIn (d+1) t (.slice a n c) (.slice none n' c')).run P w=.ok a.isNone w:=by
 cases a<;>simp[Op.equalIn,run_underlying h]
theorem qx(t e:TypeId)(a:Option Addr)(n c n' c':Nat)(h:P.underlying t=some (.slice e))(w:World):(Op.equal t (.slice a n c) (.slice none n' c')).run P w=.ok a.isNone w:=oc 9999 t e a n c n' c' h w
theorem qz(d:Nat)(t k e:TypeId)(a:Option Nat)(h:P.underlying t=some (.map k e))(w:World):(Op.equalIn (d+1) t (.map a) (.map none)).run P w=.ok a.isNone w:=by
 cases a<;>simp[Op.equalIn,run_underlying h]
theorem uf(t k e:TypeId)(a:Option Nat)(h:P.underlying t=some (.map k e))(w:World):(Op.equal t (.map a) (.map none)).run P w=.ok a.isNone w:=qz 9999 t k e a h w
theorem ox:∀ {a b c d:List Value},a.length=b.length->eqL (a++c) (b++d)=(eqL a b && eqL c d)
 | [],[],_,_,_=>by simp[eqL]
 | x::a,y::b,c,d,h=>by
  have:=ox (a:=a) (b:=b) (c:=c) (d:=d) (by simpa using h);simp[eqL,this,Bool.and_assoc]
 | [],_::_,_,_,h=>by simp at h
 |_::_,[],_,_,h=>by simp at h
theorem cq:∀ {l:List Sh}{vs:List Value},eg l vs=true->vs.length=l.length
 | [],[],_=>rfl
 | .int k::l,.int k' x::vs,h=>by
  unfold eg at h;split at h
  ·simp[cq h]
  ·cases h
 |.bool::l,.bool _::vs,h=>by simp[cq (show eg l vs=true from h)]
 |.str::l,.string _::vs,h=>by simp[cq (show eg l vs=true from h)]
 | [],_::_,h=>by simp[eg]at h
 |s::l,[],h=>by cases s<;>simp[eg]at h
 |.int k::l,.bool _::vs,h|.int k::l,.float _ _::vs,h|.int k::l,.complex _ _ _::vs,h|.int k::l,.string _::vs,h|.int k::l,.pointer _::vs,h|.int k::l,.slice _ _ _::vs,h|.int k::l,.map _::vs,h|.int k::l,.chan _::vs,h|.int k::l,.func _ _ _::vs,h|.int k::l,.nilFunc::vs,h|.int k::l,.iface _ _::vs,h|.int k::l,.nilIface::vs,h|.int k::l,.agg _::vs,h|.int k::l,.tuple _::vs,h=>by simp[eg]at h
 |.bool::l,.int _ _::vs,h|.bool::l,.float _ _::vs,h|.bool::l,.complex _ _ _::vs,h|.bool::l,.string _::vs,h|.bool::l,.pointer _::vs,h|.bool::l,.slice _ _ _::vs,h|.bool::l,.map _::vs,h|.bool::l,.chan _::vs,h|.bool::l,.func _ _ _::vs,h|.bool::l,.nilFunc::vs,h|.bool::l,.iface _ _::vs,h|.bool::l,.nilIface::vs,h|.bool::l,.agg _::vs,h|.bool::l,.tuple _::vs,h=>by simp[eg]at h
 |.str::l,.bool _::vs,h|.str::l,.float _ _::vs,h|.str::l,.complex _ _ _::vs,h|.str::l,.int _ _::vs,h|.str::l,.pointer _::vs,h|.str::l,.slice _ _ _::vs,h|.str::l,.map _::vs,h|.str::l,.chan _::vs,h|.str::l,.func _ _ _::vs,h|.str::l,.nilFunc::vs,h|.str::l,.iface _ _::vs,h|.str::l,.nilIface::vs,h|.str::l,.agg _::vs,h|.str::l,.tuple _::vs,h=>by simp[eg]at h
 |.ptr::l,_::vs,h|.slice::l,_::vs,h|.map::l,_::vs,h|.val::l,_::vs,h=>by simp[eg]at h
theorem iX:∀ {l l':List Sh}{vs:List Value},eg (l++l') vs=true->eg l (vs.take l.length)=true/\eg l' (vs.drop l.length)=true
 | [],l',vs,h=>by simpa[eg]using h
 |s::l,l',[],h=>by cases s<;>simp[eg]at h
 | s::l,l',v::vs,h=>by
  have key:eg (l++l') vs=true/\(∀r,eg (s::r) (v::vs.take l.length)=eg r (vs.take l.length)):=by
   cases s<;>cases v<;>simp only[List.cons_append,eg,Bool.false_eq_true]at h
   all_goals first
    |exact⟨h,λr=>by simp[eg]⟩
    | (split at h
       ·rename_i b;exact⟨h,λr=>by simp[eg,b]⟩
       ·cases h)
  obtain⟨d,f⟩:=iX key.1;refine⟨?_,by simpa using f⟩;have:=key.2 l;simp only[List.length_cons,List.take_succ_cons];rw[this];exact d
def asV(P:Program)(t:TypeId)(l:List Value):Value:=
 match jf P t with
 |true=>.agg ⟨l⟩
 |false=>l.headD undef
theorem yS {m:Nat}{t:TypeId}{l:List Sh}(h:jj P (m+1) t=some l)(b:jf P t=false):(isAgg t).run P w=.ok false w/\∃s,l= [s]:=by
 unfold jj at h;unfold jf at b;cases hu:P.underlying t with
 |none=>simp[hu]at h
 |some d=>cases d<;>simp_all[isAgg,run_underlying hu]<;>exact⟨_,h.symm⟩
theorem iN {m:Nat}{t:TypeId}{l:List Sh}{i:TypeInfo}(h:jj P (m+1) t=some l)(hi:P.info? t=some i)(hs:i.size=l.length)(xs:Array Value)(off:Nat)
 (j:eg l ((xs.toList.drop off).take l.length)=true):(part t xs off).run P w=.ok (asV P t ((xs.toList.drop off).take l.length)) w:=by
 have hlen:=cq j;cases b:jf P t with
 | true=>
  have f:(isAgg t).run P w=.ok true w:=by
   unfold jf at b;cases hu:P.underlying t with
   |none=>simp[hu]at b
   |some d=>cases d<;>simp_all[isAgg,run_underlying hu]
  have hex:xs.extract off (off+l.length)=⟨(xs.toList.drop off).take l.length⟩:=by
   apply Array.ext';rw[Array.toList_extract];simp[List.extract]
  simp[part,f,sizeOf,typeInfo,hi,hs,asV,b,hex]
 | false=>
  obtain⟨f,s,rfl⟩:=yS (w:=w) h b;have p:∃v,xs[off]? =some v/\(xs.toList.drop off).take [s].length= [v]:=by
   cases hd:xs.toList.drop off with
   |nil=>rw[hd]at hlen;simp at hlen
   | cons v r=>
    refine⟨v,?_,by simp⟩;have:=congrArg (·[0]?) hd;simp at this;exact this
  obtain⟨v,q,u⟩:=p;rw[u];simp[part,f,asV,b,q]
theorem j3 {m d:Nat}(D:∀(t:TypeId)(l:List Sh),jj P m t=some l->∀(w:World)(xs b:List Value),eg l xs=true->eg l b=true->(Op.equalIn d t (asV P t xs) (asV P t b)).run P w=.ok (eqL xs b) w)
 (w:World)(xs b:Array Value):∀(fs:List Field)(off:Nat)(l:List Sh),uN P (jj P m) off fs=some l->eg l (xs.toList.drop off)=true->eg l (b.toList.drop off)=true->
  (Op.eqFields d xs b fs).run P w=.ok (eqL (xs.toList.drop off) (b.toList.drop off)) w
 | [],off,l,h,u,x=>by
  simp only[uN,Option.some.injEq]at h;subst h;have p:=cq u;have q:=cq x;have p:=List.eq_nil_of_length_eq_zero p;have q:=List.eq_nil_of_length_eq_zero q;rw[p,q];rfl
 | f::fs,off,l,h,u,x=>by
  simp only[uN]at h;split at h
  ·rename_i j i I J s hi;split at h
   ·rename_i l2 K L;simp only[Option.some.injEq]at h;subst h;have M:f.offset=off:=Nat.eq_of_beq_eq_true I;have E:i.size=j.length:=Nat.eq_of_beq_eq_true K;obtain⟨y,G⟩:=iX u;obtain⟨z,H⟩:=iX x;rw[List.drop_drop]at G H;have hm:∃m',m=m'+1:=by
     cases m with
     |zero=>simp[jj]at s
     |succ m'=>exact⟨m',rfl⟩
    obtain⟨m',rfl⟩:=hm;have O:=iN (w:=w) s hi E xs off y;have R:=iN (w:=w) s hi E b off z;have V:=D f.type j s w _ _ y z;have W:=j3 D w xs b fs (off+j.length) l2 L G H;have hn:f.name≠ "_" :=by simpa using J
    have OW:eqL (xs.toList.drop off) (b.toList.drop off)=(eqL ((xs.toList.drop off).take j.length) ((b.toList.drop off).take j.length) && eqL (xs.toList.drop (off+j.length)) (b.toList.drop (off+j.length))):=by
     have p:xs.toList.drop off=(xs.toList.drop off).take j.length++xs.toList.drop (off+j.length):=by rw[<-List.drop_drop,List.take_append_drop]
     have q:b.toList.drop off=(b.toList.drop off).take j.length++b.toList.drop (off+j.length):=by rw[<-List.drop_drop,List.take_append_drop]
     have:=ox (c:=xs.toList.drop (off+j.length)) (d:=b.toList.drop (off+j.length)) ((cq y).trans (cq z).symm);rw[<-p,<-q]at this;exact this
    rw[OW];simp only[Op.eqFields,hn,ne_eq,not_false_eq_true,if_true,Sem.run_bind,M,O,R,V,Result.andThen_ok];cases eqL ((xs.toList.drop off).take j.length) ((b.toList.drop off).take j.length)
    ·simp
    ·simpa using W
   ·cases h
  ·cases h
theorem kE {m d:Nat}{e:TypeId}{b:List Sh}{i:TypeInfo}(y:∀(t:TypeId)(l:List Sh),jj P m t=some l->∀(w:World)(xs f:List Value),eg l xs=true->eg l f=true->(Op.equalIn d t (asV P t xs) (asV P t f)).run P w=.ok (eqL xs f) w)
 (w:World)(xs f:Array Value)(he:jj P m e=some b)(hi:P.info? e=some i)(hs:i.size=b.length):∀(n k:Nat),eg (Az b n) (xs.toList.drop (k*b.length))=true->eg (Az b n) (f.toList.drop (k*b.length))=true->
  (Op.eqItems d e (P.cellsOf e) xs f (List.range' k n)).run P w=.ok (eqL (xs.toList.drop (k*b.length)) (f.toList.drop (k*b.length))) w
 | 0,k,h,j=>by
  have p:=List.eq_nil_of_length_eq_zero (cq h);have q:=List.eq_nil_of_length_eq_zero (cq j);rw[p,q];rfl
 | n+1,k,h,j=>by
  have z:P.cellsOf e=b.length:=by simp[Program.cellsOf,hi,hs]
  obtain⟨s,D⟩:=iX (l:=b) (l':=Az b n) h;obtain⟨u,E⟩:=iX (l:=b) (l':=Az b n) j;have x:k*b.length+b.length=(k+1)*b.length:=by rw[Nat.add_mul,Nat.one_mul]
  rw[List.drop_drop,x]at D E;have hm:∃m',m=m'+1:=by
   cases m with
   |zero=>simp[jj]at he
   |succ m'=>exact⟨m',rfl⟩
  obtain⟨m',rfl⟩:=hm;have H:=iN (w:=w) he hi hs xs _ s;have I:=iN (w:=w) he hi hs f _ u;have J:=y e b he w _ _ s u;have G:=kE y w xs f he hi hs n (k+1) D E;rw[z]at G;have K:eqL (xs.toList.drop (k*b.length)) (f.toList.drop (k*b.length))=(eqL ((xs.toList.drop (k*b.length)).take b.length) ((f.toList.drop (k*b.length)).take b.length) && eqL (xs.toList.drop ((k+1)*b.length)) (f.toList.drop ((k+1)*b.length))):=by
   have p:xs.toList.drop (k*b.length)=(xs.toList.drop (k*b.length)).take b.length++xs.toList.drop ((k+1)*b.length):=by rw[<-x,<-List.drop_drop,List.take_append_drop]
   have q:f.toList.drop (k*b.length)=(f.toList.drop (k*b.length)).take b.length++f.toList.drop ((k+1)*b.length):=by rw[<-x,<-List.drop_drop,List.take_append_drop]
   have:=ox (c:=xs.toList.drop ((k+1)*b.length)) (d:=f.toList.drop ((k+1)*b.length)) ((cq s).trans (cq u).symm);rw[<-p,<-q]at this;exact this
  rw[K];simp only[List.range'_succ,Op.eqItems,Sem.run_bind,z,H,I,J,Result.andThen_ok];cases eqL ((xs.toList.drop (k*b.length)).take b.length) ((f.toList.drop (k*b.length)).take b.length)
  ·simp
  ·simpa using G
theorem jF(d:Nat):∀(m:Nat)(t:TypeId)(l:List Sh),jj P m t=some l->∀(w:World)(xs f:List Value),eg l xs=true->eg l f=true->(Op.equalIn (d+m) t (asV P t xs) (asV P t f)).run P w=.ok (eqL xs f) w
 |0,t,l,h,_,_,_,_,_=>by simp[jj]at h
 | m+1,t,l,h,w,xs,f,j,p=>by
  have K:=h;unfold jj at h;cases hu:P.underlying t with
  |none=>simp[hu]at h
  | some z=>
   simp only[hu]at h;cases z<;>simp only[reduceCtorEq]at h
   case bool=>
    simp only[Option.some.injEq]at h;subst h;obtain⟨v,rfl⟩:=List.length_eq_one_iff.1 (cq j);obtain⟨u,rfl⟩:=List.length_eq_one_iff.1 (cq p);cases v<;>first|(simp[eg]at j;done)|skip
    cases u<;>first|(simp[eg]at p;done)|skip
    simp only[asV,jf,hu,eqL,lT,Bool.and_true,List.headD_cons];exact run_equalIn_bool' (d+m) t _ _ hu w
   case int k=>
    simp only[Option.some.injEq]at h;subst h;obtain⟨v,rfl⟩:=List.length_eq_one_iff.1 (cq j);obtain⟨u,rfl⟩:=List.length_eq_one_iff.1 (cq p);cases v<;>first|(simp[eg]at j;done)|skip
    cases u<;>first|(simp[eg]at p;done)|skip
    rename_i s a x b;have D:kEq k s=true:=by
     cases h:kEq k s
     ·simp[eg,h]at j
     ·rfl
    have E:kEq k x=true:=by
     cases h:kEq k x
     ·simp[eg,h]at p
     ·rfl
    obtain rfl:=pS D;obtain rfl:=pS E;simp only[asV,jf,hu,eqL,lT,Bool.and_true,List.headD_cons];exact run_equalIn_int w (d+m) t _ _ a b hu
   case string=>
    simp only[Option.some.injEq]at h;subst h;obtain⟨v,rfl⟩:=List.length_eq_one_iff.1 (cq j);obtain⟨u,rfl⟩:=List.length_eq_one_iff.1 (cq p);cases v<;>first|(simp[eg]at j;done)|skip
    cases u<;>first|(simp[eg]at p;done)|skip
    simp only[asV,jf,hu,eqL,lT,Bool.and_true,List.headD_cons];exact run_equalIn_string w (d+m) t _ _ hu
   case struct fs=>
    split at h
    ·cases h
    ·rename_i G;have y:P.fieldsOf t=fs:=by simp[Program.fieldsOf,hu]
     have:=j3 (d:=d+m) (λt l q w xs f=>jF d m t l q w xs f) w ⟨xs⟩ ⟨f⟩ fs.toList 0 l h (by simpa using j) (by simpa using p);simp only[asV,jf,hu];rw[show d+(m+1)=d+m+1 from rfl,run_equalIn_struct w (d+m) t ⟨xs⟩ ⟨f⟩ (by rw[y];exact hu) G,y];simpa using this
   case array n e=>
    split at h
    ·rename_i H i I hi;split at h
     ·rename_i hs;simp only[Option.some.injEq]at h;subst h;have J:i.size=H.length:=Nat.eq_of_beq_eq_true hs;have:=kE (d:=d+m) (λt l q w xs f=>jF d m t l q w xs f) w ⟨xs⟩ ⟨f⟩ I hi J n 0 (by simpa using j) (by simpa using p);simp only[asV,jf,hu];rw[show d+(m+1)=d+m+1 from rfl,run_equalIn_array w (d+m) ⟨xs⟩ ⟨f⟩ hu hi,List.range_eq_range'];simpa using this
     ·cases h
    ·cases h
theorem F0 {m:Nat}{t:TypeId}{l:List Sh}{op:BinOp}{xs b:Array Value}{X Y:Operand}(d:P.eqGuardType P.depth t=false)(h:jj P m t=some l)(hm:m<=10000)(f:jf P t=true)(i:eg l xs.toList=true)(j:eg l b.toList=true)(p:op=.eql\/op=.neq)(w:World):
 (do eqGuard op t X Y (.agg xs) (.agg b);binOp op t (.agg xs) (.agg b):Sem Value).run P w=.ok (.bool (if op=.eql then bW xs b else !(bW xs b))) w:=by
 have he:=jF (10000 - m) m t l h w xs.toList b.toList i j;rw[show 10000 - m+m=10000 by omega]at he;simp only[asV,f]at he;rw[Sem.run_bind,run_eqGuard_agg w op t X Y xs b d];rcases p with rfl|rfl
 ·rw[Result.andThen_ok,run_eql_struct w t xs b,he];rfl
 ·rw[Result.andThen_ok,run_neq_struct w t xs b,he];rfl
theorem H9 {op:BinOp}{t:TypeId}{X Y:Operand}{ρ:Operand->Value}(q:∀v,ρ (.const v)=v)(h:LG P op t Y (ρ X) (ρ Y) F els):
 (∃v,F v/\∀w,(do eqGuard op t X Y (ρ X) (ρ Y);binOp op t (ρ X) (ρ Y):Sem Value).run P w=.ok v w)\/els:=by
 unfold LG at h;split at h
 ·rename_i k a k' b f j;rw[f,j];split at h
  ·obtain⟨v,d,p⟩:=Al h t;exact .inl ⟨v,d,λw=>by rw[Sem.run_bind,fY _ _ _ _ _ _ _ (by simp) (by simp)];exact p w⟩
  ·rename_i hs;split at h
   ·rename_i s;obtain rfl:=pS s;obtain⟨v,d,p⟩:=FX hs h t;exact .inl ⟨v,d,λw=>by rw[Sem.run_bind,fY _ _ _ _ _ _ _ (by simp) (by simp)];exact p w⟩
   ·exact h.elim
 ·rename_i a b f j;rw[f,j];obtain⟨v,d,p⟩:=Fj h t;exact .inl ⟨v,d,λw=>by rw[Sem.run_bind,fY _ _ _ _ _ _ _ (by simp) (by simp)];exact p w⟩
 ·rename_i a b f j;rw[f,j];split at h
  ·rename_i m;obtain⟨v,d,i⟩:=pU h;refine .inl ⟨v,d,λw=>?_⟩;rw[Sem.run_bind,fY _ _ _ _ _ _ _ (by simp) (by simp)];rcases i with⟨rfl,rfl⟩|⟨rfl,rfl⟩<;>simp[binOp,sL t a b m]
  ·exact .inr h
 ·rename_i a f;split at h
  ·rename_i m;obtain⟨v,d,i⟩:=pU h;refine .inl ⟨v,d,λw=>?_⟩;rw[f,q,Sem.run_bind,fY _ _ _ _ _ _ _ (by simp) (by simp)];rcases i with⟨rfl,rfl⟩|⟨rfl,rfl⟩<;>simp[binOp,ud t _ a m]
  ·exact .inr h
 ·rename_i a n c f;split at h
  ·rename_i m;obtain⟨v,d,i⟩:=pU h;refine .inl ⟨v,d,λw=>?_⟩;rw[f,q,Sem.run_bind,fY _ _ _ _ _ _ _ (by simp) (by simp)];rcases i with⟨rfl,rfl⟩|⟨rfl,rfl⟩<;>simp[binOp,qx t _ a _ _ _ _ m]
  ·exact .inr h
 ·rename_i a f;split at h
  ·rename_i m;obtain⟨v,d,i⟩:=pU h;refine .inl ⟨v,d,λw=>?_⟩;rw[f,q,Sem.run_bind,fY _ _ _ _ _ _ _ (by simp) (by simp)];rcases i with⟨rfl,rfl⟩|⟨rfl,rfl⟩<;>simp[binOp,uf t _ _ a m]
  ·exact .inr h
 ·rename_i xs z f j;rw[f,j];split at h
  ·rename_i l u x y;obtain⟨f1,h⟩:=Bi h;obtain⟨f2,h⟩:=Bi h;obtain⟨v,d,i⟩:=pU h;refine .inl ⟨v,d,λw=>?_⟩;rw[F0 u y (by omega) x f1 f2 (i.imp And.left And.left) w];rcases i with⟨rfl,rfl⟩|⟨rfl,rfl⟩<;>rfl
  ·exact .inr h
 ·exact .inr h
theorem AI {s:Sem Next}(h:so F els (gM P s)):(∃v,F v/\∀w,s.run P w=.ok (.value v) w)\/els:=by
 unfold so at h;split at h
 ·rename_i v b;exact .inl ⟨v,h,λw=>AH b w⟩
 ·exact .inr h
theorem I7 {op:UnOp}{x:Value}(h:unM op x F):∃v,F v/\∀w,(Op.unary op x).run P w=.ok v w:=by
 unfold unM at h;split at h
 ·exact⟨_,h,λw=>rfl⟩
 ·exact⟨_,h,λw=>rfl⟩
 ·exact⟨_,h,λw=>rfl⟩
 ·exact h.elim
theorem kK {t:TypeId}{x i:Value}(h:nK P t x i F):∃v,F v/\∀w,(Instr.indexAt t x i).run P w=.ok v w:=by
 unfold nK at h;split at h
 ·rename_i e a n c k j b;split at h
  ·rename_i he;obtain⟨f,hi,hs⟩:=fw he;obtain⟨d,h⟩:=h;obtain⟨p,rfl,h⟩:=dU h;refine⟨_,h,λw=>?_⟩;simp[Instr.indexAt,asIntOf,run_underlying b,d,sizeOf,typeInfo,hi,hs]
  ·exact h.elim
 ·rename_i n e a k j b;split at h
  ·rename_i he;obtain⟨f,hi,hs⟩:=fw he;obtain⟨d,h⟩:=h;obtain⟨p,rfl,h⟩:=dU h;refine⟨_,h,λw=>?_⟩;simp[Instr.indexAt,asIntOf,run_underlying b,d,sizeOf,typeInfo,hi,hs,Instr.sureAddr]
  ·exact h.elim
 ·exact h.elim
theorem uP {s:TypeId}{x:Value}{f:Nat}(h:lz P s x f F):∃v,F v/\∀w,(Instr.fieldAt s x f).run P w=.ok v w:=by
 unfold lz at h;split at h
 ·rename_i fields hs;split at h
  ·rename_i fd d;split at h
   ·rename_i i hi;split at h
    ·rename_i b;split at h
     ·obtain⟨p,rfl,h⟩:=dU h;have j:¬i.size=0:=by intro e;rw[e]at b;simp at b
      refine⟨_,h,λw=>?_⟩;simp[Instr.fieldAt,run_underlying hs,d,Instr.sureAddr,fieldPlace,sizeOf,typeInfo,hi,j]
     ·exact h.elim
    ·exact h.elim
   ·exact h.elim
  ·exact h.elim
 ·exact h.elim
theorem F6 {src dst:TypeId}{x:Value}(h:H3 P src dst x F els):(∃v,F v/\∀w,(convert src dst x).run P w=.ok v w)\/els:=by
 unfold H3 at h;split at h
 ·rename_i a k n hs hd;exact .inl ⟨_,h,λw=>by unfold convert;simp[run_underlying hs,run_underlying hd,Conv.intToInt]⟩
 ·rename_i a s hs hd;exact .inl ⟨_,h,λw=>by unfold convert;simp[run_underlying hs,run_underlying hd]⟩
 ·exact .inr h
theorem Dh {t:TypeId}{x i:Value}(h:Di P t x i F):∃v,F v/\∀w,(Instr.index t x i).run P w=.ok v w:=by
 unfold Di at h;split at h
 ·rename_i s k j d;obtain⟨b,f,h⟩:=dU h;exact⟨_,h,λw=>by simp[Instr.index,asIntOf,run_underlying d,f]⟩
 ·rename_i n e cs k j d;split at h
  ·rename_i m he;obtain⟨u,hi,hs⟩:=fw he;obtain⟨f,h⟩:=h;obtain⟨v,p,h⟩:=Sh2.lB h;refine⟨_,h,λw=>?_⟩;have q:=xV m w;simp[Instr.index,asIntOf,run_underlying d,f,part,q,sizeOf,typeInfo,hi,<-hs,p]
  ·exact h.elim
 ·exact h.elim
theorem run_sliceBound {k:IntKind}{i:Int}{y:Nat}{code:BoundsCode}(h:0<=i/\i<=y)(w:World):(Instr.sliceBound (.int k i) y code).run P w=.ok i.toNat w:=by
 unfold Instr.sliceBound;show((if 0<=i/\i<=(y:Int)then pure i.toNat else boundsPanic k i y code:Sem Nat)).run P w=_;rw[if_pos h];rfl
theorem qO {lo:Option Value}{H:Nat}{G:Nat->Prop}{code:BoundsCode}(h:sk lo H G):∃l,G l/\
 ∀w,(match lo with|some v=>Instr.sliceBound v H code|none=>pure 0:Sem Nat).run P w=.ok l w:=by
 unfold sk at h;split at h
 ·exact⟨_,h,λw=>rfl⟩
 ·obtain⟨b,h⟩:=h;exact⟨_,h,λw=>run_sliceBound b w⟩
 ·exact h.elim
theorem oD {isSlice:Bool}{len cap:Nat}{lo hi mx:Option Value}{G:Nat->Nat->Nat->Prop}(b:mx=none\/hi≠none)
 (h:oE mx cap λm=>sm hi len m λh=>sk lo h λl=>G l h m):∃l h m,G l h m/\∀w,(Instr.sliceBounds isSlice len cap lo hi mx).run P w=.ok (l,h,m) w:=by
 unfold Instr.sliceBounds;cases mx with
 | none=>
  simp only[oE]at h;cases hi with
  | none=>
   simp only[sm]at h;obtain⟨l,d,f⟩:=qO (P:=P) (code:=.sliceB) h;refine⟨l,_,_,d,λw=>?_⟩;have:=f w;cases lo with
   |none=>simp at this ⊢;exact this
   |some v=>simp at this ⊢;simp[this]
  | some i=>
   simp only[sm]at h;split at h
   ·cases ‹some i=none›
   ·rename_i k H heq;obtain rfl:i=.int k H:=by injection heq
    obtain⟨p,h⟩:=h;obtain⟨l,d,f⟩:=qO (P:=P) (code:=.sliceB) h;refine⟨l,_,_,d,λw=>?_⟩;have:=f w;have j:=λc=>run_sliceBound (P:=P) (k:=k) (code:=c) p w;cases lo with
    |none=>simp[j];simpa using this
    |some v=>simp at this ⊢;simp[j,this]
   ·exact h.elim
 | some q=>
  rcases b with b|b
  ·cases b
  cases hi with
  |none=>exact absurd rfl b
  |some i=>
  simp only[oE]at h;split at h
  ·cases ‹some q=none›
  ·rename_i k M heq;obtain rfl:q=.int k M:=by injection heq
   obtain⟨hm,h⟩:=h;simp only[sm]at h;split at h
   ·cases ‹some i=none›
   ·rename_i k' H heq;obtain rfl:i=.int k' H:=by injection heq
    obtain⟨p,h⟩:=h;obtain⟨l,d,f⟩:=qO (P:=P) (code:=.slice3C) h;refine⟨l,_,_,d,λw=>?_⟩;have:=f w;have s:=λc=>run_sliceBound (P:=P) (k:=k) (code:=c) hm w;have j:=λc=>run_sliceBound (P:=P) (k:=k') (code:=c) p w;cases lo with
    |none=>simp[s,j];simpa using this
    |some v=>simp[s,j];simp at this;simp[this]
   ·exact h.elim
  ·exact h.elim
theorem MG {mx hi:Option Value}(h:(mx.isNone || hi.isSome)=true):mx=none\/hi≠none:=by
 cases mx<;>cases hi<;>simp_all
theorem n8 {t:TypeId}{x:Value}{lo hi mx:Option Value}(h:n9 P t x lo hi mx F els):(∃v,F v/\∀w,(Instr.sliceAt t x lo hi mx).run P w=.ok v w)\/els:=by
 unfold n9 at h;split at h
 ·rename_i e a len cap b;split at h
  ·rename_i he;simp only[Bool.and_eq_true]at he;obtain⟨q,i,hs⟩:=fw he.1;obtain⟨l,j,m,d,f⟩:=oD (P:=P) (isSlice:=true) (MG he.2) h;refine .inl ⟨_,d _ rfl _ rfl _ rfl,λw=>?_⟩;simp[Instr.sliceAt,Instr.slice,run_underlying b,f,sizeOf,typeInfo,i,hs]
  ·exact h.elim
 ·rename_i s b;split at h
  ·obtain⟨l,j,m,d,f⟩:=oD (P:=P) (isSlice:=false) (len:=s.size) (cap:=s.size) (mx:=none) (G:=λl h _=>F (.string (s.extract l h))) (.inl rfl) (by simpa[oE]using h);refine .inl ⟨_,d,λw=>?_⟩;simp[Instr.sliceAt,Instr.slice,run_underlying b,f]
  ·exact h.elim
 ·rename_i n e a b;split at h
  ·rename_i he;simp only[Bool.and_eq_true]at he;obtain⟨q,i,hs⟩:=fw he.1;obtain⟨p,rfl,u⟩:=dU h;obtain⟨l,j,m,d,f⟩:=oD (P:=P) (isSlice:=false) (MG he.2) u;refine .inl ⟨_,d _ rfl _ rfl _ rfl,λw=>?_⟩;simp[Instr.sliceAt,Instr.sureAddr,run_underlying b,f,sizeOf,typeInfo,i,hs]
  ·exact h.elim
 ·exact .inr h
theorem lq {p:Addr}:∀(vs:List Value)(i:Nat)(acc:Array Value),(∀j u,vs[j]? =some u->w.cell? (p.add (i+j))=some u)->
 (loadCellsFrom p i vs.length acc).run P w=.ok (acc++⟨vs⟩) w
 | [],i,acc,_=>by simp[loadCellsFrom]
 | v::r,i,acc,h=>by
  have b:=h 0 v rfl;simp only[Nat.add_zero]at b;have d:=lq r (i+1) (acc.push v) (λj u hu=>by
   have:=h (j+1) u (by simpa using hu)
   rwa[Nat.add_right_comm,Nat.add_assoc])
  simp only[List.length_cons,loadCellsFrom,load];simp only[Sem.run_bind];rw[show(Sem.load .plain (p.add i) Sem.pure).run P w=.ok v w by simp[Sem.run,b]];simp only[Result.andThen_ok,d];simp
theorem rZ {p:Addr}:∀(vs:List Value)(i:Nat),aL w p i vs->∀j u,vs[j]? =some u->w.cell? (p.add (i+j))=some u
 | [],_,_,j,u,hu=>by simp at hu
 | v::r,i,h,j,u,hu=>by
  obtain⟨b,d⟩:=yW h;cases j with
  |zero=>simp at hu;subst hu;simpa using b
  | succ j=>
   have:=rZ r (i+1) d j u (by simpa using hu)
   rwa[show i+(j+1)=i+1+j by omega]
theorem qb {w':World}{p:Addr}(jK:∀(i:Nat)(u:Value),w.cell? (p.add i)=some u->w'.cell? (p.add i)=some u):∀(vs:List Value)(i:Nat),aL w p i vs->aL w' p i vs
 | [],_,_=>trivial
 | [_],_,h=>jK _ _ h
 |_::u::r,i,h=>⟨jK _ _ h.1,qb jK (u::r) (i+1) h.2⟩
theorem Hj {B:Option (Nat->Prop)}{p:Addr}{F:Prop}(h:Mu B p F):(∀b,B=some b->b p.block)/\F:=by
 cases B with
 |none=>exact⟨by simp,h⟩
 |some b=>exact⟨λf d=>by cases d;exact h.1,h.2⟩
theorem block_add(p:Addr)(i:Nat):(p.add i).block=p.block:=by unfold Addr.add;split<;>rfl
theorem yI {B:Option (Nat->Prop)}{w':World}{p:Addr}{s:Sh2}{v:Value}(d:∀b,B=some b->b p.block)(f:Kept (held B w) w w')(h:jq w p s v):jq w' p s v:=by
 have jK:∀(q:Addr)(u:Value),q.block=p.block->w.cell? q=some u->w'.cell? q=some u:=λq u hq hu=>by
  refine(f.cell (p:=q) ?_).trans hu;cases B with
  |none=>exact World.block_lt_of_cell? w q hu
  |some b=>rw[hq];exact d b rfl
 cases s with
 |one s=>exact jK _ _ rfl h
 | agg l=>
  cases v<;>first|exact h.elim|skip
  rename_i cs;simp only[jq]at h ⊢;split at h
  ·exact qb (λi u hu=>jK _ u (block_add p i) hu) _ _ h
  ·exact h.elim
 | row n=>
  cases v<;>first|exact h.elim|skip
  exact⟨h.1,λi u hu=>jK _ _ (block_add p i) (h.2 i u hu)⟩
theorem mi {p:Addr}{t:TypeId}{s:Sh2}{v:Value}(m:u5 P t (tV s)=true)(hi:hasType P t=true)(q:Nat.beq (jd s) (bw P t)=true)(h:jq w p s v):
 (Instr.loadAt t (.pointer (some p))).run P w=.ok v w:=by
 obtain⟨x,y,hs⟩:=fw hi;have z:x.size=jd s:=by rw[<-hs];exact(Nat.eq_of_beq_eq_true q).symm
 have d:=xV m w;have i:(sizeOf t).run P w=.ok (jd s) w:=by simp[sizeOf,typeInfo,y,z]
 cases s with
 |one s=>simp[Instr.loadAt,Instr.sureAddr,loadVar,d,tV,load,Sem.run,show w.cell? p=some v from h]
 | agg l=>
  cases v<;>first|exact h.elim|skip
  rename_i cs;simp only[jq]at h;split at h
  ·rename_i f;have D:cs.toList.length=l.length:=Nat.eq_of_beq_eq_true f;have b:=lq (P:=P) (p:=p) cs.toList 0 #[] (rZ _ _ h);rw[D]at b;simp[Instr.loadAt,Instr.sureAddr,loadVar,d,tV,i,jd,loadCells,b]
  ·exact h.elim
 | row n=>
  cases v<;>first|exact h.elim|skip
  rename_i cs;have b:=lq (P:=P) (p:=p) cs.toList 0 #[] (λj u hu=>by simpa using h.2 j u (by simpa using hu));have f:cs.toList.length=n:=by simpa using h.1
  rw[f]at b;simp[Instr.loadAt,Instr.sureAddr,loadVar,d,tV,i,jd,loadCells,b]
theorem pE {v:Value}{p:Prop}(h:one? v p):p/\(∀u,v≠ .agg u)/\(∀u,v≠ .tuple u):=by
 cases v<;>simp_all[one?]
theorem mh {p:Addr}{K:World->Prop}:∀(vs:List Value)(i:Nat)(w:World),ph p i vs w K->∃w',(storeCells p vs i).run P w=.ok () w'/\K w'
 | [],i,w,h=>⟨w,rfl,h⟩
 | v::r,i,w,h=>by
  obtain⟨⟨⟨u,hu⟩,b,h⟩,d,f⟩:=pE h;obtain⟨w',j,m⟩:=mh r (i+1) _ h;refine⟨w',?_,m⟩;have hs:(store (p.add i) v).run P w=.ok () (w.setCell (p.add i) v):=by
   unfold store;cases v<;>first|exact absurd rfl (d _)|exact absurd rfl (f _)|simp[Sem.run,hu,b]
  simp[storeCells,hs,j]
theorem uK(w:World)(q p:Addr)(v:Value):(w.setCell q v).frozen? p=w.frozen? p:=by
 unfold World.frozen? World.setCell;simp only[Array.getElem?_modify];by_cases h:q.block=p.block
 ·simp only[h,if_true];cases hw:w.heap[p.block]? with
  |none=>rfl
  |some o=>cases o<;>rfl
 ·simp only[h,if_false]
theorem qc {w:World}{p:Addr}{u:Value}(q:Addr)(v:Value)(h:w.cell? p=some u):∃d,(w.setCell q v).cell? p=some d:=by
 unfold World.cell? World.setCell at *;simp only[Array.getElem?_modify];by_cases b:q.block=p.block
 ·simp only[b,if_true];cases hw:w.heap[p.block]? with
  |none=>rw[hw]at h;cases h
  | some o=>
   rw[hw]at h;cases o<;>simp only[reduceCtorEq]at h
   rename_i c e f;simp only[Option.map_some];cases hs:p.spot.isSome
   ·simp only[hs,Bool.false_eq_true,if_false]at h ⊢;have i:=(Array.getElem?_eq_some_iff.1 h).1;cases q.spot.isSome
    ·simp only[Bool.false_eq_true,if_false];exact⟨_,Array.getElem?_eq_getElem (by simpa using i)⟩
    ·simp only[if_true];exact⟨_,h⟩
   ·simp only[hs,if_true,reduceCtorEq]at h
 ·simp only[b,if_false];exact⟨u,h⟩
theorem pf {p:Addr}{K:World->Prop}:∀(vs:List Value)(i:Nat)(w:World),(∀j,j<vs.length->(∃u,w.cell? (p.add (i+j))=some u)/\w.frozen? (p.add (i+j))=false)->(∀v∈vs,one? v True)->
 K (setRow p i vs w)->ph p i vs w K
 | [],i,w,_,_,b=>b
 | v::r,i,w,h,d,b=>by
  have s:=pf r (i+1) (w.setCell (p.add i) v) (λj y=>by
   obtain⟨⟨u,hu⟩,f⟩:=h (j+1) (by simp;omega);rw[show i+(j+1)=i+1+j by omega]at hu f;exact⟨qc _ _ hu,by rw[uK];exact f⟩) (λx t=>d x (List.mem_cons_of_mem _ t)) b
  have m:=h 0 (by simp);have q:=(pE (d v (List.mem_cons_self ..))).2;simp only[ph];cases v<;>first|exact absurd rfl (q.1 _)|exact absurd rfl (q.2 _)|exact⟨m.1,m.2,s⟩
theorem cm(g o n:Nat):Addr.add ⟨g,o,none⟩ n=⟨g,o+n,none⟩:=by
 unfold Addr.add;split
 ·rename_i h;rw[h,Nat.add_zero]
 ·rfl
theorem gR:∀(vs:List Value)(cs:Array Value)(o:Nat),(setAt cs o vs).size=cs.size
 | [],cs,o=>rfl
 |v::r,cs,o=>by rw[setAt,gR r];simp
theorem Blk.set {w:World}{g:Nat}{cs:Array Value}{T:TypeId}(h:Blk w g cs T)(o:Nat)(v:Value):cJ w g (cs.setIfInBounds o v) T (w.setCell ⟨g,o,none⟩ v):=by
 refine⟨?_,⟨rfl,rfl,rfl,by simp[World.setCell],λk b=>?_⟩,by simp[World.setCell]⟩
 ·unfold Blk at *;simp[World.setCell,Array.getElem?_modify,h]
 ·simp only[World.setCell,Array.getElem?_modify];rw[if_neg (λe=>b e.symm)]
theorem cJ.trans {w w2 w3:World}{g:Nat}{cs cs':Array Value}{T T':TypeId}(h:cJ w g cs T w2)(k:cJ w2 g cs' T' w3):cJ w g cs' T' w3:=
 ⟨k.blk,h.kept.trans k.kept,k.size.trans h.size⟩
theorem nO(g o:Nat)(T:TypeId):∀(vs:List Value)(i:Nat)(w:World)(cs:Array Value),Blk w g cs T->cJ w g (setAt cs (o+i) vs) T (setRow ⟨g,o,none⟩ i vs w)
 | [],i,w,cs,h=>⟨h,Kept.refl _ _,rfl⟩
 | v::r,i,w,cs,h=>by
  have b:=h.set (o+i) v;have d:=nO g o T r (i+1) (w.setCell ⟨g,o+i,none⟩ v) _ b.blk;simp only[setRow,setAt,cm];exact b.trans d
theorem fX:∀ {vs:List Value}{F:Prop},nI vs F->F/\∀v∈vs,one? v True
 | [],F,h=>⟨h,by simp⟩
 | v::r,F,h=>by
  have b:=pE h;obtain⟨d,f⟩:=fX b.1;refine⟨d,λu hu=>?_⟩;rcases List.mem_cons.1 hu with rfl|hu
  ·cases u<;>first|exact absurd rfl (b.2.1 _)|exact absurd rfl (b.2.2 _)|exact trivial
  ·exact f u hu
theorem uc {p:Addr}{vs:List Value}{K:World->Prop}(d:∀v∈vs,one? v True)(h:aF w p vs K):∃w',(storeCells p vs 0).run P w=.ok () w'/\K w':=by
 obtain⟨g,o,cs,T,rfl,b,hs,f⟩:=h;refine mh (P:=P) _ _ _ (pf _ _ _ (λj i=>?_) d (f _ (by simpa using nO g o T vs 0 w cs b)));rw[Nat.zero_add,cm];unfold Blk at b;refine⟨?_,by simp[World.frozen?,b]⟩;unfold World.cell?;simp only[b];exact⟨_,Array.getElem?_eq_getElem (by omega)⟩
theorem qB {B:Option (Nat->Prop)}(H:∀v,ρ (.const v)=v)(h:rJ P B o ρ w F els):(∃v,F v/\∀w',Kept (held B w) w w'->(execOp ρ o).run P w'=.ok (.value v) w')\/els:=by
 obtain⟨dst,op,type,pos,after,guard⟩:=o;cases op
 all_goals first|exact .inr h|(simp only[rJ]at h)
 case move=>exact .inl ⟨_,h,λ_ _=>rfl⟩
 case assign=>exact .inl ⟨_,h,λ_ _=>rfl⟩
 case pick x y z=>
  split at h
  ·rename_i t D;rcases iC h with⟨rfl,h⟩|⟨rfl,h⟩
   ·exact .inl ⟨_,h,λ_ _=>by simp[execOp,D,asBool]⟩
   ·exact .inl ⟨_,h,λ_ _=>by simp[execOp,D,asBool]⟩
  ·exact h.elim
 case load t x=>
  split at h
  ·rename_i a q;split at h
   ·rename_i s hs E;simp only[Bool.and_eq_true]at E;obtain⟨p,rfl,h⟩:=dU h;obtain⟨I,h⟩:=Hj h;obtain⟨v,J,j⟩:=Sh2.lB h;refine .inl ⟨v,j,λw' K=>?_⟩;have:=mi (P:=P) E.1.1 E.1.2 E.2 (yI (λb L=>I b L) K J);simp[execOp,q,this]
   ·exact h.elim
  ·exact h.elim
 case nilCheck x=>
  split at h
  ·rename_i a q;obtain⟨p,rfl,h⟩:=dU h;exact .inl ⟨_,h,λ_ _=>by simp[execOp,q]⟩
  ·exact .inr h
 case fieldAddr s x f=>
  obtain⟨v,j,m⟩:=uP h;exact .inl ⟨v,j,λw' _=>by simp[execOp,m w']⟩
 case indexAddr t x i=>
  obtain⟨v,j,m⟩:=kK h;exact .inl ⟨v,j,λw' _=>by simp[execOp,m w']⟩
 case index t x i=>
  obtain⟨v,j,m⟩:=Dh h;exact .inl ⟨v,j,λw' _=>by simp[execOp,m w']⟩
 case binOp op t x y O=>
  rcases H9 H (X:=x) h with⟨v,j,m⟩|h
  ·exact .inl ⟨v,j,λw' _=>by simp only[execOp];rw[Sem.run_bind,m w'];rfl⟩
  ·exact .inr h
 case unOp op t x=>
  obtain⟨v,j,m⟩:=I7 (P:=P) h;exact .inl ⟨v,j,λw' _=>by simp[execOp,m w']⟩
 case convert s d x=>
  rcases F6 h with⟨v,j,m⟩|h
  ·exact .inl ⟨v,j,λw' _=>by simp[execOp,m w']⟩
  ·exact .inr h
 case slice t x lo hi mx=>
  rcases n8 h with⟨v,j,m⟩|h
  ·exact .inl ⟨v,j,λw' _=>by simp[execOp,m w']⟩
  ·exact .inr h
 case sliceToArrayPointer arr x=>
  split at h
  ·rename_i n e a len cap hu u;obtain⟨hle,h⟩:=h;refine .inl ⟨_,h,λw' _=>?_⟩;have:¬len<n:=by omega
   simp[execOp,Instr.arrayAt,run_underlying hu,u,this]
  ·exact .inr h
 case call c=>
  obtain⟨R,args,M⟩:=c;simp only at h;split at h
  ·rename_i x t q D;obtain rfl:args= #[x]:=by rw[<-q]
   obtain rfl:M= #[t]:=by rw[<-D]
   split at h
   ·rename_i e hu;split at h
    ·rename_i a n k u;exact .inl ⟨_,h,λw' _=>by simp[execOp,resolve,invoke,builtin,Builtin.len_,run_underlying hu,u,goInt]⟩
    ·exact .inr h
   ·rename_i hu;split at h
    ·rename_i s u;exact .inl ⟨_,h,λw' _=>by simp[execOp,resolve,invoke,builtin,Builtin.len_,run_underlying hu,u,goInt]⟩
    ·exact .inr h
   ·exact .inr h
  ·rename_i x y q;obtain rfl:args= #[x,y]:=by rw[<-q]
   split at h
   ·rename_i k a k' b u G;exact .inl ⟨_,h,λw' _=>by simp[execOp,resolve,invoke,builtin,Builtin.min_,Builtin.min2,u,G]⟩
   ·exact .inr h
  ·rename_i x y q;obtain rfl:args= #[x,y]:=by rw[<-q]
   split at h
   ·rename_i k a k' b u G;exact .inl ⟨_,h,λw' _=>by simp[execOp,resolve,invoke,builtin,Builtin.max_,Builtin.max2,u,G]⟩
   ·exact .inr h
  ·exact .inr h
 all_goals
  rcases AI h with⟨v,j,m⟩|h
  ·exact .inl ⟨v,j,λw' _=>m w'⟩
  ·exact .inr h
theorem G6 {s:Sem Next}{K:bq}(h:runM P s w K):∃v w',s.run P w=.ok (.value v) w'/\K v w':=by
 unfold runM at h;split at h
 ·rename_i v w' b;exact⟨v,w',b,h⟩
 ·exact h.elim
def gn(P:Program)(C:List Nat):Bool:=C.all (dy P)
theorem gg {C:List Nat}{f:FuncId}(d:gn P C=true)(h:C.elem f=true)(args:Array Value)(w:World):(callFunc f args).run P w=.ok (.enter f args) w:=by
 have b:dy P f=true:=by
  unfold gn at d;exact List.all_eq_true.1 d f (List.elem_iff.1 h)
 unfold dy at b;split at b
 ·rename_i fn m;simp only[Bool.and_eq_true,Bool.not_eq_true']at b;obtain⟨i,j⟩:=b;have p:¬fn.body=none:=by intro e;rw[e]at i;cases i
  have q:¬fn.name= "runtime.NumGoroutine" :=by intro e;rw[e]at j;simp at j
  simp[callFunc,m,q,p,program,Sem.run]
 ·cases b
theorem l6 {s:Sem Value}(h:we o ρ=some s)(w:World){v:Value}{w':World}(d:s.run P w=.ok v w'):(execOp ρ o).run P w=.ok (.value v) w':=by
 obtain⟨dst,op,type,pos,after,guard⟩:=o;have key:execOp ρ ⟨dst,op,type,pos,after,guard⟩=(do pure (.value (<-s)))->(execOp ρ ⟨dst,op,type,pos,after,guard⟩).run P w=.ok (.value v) w':=by
  intro e;rw[e,Sem.run_bind,d];rfl
 cases op
 case call c=>
  obtain⟨f,args,i⟩:=c;cases f with
  |builtin b=>cases b<;>simp only[we,Option.some.injEq,reduceCtorEq]at h<;>(subst h;exact key rfl)
  |_=>simp[we]at h
 all_goals first|(simp only[we,reduceCtorEq]at h;done)|(simp only[we,Option.some.injEq]at h;subst h;exact key rfl)
theorem Fw {K:bq}(h:Ax P o ρ w K):∃v w',(execOp ρ o).run P w=.ok (.value v) w'/\K v w':=by
 unfold Ax at h;split at h
 ·rename_i s hs;obtain⟨v,w',b,d⟩:=tr h;exact⟨v,w',l6 hs w b,d⟩
 ·obtain⟨v,w',b,d⟩:=tr h;exact⟨v,w',b,d⟩
theorem Jz {C:List Nat}{Y:Bool}{K:bq}{Qp:Option (List PanicEntry->World->Prop)}(J:gn P C=true)(L:∀v,ρ (.const v)=v)(h:opM P C Y o ρ w K Qp):Out P Y K (QpP Qp) ((execOp ρ o).run P w):=by
 unfold opM at h;have R:=qB L h;clear h;rcases R with⟨v,V,b⟩|h
 ·rw[b w (Kept.refl _ _)];exact V
 ·clear L;have gen:Ax P o ρ w K->Out P Y K (QpP Qp) ((execOp ρ o).run P w):=by
   intro h;obtain⟨v,w',b,d⟩:=Fw h;rw[b];exact d
  have M:runM P (execOp ρ o) w (uA K)->Out P Y K (QpP Qp) ((execOp ρ o).run P w):=by
   intro h;obtain⟨v,w',b,d⟩:=G6 h;rw[b];exact xp d
  have ab:(∃w',(execOp ρ o).run P w=.ok .skip w'/\K undef w')->Out P Y K (QpP Qp) ((execOp ρ o).run P w):=by
   rintro⟨w',b,d⟩;rw[b];exact d
  obtain⟨dst,op,type,pos,after,guard⟩:=o;cases op
  all_goals first|exact gen h|exact M h|(simp only at h;done)|skip
  case mapUpdate t m k x=>
   obtain⟨w',b,d⟩:=h;have:(execOp ρ {dst:=dst,op:=.mapUpdate t m k x,type:=type,pos:=pos,after:=after,guard:=guard}).run P w=.ok .skip w':=by
    simp only[execOp];rw[Sem.run_bind,b];rfl
   rw[this];exact d
  case insert t m k x=>
   obtain⟨w',b,d⟩:=h;have:(execOp ρ {dst:=dst,op:=.insert t m k x,type:=type,pos:=pos,after:=after,guard:=guard}).run P w=.ok .skip w':=by
    simp only[execOp];rw[Sem.run_bind,b];rfl
   rw[this];exact d
  case buildSlice t n parts=>
   dsimp only at h;split at h
   ·rename_i e x he s;obtain⟨j,d⟩:=h;have W:parts= #[(0,x)]:=by apply Array.ext';exact s
    subst W;have b:(execOp ρ {dst:=dst,op:=.buildSlice t 1 #[(0,x)],type:=type,pos:=pos,after:=after,guard:=guard}).run P w=.ok (.value (.slice (some ⟨w.heap.size,0,none⟩) 1 1)) (w.alloc (.cells #[ρ x] e)):=by
     have:=FY he j w;simp only[execOp];rw[Sem.run_bind];have e1:(#[(0,x)]:Array (Nat×Operand)).map (fun(i,x)=>(i,ρ x))= #[(0,ρ x)]:=by simp
     rw[e1,this];rfl
    rw[b];exact xp d
   ·exact M h
  case store t x y=>
   simp only at h;split at h
   ·rename_i a O;split at h
    ·rename_i n P6;split at h
     ·rename_i cs q z;simp only[Bool.and_eq_true]at q;obtain⟨D,E,hs⟩:=fw q.1;obtain⟨p,rfl,h⟩:=dU h;obtain⟨w',b,d⟩:=uc (P:=P) h.2.1 h.2.2;have G:cs.size=D.size:=by rw[<-hs,<-Nat.eq_of_beq_eq_true q.2];exact h.1
      have:(execOp ρ {dst:=dst,op:=.store t x y,type:=type,pos:=pos,after:=after,guard:=guard}).run P w=.ok .skip w':=by
       simp[execOp,O,z,Value.cells,Instr.storeAt,Instr.sureAddr,storeVar,sizeOf,typeInfo,E,G,b]
      rw[this];exact d
     ·exact h.elim
    split at h
    ·rename_i q;simp only[Bool.and_eq_true]at q;obtain⟨D,E,hs⟩:=fw q.2;obtain⟨p,rfl,h⟩:=dU h;obtain⟨h,j⟩:=fX h;obtain⟨w',b,d⟩:=uc (P:=P) j h;have G:(ρ y).cells.size=D.size:=by rw[<-hs,<-Nat.eq_of_beq_eq_true q.1];simp
     have:(execOp ρ {dst:=dst,op:=.store t x y,type:=type,pos:=pos,after:=after,guard:=guard}).run P w=.ok .skip w':=by
      simp[execOp,O,Instr.storeAt,Instr.sureAddr,storeVar,sizeOf,typeInfo,E,G,b]
     rw[this];exact d
    ·exact h.elim
   ·exact h.elim
  case call c=>
   obtain⟨ae,args,H⟩:=c;simp only at h;split at h
   ·exact gen h
   ·rename_i f;unfold KG at h;split at h
    ·rename_i fn first cap I
     split at h
     ·rename_i he;have j:=gg (P:=P) J he (first++args.map ρ++cap) w;have:(execOp ρ {dst:=dst,op:=.call {callee:=.value f,args:=args,argTypes:=H},type:=type,pos:=pos,after:=after,guard:=guard}).run P w=.ok (.enter fn (first++args.map ρ++cap)) w:=by
       simp only[execOp,resolve,I,Deferred.ofValue];rw[Sem.run_bind];exact j
      rw[this];exact Calls.mono h λe w' he=>qN he
     ·exact h.elim
    ·rename_i l first _ I
     cases Y with
     |false=>exact h.elim
     | true=>
      obtain⟨fn,tmps,assign,body,z,Y3⟩:=h;have:(execOp ρ {dst:=dst,op:=.call {callee:=.value f,args:=args,argTypes:=H},type:=type,pos:=pos,after:=after,guard:=guard}).run P w=.ok (.round l fn tmps assign body) w:=by
       simp only[execOp,resolve,I,Deferred.ofValue];rw[Sem.run_bind];exact z
      rw[this];exact⟨rfl,Y3.mono λe w' he=>qN he⟩
    ·exact h.elim
   ·rename_i x name;obtain⟨t,u,f',hx,hm,he,h⟩:=h;have j:=gg (P:=P) J he (#[u]++args.map ρ) w;have aa:(#[ρ x]++args.map ρ).extract 1 (#[ρ x]++args.map ρ).size=args.map ρ:=by
     apply Array.ext';simp;exact List.take_of_length_le (by simp)
    have b:(execOp ρ {dst:=dst,op:=.call {callee:=.invoke x name,args:=args,argTypes:=H},type:=type,pos:=pos,after:=after,guard:=guard}).run P w=.ok (.enter f' (#[u]++args.map ρ)) w:=by
     simp only[execOp,resolve];rw[Sem.run_bind];show(invoke (.fn (.method name) #[]) (#[ρ x]++args.map ρ)).run P w=_;have e0:(#[ρ x]++args.map ρ)[0]? =some (.iface t u):=by rw[hx,Array.getElem?_append_left (by simp)];rfl
     simp only[invoke,e0,aa];simp only[callMethod];rw[Sem.run_bind];have s:(program:Sem Program).run P w=.ok P w:=rfl;rw[s];change Sem.run P (method (P.types.size+Made.depth) t u name>>=λp=>callFunc p.1 (#[p.2]++Array.map ρ args)) w=_;rw[Sem.run_bind,xq hm];exact j
    rw[b];exact Calls.mono h λe w' he=>qN he
end
attribute [irreducible] split ay nz iM one?
end
section
def jg(ops:Array Oper)(o:Oper)(fr:Fr)(yes no:Fr->Prop):Prop:=
 match o.guard with
 |none=>yes fr
 | some (j,want)=>match (ops[j]?).bind (·.dst)with
  | some d=>match lk fr.g d fr.e with
   | .bool b=>split b
    (match want with
     |true=>yes ⟨(d,.bool true)::fr.e,fr.g,fr.ds⟩
     |false=>no ⟨(d,.bool true)::fr.e,fr.g,fr.ds⟩)
    (match want with
     |true=>no ⟨(d,.bool false)::fr.e,fr.g,fr.ds⟩
     |false=>yes ⟨(d,.bool false)::fr.e,fr.g,fr.ds⟩)
   |.tuple _=>no fr
   |_=>False
  |none=>False
abbrev OpT:=Oper->(Operand->Value)->World->bq->Prop
def GN(M:OpT)(n:Nat)(N:List Nat)(ops:Array Oper)(K:Fr->World->Prop):List Oper->Fr->World->Prop
 | [],fr,w=>K fr w
 | o::rest,fr,w=>jg ops o fr
  (λfr=>M o (ev fr) w (λv w'=>kh n N fr o.dst v λb=>GN M n N ops K rest b w'))
  (λfr=>kh n N fr o.dst undef λb=>GN M n N ops K rest b w)
abbrev vcL(P:Program)(C:List Nat)(n:Nat)(N:List Nat)(ops:Array Oper)(Qp:Option (List PanicEntry->World->Prop))(K:Fr->World->Prop):List Oper->Fr->World->Prop:=
 GN (λo ρ w K=>opM P C true o ρ w K Qp) n N ops K
section
variable {P:Program}{C:List Nat}{n:Nat}{N:List Nat}{r:Option Nat}{ops:Array Oper}{fr:Fr}{a:Act}{w:World}
theorem Eh {d:Nat}{v:Value}(b:Rep n fr a)(h:lk fr.g d fr.e=v):Rep n ⟨(d,v)::fr.e,fr.g,fr.ds⟩ a:=by
 refine⟨b.size,λi=>?_,b.defers⟩;simp only[lk];split
 ·rename_i hi;obtain rfl:i=d:=Nat.eq_of_beq_eq_true hi;rw[b.get,h]
 ·exact b.get i
theorem ly {o:Oper}{yes no:Fr->Prop}(i:Rep n fr a)(h:jg ops o fr yes no):
 ∃q,Rep n q a/\((Region.wanted o (yielded ops a.tmps)=true/\yes q)\/(Region.wanted o (yielded ops a.tmps)=false/\no q)):=by
 unfold jg at h;unfold Region.wanted;split at h
 ·rename_i s;exact⟨fr,i,.inl ⟨by rw[s],h⟩⟩
 ·rename_i j want s;rw[s];split at h
  ·rename_i d hd;split at h
   ·rename_i b m;have t:yielded ops a.tmps j=some b:=by
     unfold yielded;rw[hd];have f:a.tmps.getD d undef=.bool b:=by rw[i.get,m]
     have:a.tmps[d]? =some (.bool b):=by
      rw[Array.getD_eq_getD_getElem?]at f;cases he:a.tmps[d]? with
      |none=>rw[he]at f;simp[undef]at f
      |some u=>rw[he]at f;simp at f;rw[f]
     simp[this]
    simp only[t];rcases iC h with⟨rfl,p⟩|⟨rfl,p⟩
    ·refine⟨_,Eh i m,?_⟩;cases want
     ·exact .inr ⟨rfl,p⟩
     ·exact .inl ⟨rfl,p⟩
    ·refine⟨_,Eh i m,?_⟩;cases want
     ·exact .inl ⟨rfl,p⟩
     ·exact .inr ⟨rfl,p⟩
   ·rename_i us m;have t:yielded ops a.tmps j=none:=by
     unfold yielded;rw[hd];have f:a.tmps.getD d undef=.tuple us:=by rw[i.get,m]
     rw[Array.getD_eq_getD_getElem?]at f;cases he:a.tmps[d]? with
     |none=>simp[he]
     |some u=>rw[he]at f;simp at f;rw[f]at he;simp[he]
    exact⟨fr,i,.inr ⟨by simp[t],h⟩⟩
   ·exact h.elim
  ·exact h.elim
abbrev QF:=Exit->Fr->World->Prop
def Real(n:Nat)(ws:List Nat)(a0:Act)(Qp:Option (List PanicEntry->World->Prop))(Q:QF):Exit->Act->World->Prop
 |.panic ch,a,w=>QpP Qp ch w/\Agr ws a0 a
 |.outgrown,_,_=>False
 |x,a,w=>∃fr,Rep n fr a/\Q x fr w/\Agr ws a0 a
theorem Rep.Bp(fr:Fr)(v:Value):ev fr (.const v)=v:=rfl
def WF(r:Option Nat):Fence:= {Fence.wide with round:=r}
theorem vi {P:Program}{f:FuncId}{args:Array Value}{w:World}{R:Ending->World->Prop}(h:Calls P f args w R):CallsIn (WF r) 0 P f args w R:=
 (callsIn_wide (n:=0)).2 h
theorem Kb {P:Program}{row:String}{args:Array Value}{w:World}{R:Value->World->Prop}(h:Rows P row args w R):RowsIn (WF r) 0 P row args w R:=λc cs _=>
 let ⟨v,w',b,hs⟩:=h c cs
 ⟨v,w',b,stepsIn_wide.2 hs⟩
def gZ(o:Oper):Bool:=
 match o.op with
 |.defer _=>false
 |_=>true
theorem nQ {o:Oper}(h:gZ o=true):∀c,o.op≠ .defer c:=by
 intro c b;unfold gZ at h;rw[b]at h;cases h
theorem AL {Y:Bool}{o:Oper}{ρ:Operand->Value}{K:bq}{Qp:Option (List PanicEntry->World->Prop)}(h:opM P C Y o ρ w K Qp):gZ o=true:=by
 obtain⟨dst,op,type,pos,after,guard⟩:=o;cases op<;>first|rfl|exact h.elim
def opW(P:Program)(Y:Bool)(Qp:Option (List PanicEntry->World->Prop))(o:Oper)(ρ:Operand->Value)(w:World)(K:bq):Prop:=gZ o=true/\Out P Y K (QpP Qp) ((execOp ρ o).run P w)
theorem Eo {Y:Bool}{o:Oper}{K:bq}{Qp:Option (List PanicEntry->World->Prop)}(b:gn P C=true)(h:opM P C Y o (ev fr) w K Qp):opW P Y Qp o (ev fr) w K:=
 ⟨AL h,Jz b (Rep.Bp fr) h⟩
theorem My {o:Oper}{K:Fr->World->Prop}{next:Act->World->Prop}{Q:Exit->Act->World->Prop}{Qp:Option (List PanicEntry->World->Prop)}{ws:List Nat}{a0:Act}(m:Rep n fr a)(q:Agr ws a0 a)
 (hd:∀d,o.dst=some d->d∈ws)
 (h:opW P false Qp o (ev fr) w (λv w'=>kh n N fr o.dst v λi=>K i w'))
 (s:∀i a' w',Rep n i a'->Agr ws a0 a'->K i w'->next a' w')(p:∀ch w',QpP Qp ch w'->Q (.panic ch) a w'):o.wp P a w next Q:=by
 have b:=h.2;rw[<-m.eval]at b;unfold Oper.wp;have key:∀v w',(kh n N fr o.dst v λi=>K i w')->next (a.put o.dst v) w':=by
  intro v w' j;obtain⟨i,t,u⟩:=iU m j;exact s _ _ _ t (q.trans (Agr.put a o.dst v hd)) u
 generalize (execOp a.eval o).run P w=r at b;cases r with
 | ok y w'=>
  cases y<;>simp only[Out,Bool.false_eq_true,false_and]at b<;>simp only[Oper.upon]
  case value v=>exact key _ _ b
  case skip=>exact key _ _ b
  case enter f args=>
   refine b.mono λe z he=>?_;rcases he with⟨v,rfl,j⟩|⟨ch,rfl,j⟩
   ·exact key _ _ j
   ·exact p _ _ j
 | halt x w'=>
  cases x<;>simp only[Out]at b<;>simp only[Oper.upon]
  exact p _ _ b
theorem Em {o:Oper}{K:Fr->World->Prop}{next:Act->World->Prop}{Q:Exit->Act->World->Prop}{Qp:Option (List PanicEntry->World->Prop)}{ws:List Nat}{a0:Act}(p:Rep n fr a)(s:Agr ws a0 a)
 (hd:∀d,o.dst=some d->d∈ws)
 (h:opW P true Qp o (ev fr) w (λv w'=>kh n N fr o.dst v λj=>K j w'))
 (t:∀j a' w',Rep n j a'->Agr ws a0 a'->K j w'->next a' w')(m:∀ch w',QpP Qp ch w'->Q (.panic ch) a w'):o.wpIn (WF r) 0 P a w next Q:=by
 have u:=h.1;have b:=h.2;rw[<-p.eval]at b;have key:∀v w',(kh n N fr o.dst v λj=>K j w')->next (a.put o.dst v) w':=by
  intro v w' i;obtain⟨j,y,z⟩:=iU p i;exact t _ _ _ y (s.trans (Agr.put a o.dst v hd)) z
 refine⟨λ_ _=>trivial,?_⟩;rw[Oper.semAt_eq _ _ _ (nQ u)];have q:((WF r).depth.isSome=true->1<=0):=by intro h;cases h
 generalize (execOp a.eval o).run P w=D at b;cases D with
 | ok E w'=>
  cases E<;>simp only[Out]at b<;>simp only[Oper.uponIn]
  case value v=>exact key _ _ b
  case skip=>exact key _ _ b
  case enter f args=>
   refine⟨q,vi (b.mono λe G he=>?_)⟩;rcases he with⟨v,rfl,i⟩|⟨ch,rfl,i⟩
   ·exact key _ _ i
   ·exact m _ _ i
  case round l f tmps assign body=>
   refine⟨q,?_⟩;refine RoundIn.mono (F:=WF r) (show RoundIn (WF r) 0 P l f tmps assign body w' _ from b.2) λe G he=>?_;rcases he with⟨v,rfl,i⟩|⟨ch,rfl,i⟩
   ·exact key _ _ i
   ·exact m _ _ i
 | halt x w'=>
  cases x<;>simp only[Out]at b<;>simp only[Oper.uponIn]
  exact m _ _ b
theorem lH {o:Oper}{ρ:Operand->Value}:∀f,o.about P w ρ=some f->(WF r).fn f:=λ_ _=>trivial
theorem n6 {Qp:Option (List PanicEntry->World->Prop)}{M:OpT}{K:Fr->World->Prop}{ws:List Nat}{a0:Act}(i:∀o fr w K,M o (ev fr) w K->opW P true Qp o (ev fr) w K):
 ∀(l:List Oper),(∀o∈l,∀d,o.dst=some d->d∈ws)->∀(fr:Fr)(a:Act)(w:World),Rep n fr a->Agr ws a0 a->GN M n N ops K l fr w->
  wpListIn (WF r) 0 P ops (Real n ws a0 Qp (λx fr w=>match x with|.normal=>K fr w|_=>False)) l a w
 | [],_,fr,a,w,j,b,h=>⟨fr,j,h,b⟩
 | o::rest,hd,fr,a,w,j,b,h=>by
  obtain⟨u,y,f⟩:=ly j h;simp only[wpListIn];rcases f with⟨hw,f⟩|⟨hw,f⟩
  ·rw[if_pos hw];refine Em (K:=λu w'=>GN M n N ops K rest u w') y b (hd o (List.mem_cons_self ..)) (i _ _ _ _ f) ?_ ?_
   ·intro m z w2 p q D;exact n6 i rest (λs t=>hd s (List.mem_cons_of_mem _ t)) m z w2 p q D
   ·intro ch w' hq;exact⟨hq,b⟩
  ·rw[if_neg (by rw[hw];simp)];obtain⟨m,p,q⟩:=iU y f;exact⟨lH,n6 i rest (λs t=>hd s (List.mem_cons_of_mem _ t)) m _ w p (b.trans (Agr.put a o.dst undef (hd o (List.mem_cons_self ..)))) q⟩
theorem Fb {Qp:Option (List PanicEntry->World->Prop)}{K:Fr->World->Prop}{ws:List Nat}{a0:Act}(b:gn P C=true)
 (l:List Oper)(hd:∀o∈l,∀d,o.dst=some d->d∈ws)(fr:Fr)(a:Act)(w:World)(f:Rep n fr a)(i:Agr ws a0 a)(h:vcL P C n N ops Qp K l fr w):
  wpListIn (WF r) 0 P ops (Real n ws a0 Qp (λx fr w=>match x with|.normal=>K fr w|_=>False)) l a w:=
 n6 (λ_ _ _ _ h=>Eo b h) l hd fr a w f i h
theorem fP {Q:Exit->Act->World->Prop}(b:¬LetsOut Q)(j:∀o∈ops,gZ o=true):∀(l:List Nat)(a:Act)(w:World),wpOps P ops Q l a w->wpOpsIn (WF r) 0 P ops Q l a w
 | [],_,_,h=>h
 | i::rest,a,w,h=>by
  simp only[wpOps]at h;simp only[wpOpsIn];cases m:ops[i]? with
  | none=>
   simp only[m]at h;exact fP b j rest a w h
  | some o=>
   simp only[m]at h;have q:o∈ops:=Array.mem_of_getElem? m;simp only;split
   ·rename_i hw;rw[if_pos hw]at h;rcases h with h|⟨_,h⟩
    ·refine⟨lH,?_⟩;rw[Oper.semAt_eq _ _ _ (nQ (j o q))];unfold Oper.wp at h;have p:((WF r).depth.isSome=true->1<=0):=by intro h;cases h
     generalize (execOp a.eval o).run P w=s at h;cases s with
     | ok t w'=>
      cases t<;>simp only[Oper.upon]at h<;>simp only[Oper.uponIn]
      case value v=>exact fP b j rest _ _ h
      case skip=>exact fP b j rest _ _ h
      case defer d=>exact fP b j rest _ _ h
      case enter f args=>
       refine⟨p,vi (h.mono λe u he=>?_)⟩;cases e with
       |returned v=>exact fP b j rest _ _ he
       |panicked ch=>exact he
       |outgrown=>exact he
      case row row args=>exact⟨p,Kb (h.mono λv u he=>fP b j rest _ _ he)⟩
     | halt x w'=>
      cases x<;>simp only[Oper.upon]at h<;>simp only[Oper.uponIn]
      exact h
    ·exact absurd h b
   ·rename_i hw;rw[if_neg hw]at h;exact⟨lH,fP b j rest _ _ h⟩
end
def xG(ops:Array Oper):Nat->Nat->Nat->Bool
 |0,_,_=>false
 | fuel+1,j,k=>match ops[j]? with
  |some o=>o.after.toList.any λe=>Region.binds .any e && (Nat.beq e.on k || xG ops fuel e.on k)
  |none=>false
def behind(ops:Array Oper)(listed:Array Bool)(j:Nat):List Nat:=
 (List.range ops.size).filter λi=>listed.getD i false && !(Nat.beq i j) && !(xG ops 3 j i)
def ji(ops:Array Oper)(listed:Array Bool):Prop:=∀(k:Nat)(o:Oper),ops[k]? =some o->listed.getD k false=true->∀e∈o.after,Region.binds .any e=true->listed.getD e.on false=true
theorem xF {ops:Array Oper}{listed:Array Bool}(b:ji ops listed):∀(fuel j k:Nat),xG ops fuel j k=true->
 (∀o,ops[j]? =some o->∀e∈o.after,Region.binds .any e=true->listed.getD e.on false=true)->listed.getD k false=true
 |0,_,_,h,_=>by cases h
 | fuel+1,j,k,h,f=>by
  simp only[xG]at h;split at h
  ·rename_i o i;simp only[List.any_eq_true,Bool.and_eq_true,Bool.or_eq_true]at h;obtain⟨e,he,m,h⟩:=h;have d:=f o i e (Array.mem_toList_iff.1 he) m;rcases h with h|h
   ·rw[<-Nat.eq_of_beq_eq_true h];exact d
   ·exact xF b fuel e.on k h λp q=>b e.on p q d
  ·cases h
theorem ji.none(ops:Array Oper)(n:Nat):ji ops (Array.replicate n false):=λk o _ h=>by
 rw[Array.getD_eq_getD_getElem?,Array.getElem?_replicate]at h;split at h<;>cases h
theorem ji.set {ops:Array Oper}{listed:Array Bool}{j:Nat}(i:ji ops listed)(m:j∈Region.ready .any ops listed):ji ops (listed.setIfInBounds j true):=by
 intro k o b d e he f;obtain⟨_,s,p,q⟩:=mem_ready.1 m;by_cases h:j=k
 ·subst h;rw[p]at b;injection b with b
  subst b;exact getD_set_true (q e he f)
 ·rw[getD_set_ne false h]at d;exact getD_set_true (i k o b d e he f)
section
variable {P:Program}{ops:Array Oper}{Q:Exit->Act->World->Prop}{S:World->Prop}
def jz(C:Nat->World->World->Prop)(i:Nat)(R:World->World->Prop):Nat->World->World->Prop:=
 λk=>if k=i then R else C k
theorem Fg(C:Nat->World->World->Prop){i j:Nat}(R b:World->World->Prop)(h:i≠j):jz (jz C i R) j b=jz (jz C j b) i R:=by
 funext k;unfold jz;by_cases d:k=i<;>by_cases f:k=j
 ·omega
 ·simp[d,h]
 ·simp[f,Ne.symm h]
 ·simp[d,f]
def gx(P:Program)(ops:Array Oper)(Q:Exit->Act->World->Prop):Nat->(Nat->World->World->Prop)->Array Bool->Act->World->Prop
 |0,_,listed,a,w=>Region.ready .any ops listed= []/\Q .normal a w
 | fuel+1,C,listed,a,w=>
  (Region.ready .any ops listed= []->Q .normal a w)/\∀j∈Region.ready .any ops listed,wpOp P ops Q j (λa' w'=>(∀i∈behind ops listed j,C i w w')/\gx P ops Q fuel (jz C j λ_ _=>True) (listed.setIfInBounds j true) a' w') a w
theorem tE:∀(fuel:Nat)(C:Nat->World->World->Prop)(listed:Array Bool)(a:Act)(w:World),gx P ops Q fuel C listed a w->wpAny P .any ops Q fuel listed a w
 |0,_,_,_,_,h=>h
 |fuel+1,_,_,_,_,h=>⟨h.1,λi hi=>wpOp_mono (λa' w' b=>tE fuel _ _ a' w' b.2) (h.2 i hi)⟩
theorem yn {i:Nat}{s:Oper}{v:Value}{R:World->World->Prop}(hR:∀x y z,R x y->R y z->R x z)(aa:∀x,R x x)(hi:ops[i]? =some s)(ab:∀(j:Nat)(o:Oper) cs b,ops[j]? =some o->o.op≠ .select cs b)
 (hQ:∀c a w,Q (.panic c) (a.put s.dst v) w->Q (.panic c) a w):
 ∀(fuel:Nat)(C:Nat->World->World->Prop)(listed:Array Bool)(a:Act)(w:World),
  (∀k x,listed.getD k false=true->C k x x)->
  (∀j t,ops[j]? =some t->j≠i->listed.getD j true=false->(∀e∈t.after,Region.binds .any e=true->e.on≠i)->s.apart ops t=true)->
  ji ops listed->i∈Region.ready .any ops listed->YieldsIf P ops (λx=>R w x) s v a->
  gx P ops Q fuel (jz C i R) (listed.setIfInBounds i true) (a.put s.dst v) w->gx P ops Q (fuel+1) C listed a w:=by
 have key:∀(fuel:Nat)(C:Nat->World->World->Prop)(listed:Array Bool)(a:Act)(w:World),(∀k x,listed.getD k false=true->C k x x)->i∈Region.ready .any ops listed->
  gx P ops Q fuel (jz C i R) (listed.setIfInBounds i true) a w->(∀k∈behind ops listed i,C k w w)/\gx P ops Q fuel (jz C i λ_ _=>True) (listed.setIfInBounds i true) a w:=by
  intro fuel C listed a w hrefl m H;refine⟨λk d=>?_,?_⟩
  ·unfold behind at d;simp only[List.mem_filter,Bool.and_eq_true]at d;exact hrefl k w d.2.1.1
  ·have aA:∀(fuel:Nat)(C J:Nat->World->World->Prop)(listed:Array Bool)(a:Act)(w:World),(∀k x y,C k x y->J k x y)->gx P ops Q fuel C listed a w->gx P ops Q fuel J listed a w:=by
    intro fuel
    induction fuel with
    |zero=>intro C J listed a w _ h;exact h
    | succ fuel O=>
     intro C J listed a w hc h;refine⟨h.1,λj u=>wpOp_mono (λa' w' f=>⟨λk d=>hc k _ _ (f.1 k d),O _ _ _ a' w' (λk x y q=>?_) f.2⟩) (h.2 j u)⟩;unfold jz at q ⊢;split
     ·trivial
     ·rename_i I;rw[if_neg I]at q;exact hc k x y q
   refine aA fuel _ _ _ a w (λk x y q=>?_) H;unfold jz at q ⊢;split
   ·trivial
   ·rename_i I;rw[if_neg I]at q;exact q
 intro fuel
 induction fuel with
 | zero=>
  intro C listed a w hrefl _ V m K H;refine⟨λh=>(by rw[h]at m;cases m),λj u=>?_⟩;by_cases p:j=i
  ·subst p;exact K.wpOp hi (aa w) (key 0 C listed _ w hrefl m H)
  ·have:=ready_mono u p;rw[H.1]at this;cases this
 | succ fuel O=>
  intro C listed a w hrefl UL V m K H;refine⟨λh=>(by rw[h]at m;cases m),λj u=>?_⟩;by_cases p:j=i
  ·subst p;exact K.wpOp hi (aa w) (key (fuel+1) C listed _ w hrefl m H)
  ·have D:=H.2 j (ready_mono u p);obtain⟨ae,t,L,PC⟩:=mem_ready.1 u;have E:=(mem_ready.1 m).1;have aC:∀e∈t.after,Region.binds .any e=true->e.on≠i:=λe he W heq=>by
    have D:=PC e he W;have h0:=E;rw[heq]at D;rcases Nat.lt_or_ge i listed.size with f|f
    ·simp[f]at h0 D;rw[h0]at D;cases D
    ·simp[Array.getElem?_eq_none f]at D
   have VF:xG ops 3 j i=false:=by
    cases hd:xG ops 3 j i with
    |false=>rfl
    | true=>
     have G:=xF V 3 j i hd λo M=>by rw[L]at M;injection M with M;subst M;exact PC
     rcases Nat.lt_or_ge i listed.size with f|f
     ·simp[f]at E G;rw[E]at G;cases G
     ·simp[Array.getElem?_eq_none f]at G
   have af:i<listed.size:=by
    rcases Nat.lt_or_ge i listed.size with f|f
    ·exact f
    ·simp[Array.getElem?_eq_none f]at E
   have Pf:i∈behind ops (listed.setIfInBounds i true) j:=by
    unfold behind;simp only[List.mem_filter,List.mem_range,Bool.and_eq_true,Bool.not_eq_true'];refine⟨(Array.getElem?_eq_some_iff.1 hi).1,⟨?_,?_⟩,VF⟩
    ·simp[af]
    ·cases W:Nat.beq i j with
     |false=>rfl
     |true=>exact absurd (Nat.eq_of_beq_eq_true W).symm p
   have Vz:∀k∈behind ops listed j,k∈behind ops (listed.setIfInBounds i true) j:=λk d=>by
    unfold behind at d ⊢;simp only[List.mem_filter,Bool.and_eq_true]at d ⊢;exact⟨d.1,⟨getD_set_true d.2.1.1,d.2.1.2⟩,d.2.2⟩
   have a0:∀k∈behind ops listed j,k≠i:=λk d e=>by
    unfold behind at d;simp only[List.mem_filter,Bool.and_eq_true]at d;subst e;have:=d.2.1.1;simp[af]at E this;rw[E]at this;cases this
   have h2:=wpOp_putIf L (UL j t L p ae aC) (λcs b=>ab i s cs b hi) (λcs b=>ab j t cs b L) hQ K D;have a1:∀k ok,ops[k]? =some ok->k≠i->(listed.setIfInBounds j true).getD k true=false->
    (∀e∈ok.after,Region.binds .any e=true->e.on≠i)->s.apart ops ok=true:=λk ok d Y4 ah a2=>by
    refine UL k ok d Y4 ?_ a2;by_cases an:j=k
    ·subst an;exact ae
    ·rw[getD_set_ne true an]at ah;exact ah
   refine wpOp_mono (λa' w' G=>?_) h2;obtain⟨a3,az,a4⟩:=G;have a5:R w w':=by have:=az i Pf;unfold jz at this;rwa[if_pos rfl]at this
   refine⟨λk d=>?_,O (jz C j λ_ _=>True) (listed.setIfInBounds j true) a' w' (λk x d=>?_) a1 (V.set u) (ready_mono m (Ne.symm p)) ?_ ?_⟩
   ·have:=az k (Vz k d);unfold jz at this
    rwa[if_neg (a0 k d)]at this
   ·unfold jz;split
    ·trivial
    ·rename_i I;rw[getD_set_ne false (Ne.symm I)]at d;exact hrefl k x d
   ·exact a3.imp (fun⟨h5,h6⟩=>⟨h5,λx q=>h6 x (hR _ _ _ a5 q)⟩) id
   ·rw[Fg _ _ _ p,Array.setIfInBounds_comm _ _ p];exact a4
theorem rD {i:Nat}{b:Oper}{v:Value}{R:World->World->Prop}{fuel:Nat}{C:Nat->World->World->Prop}{listed:Array Bool}{a:Act}{w:World}(d:∀x y z,R x y->R y z->R x z)(f:∀x,R x x)(hrefl:∀k x,listed.getD k false=true->C k x x)(hi:ops[i]? =some b)
 (hs:Region.noSelect ops=true)(j:Region.free .any ops listed i=true)(m:ji ops listed)(p:(Region.ready .any ops listed).contains i=true)
 (q:∀c a w,Q (.panic c) (a.put b.dst v) w->Q (.panic c) a w)(s:YieldsIf P ops (λx=>R w x) b v a)
 (h:gx P ops Q fuel (jz C i R) (listed.setIfInBounds i true) (a.put b.dst v) w):gx P ops Q (fuel+1) C listed a w:=
 yn d f hi (Region.noSelect_spec hs) q fuel C listed a w hrefl (Region.free_spec hi j) m (by simpa using p) s h
theorem CE {rs:List Nat}{fuel:Nat}{C:Nat->World->World->Prop}{listed:Array Bool}{a:Act}{w:World}(b:Region.ready .any ops listed=rs)(d:rs≠ [])
 (h:∀j∈rs,wpOp P ops Q j (λa' w'=>(∀i∈behind ops listed j,C i w w')/\gx P ops Q fuel (jz C j λ_ _=>True) (listed.setIfInBounds j true) a' w') a w):gx P ops Q (fuel+1) C listed a w:=
 ⟨λf=>absurd (b▸f) d,b▸h⟩
theorem zV {C:Nat->World->World->Prop}{listed:Array Bool}{a:Act}{w:World}(b:Region.ready .any ops listed= [])(h:Q .normal a w):
 ∀fuel,gx P ops Q fuel C listed a w
 |0=>⟨b,h⟩
 |_+1=>⟨λ_=>h,by rw[b];simp⟩
end
def ahead(P:Program)(o:Oper):Bool:=
 match o.op with
 |.move _|.assign _|.pick ..|.load ..|.nilCheck _|.fieldAddr ..|.indexAddr ..|.index ..|.binOp ..|.unOp ..|.slice ..|.build ..|.field ..|.extract ..|.makeInterface ..|.makeFunc ..|.sliceToArrayPointer .. =>true
 | .convert src dst _=>match P.underlying src,P.underlying dst with
  |some (.int _),some (.int _)=>true
  |some (.slice _),some .string=>true
  |_,_=>false
 | .call c=>match c.callee with
  |.builtin .len|.builtin .min|.builtin .max=>true
  |_=>false
 |_=>false
def opS(P:Program)(B:Option (Nat->Prop))(o:Oper)(ρ:Operand->Value)(w:World)(F:Value->Prop):Prop:=
 rJ P B o ρ w F<|
 match o.op with
 |.convert src dst x=>∃s:ByteArray,(∀w',Kept (held B w) w w'->(convert src dst (ρ x)).run P w'=.ok (.string s) w')/\F (.string s)
 |_=>False
def jM(P:Program)(ops:Array Oper)(listed:Array Bool):List Nat->Option Nat
 | []=>none
 | i::r=>match (match ops[i]? with|some o=>ahead P o && Region.free .any ops listed i|none=>false)with
  |true=>some i
  |false=>jM P ops listed r
def Dy(F:Nat->Prop):List Nat->Prop
 | []=>True
 | [i]=>F i
 |i::r=>F i/\Dy F r
theorem u4 {F:Nat->Prop}:∀ {l:List Nat},Dy F l->∀i∈l,F i
 | [],_,i,hi=>by cases hi
 | [j],h,i,hi=>by simp at hi;subst hi;exact h
 | j::k::r,h,i,hi=>by
  rcases List.mem_cons.1 hi with rfl|hi
  ·exact h.1
  ·exact u4 h.2 i hi
def bD(b:Nat->Nat->Prop):List Nat->Nat->Prop
 | [],_=>False
 | [i],k=>b i k
 |i::r,k=>b i k\/bD b r k
def Et(l:List Nat)(B:Option (Nat->Nat->Prop))(w w':World)(F:Option (Nat->Nat->Prop)->Prop):Prop:=
 match B with
 |none=>False
 | some b=>match l with
  | []=>∃d:Nat->Nat->Prop,(∀i k,b i k->d i k)/\F (some d)
  |l=>Kept (bD b l) w w'/\∃d:Nat->Nat->Prop,(∀i k,b i k->d i k)/\F (some d)
abbrev LZ:=Option (Nat->Prop)->Oper->(Operand->Value)->World->(Value->Prop)->Prop
def sI(P:Program)(M:OpT)(MS:LZ)(n:Nat)(N:List Nat)(ops:Array Oper)(K:Fr->World->Prop):Nat->Option (Nat->Nat->Prop)->Array Bool->Fr->World->Prop
 | 0,_,listed,fr,w=>match Region.ready .any ops listed with
  | []=>K fr w
  |_=>False
 | fuel+1,B,listed,fr,w=>match Region.ready .any ops listed with
  | []=>K fr w
  | i0::r0=>match jM P ops listed (i0::r0)with
   | some i=>match ops[i]? with
    | some o=>jg ops o fr
     (λfr=>MS (B.map λb=>b i) o (ev fr) w λv=>kh n N fr o.dst v λd=>sI P M MS n N ops K fuel B (listed.setIfInBounds i true) d w)
     (λfr=>kh n N fr o.dst undef λd=>sI P M MS n N ops K fuel B (listed.setIfInBounds i true) d w)
    |none=>False
   | none=>Dy (λi=>match ops[i]? with
    | some o=>jg ops o fr
     (λfr=>M o (ev fr) w (λv w'=>kh n N fr o.dst v λd=>Et (behind ops listed i) B w w' λf=>sI P M MS n N ops K fuel f (listed.setIfInBounds i true) d w'))
     (λfr=>kh n N fr o.dst undef λd=>sI P M MS n N ops K fuel B (listed.setIfInBounds i true) d w)
    |none=>False) (i0::r0)
abbrev vcD(P:Program)(C:List Nat)(n:Nat)(N:List Nat)(ops:Array Oper)(Qp:Option (List PanicEntry->World->Prop))(K:Fr->World->Prop):Nat->Option (Nat->Nat->Prop)->Array Bool->Fr->World->Prop:=
 sI P (λo ρ w K=>opM P C false o ρ w K Qp) (λB o ρ w F=>opS P B o ρ w F) n N ops K
section
variable {P:Program}{C:List Nat}{n:Nat}{N:List Nat}{r:Option Nat}{ops:Array Oper}
theorem mw {listed:Array Bool}{i:Nat}:∀ {l:List Nat},jM P ops listed l=some i->i∈l/\Region.free .any ops listed i=true
 | [],h=>by cases h
 | j::r,h=>by
  unfold jM at h;split at h
  ·rename_i b;injection h with h
   subst h;refine⟨List.mem_cons_self ..,?_⟩;split at b
   ·simp only[Bool.and_eq_true]at b;exact b.2
   ·cases b
  ·have:=mw h;exact⟨List.mem_cons_of_mem _ this.1,this.2⟩
theorem Jy {B:Option (Nat->Prop)}{o:Oper}{ρ:Operand->Value}{w:World}{F:Value->Prop}(b:∀v,ρ (.const v)=v)(h:opS P B o ρ w F):
 ∃v,F v/\∀w',Kept (held B w) w w'->(execOp ρ o).run P w'=.ok (.value v) w':=by
 unfold opS at h;have d:=qB b h;clear h;rcases d with h|h
 ·exact h
 ·split at h
  ·rename_i src dst x f;obtain⟨s,i,j⟩:=h;exact⟨_,j,λw' m=>by unfold execOp;rw[f];simp[i w' m]⟩
  ·exact h.elim
theorem BQ {b:Nat->Nat->Prop}:∀ {l:List Nat}{i k:Nat},i∈l->b i k->bD b l k
 | [j],i,k,hi,h=>by simp at hi;subst hi;exact h
 | j::m::r,i,k,hi,h=>by
  rcases List.mem_cons.1 hi with rfl|hi
  ·exact .inl h
  ·exact .inr (BQ hi h)
def nW(B:Option (Nat->Nat->Prop))(C:Nat->World->World->Prop)(listed:Array Bool):Prop:=
 match B with
 |none=>∀i,listed.getD i false=true->∀x y,Kept (λk=>k<x.heap.size) x y->C i x y
 |some b=>∀i,listed.getD i false=true->∀x y,Kept (b i) x y->C i x y
theorem nW.refl {B:Option (Nat->Nat->Prop)}{C:Nat->World->World->Prop}{listed:Array Bool}(h:nW B C listed):∀k x,listed.getD k false=true->C k x x:=by
 intro k x d;cases B with
 |none=>exact h k d x x (Kept.refl _ _)
 |some b=>exact h k d x x (Kept.refl _ _)
theorem nW.none(B:Option (Nat->Nat->Prop))(l:Array Bool):nW B (λ_ _ _=>True) l:=by
 cases B<;>exact λ_ _ _ _ _=>trivial
def Fy(B:Option (Nat->Prop))(x y:World):Prop:=
 match B with
 |none=>Kept (λk=>k<x.heap.size) x y
 |some b=>Kept b x y
theorem ui(B:Option (Nat->Prop))(x y z:World)(h:Fy B x y)(i:Fy B y z):Fy B x z:=by
 cases B with
 | none=>
  have d:Kept (λk=>k<x.heap.size) x y:=h;have f:Kept (λk=>k<y.heap.size) y z:=i;exact d.trans (f.mono λk j=>Nat.lt_of_lt_of_le j d.size)
 | some b=>
  have d:Kept b x y:=h;have f:Kept b y z:=i;exact d.trans f
theorem wY(B:Option (Nat->Prop))(x:World):Fy B x x:=by cases B<;>exact Kept.refl _ _
theorem Fx {B:Option (Nat->Prop)}{x y:World}(h:Fy B x y):Kept (held B x) x y:=by cases B<;>exact h
theorem tJ {Qp:Option (List PanicEntry->World->Prop)}{M:OpT}{MS:LZ}{K:Fr->World->Prop}{ws:List Nat}{a0:Act}(hM:∀o fr w K,M o (ev fr) w K->opW P false Qp o (ev fr) w K)
 (af:∀B o fr w F,MS B o (ev fr) w F->∃v,F v/\∀w',Kept (held B w) w w'->(execOp (ev fr) o).run P w'=.ok (.value v) w')(hs:Region.noSelect ops=true)
 (hd:∀(i:Nat)(o:Oper),ops[i]? =some o->∀d,o.dst=some d->d∈ws):
 ∀(fuel:Nat)(B:Option (Nat->Nat->Prop))(G:Nat->World->World->Prop)(listed:Array Bool)(fr:Fr)(a:Act)(w:World),ji ops listed->nW B G listed->Rep n fr a->Agr ws a0 a->sI P M MS n N ops K fuel B listed fr w->
  gx P ops (Real n ws a0 Qp (λx fr w=>match x with|.normal=>K fr w|_=>False)) fuel G listed a w:=by
 intro fuel
 induction fuel with
 | zero=>
  intro B G listed fr a w z s O D h;simp only[sI]at h;split at h
  ·rename_i t;exact⟨t,fr,O,h,D⟩
  ·exact h.elim
 | succ fuel R=>
  intro B G listed fr a w z s O D h;have hQ:∀o:Oper,(∀d,o.dst=some d->d∈ws)->∀v,∀c a w,Real n ws a0 Qp (λx fr w=>match x with|.normal=>K fr w|_=>False) (.panic c) (a.put o.dst v) w->
   Real n ws a0 Qp (λx fr w=>match x with|.normal=>K fr w|_=>False) (.panic c) a w:=by
   intro o hd v c a w h;have hp:=Agr.put a o.dst v hd;exact⟨h.1,λi hi=>(hp.tmps i hi).symm.trans (h.2.tmps i hi),λhi=>(hp.defers hi).symm.trans (h.2.defers hi)⟩
  have Ru:∀i,nW B (jz G i (Fy (B.map λb=>b i))) (listed.setIfInBounds i true):=by
   intro i;cases B with
   | none=>
    intro k f x y j;unfold jz;split
    ·exact j
    ·rename_i J;rw[getD_set_ne false (Ne.symm J)]at f;exact s k f x y j
   | some b=>
    intro k f x y j;unfold jz;split
    ·rename_i he;subst he;exact j
    ·rename_i J;rw[getD_set_ne false (Ne.symm J)]at f;exact s k f x y j
  have V:∀i,nW B (jz G i λ_ _=>True) (listed.setIfInBounds i true):=by
   intro i;cases B with
   | none=>
    intro k f x y j;unfold jz;split
    ·trivial
    ·rename_i J;rw[getD_set_ne false (Ne.symm J)]at f;exact s k f x y j
   | some b=>
    intro k f x y j;unfold jz;split
    ·trivial
    ·rename_i J;rw[getD_set_ne false (Ne.symm J)]at f;exact s k f x y j
  simp only[sI]at h;split at h
  ·rename_i t;exact zV t ⟨fr,O,h,D⟩ _
  ·rename_i i0 r0 t;split at h
   ·rename_i i ah;obtain⟨W,UL⟩:=mw ah;split at h
    ·rename_i o q;obtain⟨aa,L,p⟩:=ly O h;have ae:(Region.ready .any ops listed).contains i=true:=by rw[t];simpa using W
     rcases p with⟨hw,p⟩|⟨hw,p⟩
     ·obtain⟨v,f,P1⟩:=af _ _ _ _ _ p;obtain⟨E,H,I⟩:=iU L f;rw[<-L.eval]at P1;exact rD (ui _) (wY _) s.refl q hs UL z ae (hQ o (hd i o q) v) (.inl ⟨hw,λw' hb=>P1 w' (Fx hb)⟩)
       (R _ _ _ E _ w (z.set (by rw[t];exact W)) (Ru i) H (D.trans (Agr.put a o.dst v (hd i o q))) I)
     ·obtain⟨E,H,I⟩:=iU L p;exact rD (ui _) (wY _) s.refl q hs UL z ae (hQ o (hd i o q) undef) (.inr ⟨hw,rfl⟩)
       (R _ _ _ E _ w (z.set (by rw[t];exact W)) (Ru i) H (D.trans (Agr.put a o.dst undef (hd i o q))) I)
    ·exact h.elim
   ·refine CE t (by simp) λi hi=>?_;have Qn:=u4 h i hi;have ab:i∈Region.ready .any ops listed:=by rw[t];exact hi
    split at Qn
    ·rename_i o q;obtain⟨aa,L,p⟩:=ly O Qn;unfold wpOp;simp only[q];rcases p with⟨hw,p⟩|⟨hw,p⟩
     ·rw[if_pos hw];refine .inl (My (Qp:=Qp) (N:=N) (K:=λaa w'=>Et (behind ops listed i) B w w' λB'=>sI P M MS n N ops K fuel B' (listed.setIfInBounds i true) aa w') L D (hd i o q) ?_ ?_ ?_)
      ·exact hM _ _ _ _ p
      ·intro E a2 w2 H I u;cases B with
       |none=>exact u.elim
       | some b=>
        simp only[Et]at u;split at u
        ·rename_i an;obtain⟨b',P4,u⟩:=u;refine⟨λk f=>(by rw[an]at f;cases f),R (some b') _ _ E a2 w2 (z.set ab) ?_ H I u⟩;intro k f x y j;exact V i k f x y (Kept.mono j λm hm=>P4 k m hm)
        ·obtain⟨az,b',P4,u⟩:=u;refine⟨λk f=>?_,R (some b') _ _ E a2 w2 (z.set ab) ?_ H I u⟩
         ·have hl:listed.getD k false=true:=by
           unfold behind at f;simp only[List.mem_filter,Bool.and_eq_true]at f;exact f.2.1.1
          exact s k hl w w2 (az.mono λm hm=>BQ f hm)
         ·intro k f x y j;exact V i k f x y (Kept.mono j λm hm=>P4 k m hm)
      ·intro ch w' hq;exact⟨hq,D⟩
     ·rw[if_neg (by rw[hw];simp)];obtain⟨E,H,I⟩:=iU L p;exact⟨λk f=>(by
       unfold behind at f;simp only[List.mem_filter,Bool.and_eq_true]at f;exact s.refl k w f.2.1.1),R _ _ _ E _ w (z.set ab) (V i) H (D.trans (Agr.put a o.dst undef (hd i o q))) I⟩
    ·exact Qn.elim
theorem Fe {Qp:Option (List PanicEntry->World->Prop)}{K:Fr->World->Prop}{ws:List Nat}{a0:Act}(b:gn P C=true)(hs:Region.noSelect ops=true)
 (hd:∀(i:Nat)(o:Oper),ops[i]? =some o->∀d,o.dst=some d->d∈ws)
 (fuel:Nat)(B:Option (Nat->Nat->Prop))(G:Nat->World->World->Prop)(listed:Array Bool)(fr:Fr)(a:Act)(w:World)(f:ji ops listed)(j:nW B G listed)(m:Rep n fr a)(p:Agr ws a0 a)(h:vcD P C n N ops Qp K fuel B listed fr w):
  gx P ops (Real n ws a0 Qp (λx fr w=>match x with|.normal=>K fr w|_=>False)) fuel G listed a w:=
 tJ (λ_ _ _ _ h=>Eo b h) (λ_ _ fr _ _ h=>Jy (Rep.Bp fr) h) hs hd fuel B G listed fr a w f j m p h
end
def ShT:Sh->Type->Type
 |.int _,T=>Int->T
 |.bool,T=>Bool->T
 |.str,T=>ByteArray->T
 |.ptr,T=>Option Addr->T
 |.slice,T=>Option Addr->Nat->Nat->T
 |.map,T=>Option Nat->T
 |.val,T=>Value->T
def Iv:List Sh->Type->Type
 | [],T=>T
 |s::l,T=>ShT s (Iv l T)
def Iw:Sh2->Type->Type
 |.one s,T=>ShT s T
 |.agg l,T=>Iv l T
 |.row _,T=>Array Value->T
def JT:List (Nat×Sh2)->Type
 | []=>World->Prop
 |(_,s)::r=>Iw s (JT r)
def Ic {T:Type}:(s:Sh)->ShT s T->Value->(T->Prop)->Prop
 | .int k,J,v,F=>match v with
  | .int k' x=>match kEq k k' with
   |true=>F (J x)
   |false=>False
  |_=>False
 | .bool,J,v,F=>match v with
  |.bool x=>F (J x)
  |_=>False
 | .str,J,v,F=>match v with
  |.string x=>F (J x)
  |_=>False
 | .ptr,J,v,F=>match v with
  |.pointer x=>F (J x)
  |_=>False
 | .slice,J,v,F=>match v with
  |.slice a n c=>F (J a n c)
  |_=>False
 | .map,J,v,F=>match v with
  |.map x=>F (J x)
  |_=>False
 |.val,J,v,F=>F (J v)
def Ib {T:Type}:(l:List Sh)->Iv l T->List Value->(T->Prop)->Prop
 | [],J,[],F=>F J
 |s::l,J,v::vs,F=>Ic s J v λb=>Ib l b vs F
 |_,_,_,_=>False
def BJ {T:Type}:(s:Sh2)->Iw s T->Value->(T->Prop)->Prop
 |.one s,J,v,F=>Ic s J v F
 | .agg l,J,v,F=>match v with
  |.agg cs=>Ib l J cs.toList F
  |_=>False
 | .row _,J,v,F=>match v with
  |.agg cs=>F (J cs)
  |_=>False
def Ff:(l:List (Nat×Sh2))->JT l->Fr->World->Prop
 | [],J,_,w=>J w
 |(s,sh)::r,J,fr,w=>BJ sh J (lk fr.g s fr.e) λb=>Ff r b fr w
def EU {T:Type}:(s:Sh)->ShT s T->(T->Value->Prop)->Prop
 |.int k,J,F=>∀x:Int,F (J x) (.int k x)
 |.bool,J,F=>∀x:Bool,F (J x) (.bool x)
 |.str,J,F=>∀x:ByteArray,F (J x) (.string x)
 |.ptr,J,F=>∀x:Option Addr,F (J x) (.pointer x)
 |.slice,J,F=>∀(a:Option Addr)(n c:Nat),F (J a n c) (.slice a n c)
 |.map,J,F=>∀x:Option Nat,F (J x) (.map x)
 |.val,J,F=>∀x:Value,F (J x) x
def zf {T:Type}:(l:List Sh)->Iv l T->(T->List Value->Prop)->Prop
 | [],J,F=>F J []
 |s::l,J,F=>EU s J λb v=>zf l b λd vs=>F d (v::vs)
def Dx {T:Type}:(s:Sh2)->Iw s T->(T->Value->Prop)->Prop
 |.one s,J,F=>EU s J F
 |.agg l,J,F=>zf l J λb vs=>F b (.agg ⟨vs⟩)
 |.row _,J,F=>∀cs:Array Value,F (J cs) (.agg cs)
def Ij:(l:List (Nat×Sh2))->JT l->(List (Nat×Value)->World->Prop)->Prop
 | [],J,F=>∀w,J w->F [] w
 |(s,sh)::r,J,F=>Dx sh J λb v=>Ij r b λvs w=>F ((s,v)::vs) w
theorem qe {T:Type}{s:Sh}{J:ShT s T}{v:Value}{F:T->Prop}(h:Ic s J v F):∃d,F d/\∀G:T->Value->Prop,EU s J G->G d v:=by
 cases s<;>simp only[Ic]at h
 case int k=>
  split at h
  ·split at h
   ·rename_i f;obtain rfl:=pS f;exact⟨_,h,λG b=>b _⟩
   ·exact h.elim
  ·exact h.elim
 case slice=>
  split at h
  ·exact⟨_,h,λG b=>b _ _ _⟩
  ·exact h.elim
 case val=>exact⟨_,h,λG b=>b _⟩
 all_goals
  split at h
  ·exact⟨_,h,λG b=>b _⟩
  ·exact h.elim
theorem xL {T:Type}:∀ {l:List Sh}{J:Iv l T}{vs:List Value}{F:T->Prop},Ib l J vs F->∃b,F b/\∀G:T->List Value->Prop,zf l J G->G b vs
 | [],J,[],F,h=>⟨_,h,λG f=>f⟩
 | s::l,J,v::vs,F,h=>by
  obtain⟨b,i,j⟩:=qe h;obtain⟨d,m,p⟩:=xL i;exact⟨d,m,λG f=>p (λd vs=>G d (v::vs)) (j (λb v=>zf l b λd vs=>G d (v::vs)) f)⟩
 | [],_,_::_,_,h=>h.elim
 |_::_,_,[],_,h=>h.elim
theorem xM {T:Type}{s:Sh2}{J:Iw s T}{v:Value}{F:T->Prop}(h:BJ s J v F):∃b,F b/\∀G:T->Value->Prop,Dx s J G->G b v:=by
 cases s with
 |one s=>exact qe h
 | agg l=>
  simp only[BJ]at h;split at h
  ·obtain⟨b,f,i⟩:=xL h;exact⟨b,f,λG d=>i (λb vs=>G b (.agg ⟨vs⟩)) d⟩
  ·exact h.elim
 | row n=>
  simp only[BJ]at h;split at h
  ·exact⟨_,h,λG d=>d _⟩
  ·exact h.elim
theorem tL:∀(l:List (Nat×Sh2))(J:JT l)(fr:Fr)(w:World),Ff l J fr w->
 ∃vs:List (Nat×Value),(∀s v,(s,v)∈vs->lk fr.g s fr.e=v)/\∀F,Ij l J F->F vs w
 | [],J,fr,w,h=>⟨[],by simp,λF b=>b w h⟩
 | (s,sh)::r,J,fr,w,h=>by
  obtain⟨d,f,i⟩:=xM h;obtain⟨vs,j,m⟩:=tL r d fr w f;refine⟨(s,lk fr.g s fr.e)::vs,λp q hm=>?_,λF b=>m _ (i (λd v=>Ij r d λvs w=>F ((s,v)::vs) w) b)⟩;rcases List.mem_cons.1 hm with e|hm
  ·cases e;rfl
  ·exact j _ _ hm
def Ii:Sh->(Value->Prop)->Prop
 |.int k,F=>∀x:Int,F (.int k x)
 |.bool,F=>∀x:Bool,F (.bool x)
 |.str,F=>∀x:ByteArray,F (.string x)
 |.ptr,F=>∀x:Option Addr,F (.pointer x)
 |.slice,F=>∀(a:Option Addr)(n c:Nat),F (.slice a n c)
 |.map,F=>∀x:Option Nat,F (.map x)
 |.val,F=>∀x:Value,F x
def Ih:List Sh->(List Value->Prop)->Prop
 | [],F=>F []
 |s::l,F=>Ii s λv=>Ih l λvs=>F (v::vs)
def KI:Sh2->(Value->Prop)->Prop
 |.one s,F=>Ii s F
 |.agg l,F=>Ih l λvs=>F (.agg ⟨vs⟩)
 |.row _,F=>∀cs:Array Value,F (.agg cs)
def LM:List Sh2->(List Value->Prop)->Prop
 | [],F=>F []
 |s::l,F=>KI s λv=>LM l λvs=>F (v::vs)
theorem xQ {s:Sh}{F G:Value->Prop}(h:s.ex F)(b:Ii s G):∃v,F v/\G v:=by
 cases s<;>simp only[Sh.ex]at h
 case slice=>obtain⟨a,n,c,h⟩:=h;exact⟨_,h,b _ _ _⟩
 all_goals obtain⟨x,h⟩:=h;exact⟨_,h,b _⟩
theorem xP:∀ {l:List Sh}{F G:List Value->Prop},exs l F->Ih l G->∃vs,F vs/\G vs
 | [],_,_,h,b=>⟨[],h,b⟩
 | s::l,F,G,h,b=>by
  obtain⟨v,d,f⟩:=xQ h b;obtain⟨vs,i,j⟩:=xP d f;exact⟨_,i,j⟩
theorem Gc {s:Sh2}{F G:Value->Prop}(h:s.ex F)(b:KI s G):∃v,F v/\G v:=by
 cases s with
 |one s=>exact xQ h b
 |agg l=>obtain⟨vs,d,f⟩:=xP h b;exact⟨_,d,f⟩
 |row n=>obtain⟨cs,h⟩:=h;exact⟨_,h,b _⟩
theorem BR:∀ {l:List Sh2}{F G:List Value->Prop},Dm l F->LM l G->∃vs,F vs/\G vs
 | [],_,_,h,b=>⟨[],h,b⟩
 | s::l,F,G,h,b=>by
  obtain⟨v,d,f⟩:=Gc h b;obtain⟨vs,i,j⟩:=BR d f;exact⟨_,i,j⟩
theorem Bn:∀ {l:List Sh2}{x:List Value},Dm l (λvs=>x=vs)->x.length=l.length:=by
 have key:∀(l:List Sh2)(pre x:List Value),Dm l (λvs=>x=pre++vs)->x.length=pre.length+l.length:=by
  intro l
  induction l with
  |nil=>intro pre x h;have:x=pre++ []:=h;rw[this];simp
  | cons s l b=>
   intro pre x h;obtain⟨v,h⟩:=Sh2.lB h;have:=b (pre++ [v]) x (by simpa using h);rw[this];simp;omega
 intro l x h;simpa using key l [] x (by simpa using h)
def writes:Code->List Nat
 |.region _ ops _=>ops.toList.filterMap (·.dst)
 |.seq x y=>writes x++writes y
 |.cond _ x y=>writes x++writes y
 |.block _ c=>writes c
 |.loop c=>writes c
 |.scope c=>writes c
 |.rangeFunc _ _ _ _=>[rW]
 |_=>[]
def EV(ws:List Nat):List Nat->Bool
 | []=>true
 | d::r=>match ws.elem d with
  |true=>EV ws r
  |false=>false
theorem xS {ws:List Nat}:∀ {l:List Nat},EV ws l=true->∀d∈l,d∈ws
 | [],_,d,hd=>by cases hd
 | e::r,h,d,hd=>by
  unfold EV at h;split at h
  ·rename_i he;rcases List.mem_cons.1 hd with rfl|hd
   ·exact List.elem_iff.1 he
   ·exact xS h d hd
  ·cases h
structure Cut where
 live:List (Nat×Sh2)
 wr:List Nat
inductive Ann where
 |leaf
 |node (cut:Option Cut)(l r:Ann)
def Ann.cut:Ann->Option Cut
 |.leaf=>none
 |.node c _ _=>c
def Ann.l:Ann->Ann
 |.leaf=>.leaf
 |.node _ l _=>l
def Ann.r:Ann->Ann
 |.leaf=>.leaf
 |.node _ _ r=>r
def forget(wr:List Nat):List (Nat×Value)->List (Nat×Value)
 | []=>[]
 | (d,v)::r=>match wr.elem d with
  |true=>forget wr r
  |false=>(d,v)::forget wr r
def uT(wr ws:List Nat):Bool:=
 match EV wr ws with
 |true=>!(wr.elem rW)
 |false=>false
theorem qL {wr ws:List Nat}(h:uT wr ws=true):(∀d∈ws,d∈wr)/\rW ∉ wr:=by
 unfold uT at h;split at h
 ·rename_i b;refine⟨xS b,λhm=>?_⟩;rw[List.elem_iff.2 hm]at h;cases h
 ·cases h
def jX(c:Code)(a:Ann)(Q:QF)(fr:Fr)(F:QF->Prop):Prop:=
 match a.cut with
 |none=>F Q
 | some ⟨live,wr⟩=>match uT wr (writes c)with
  |true=>∃J:JT live,F (λx b w'=>match x with|.normal=>Ff live J b w'|x=>Q x b w')/\∀g:Nat->Value,Ij live J λvs w'=>Q .normal ⟨vs++forget wr fr.e,g,fr.ds⟩ w'
  |false=>False
def mE(P:Program):List Oper->Bool
 | []=>true
 | o::r=>match ahead P o with
  |true=>mE P r
  |false=>false
def fW(l:List Oper):Bool:=
 match l with
 | []=>true
 | o::r=>match gZ o with
  |true=>fW r
  |false=>false
theorem jH:∀ {l:List Oper},fW l=true->∀o∈l,gZ o=true
 | [],_,o,b=>by cases b
 | e::r,h,o,b=>by
  unfold fW at h;split at h
  ·rename_i he;rcases List.mem_cons.1 b with rfl|b
   ·exact he
   ·exact jH h o b
  ·cases h
structure Ys where
 n:Nat
 is:Nat->List Value->World->Prop
@[reducible] def Ys.of(xs:List (List Value)):Ys:=⟨xs.length,λi x _=>xs[i]? =some x⟩
def Iter(P:Program)(d:Nat)(cap:Array Value)(xs:Ys)(X:Nat->Prop)(D:Nat->World->Prop):Prop:=(∀i A B,D i A->Kept X A B->D i B)/\∀(l:Nat)(J b:Nat->World->Prop)(W:World),(∀i A B,J i A->Kept (λk=>k<A.heap.size/\¬X k) A B->J i B)->(∀i A B,b i A->Kept (λk=>k<A.heap.size/\¬X k) A B->b i B)->J 0 W->D 0 W->(∀i x A,xs.is i x A->J i A->D i A->YieldAt Fence.wide 0 P l ⟨x⟩ A λe B=>(e=.returned (.bool true)/\J (i+1) B/\Kept X A B)\/(e=.returned (.bool false)/\b (i+1) B/\Kept X A B))->Calls P d (#[.func (.yield l) #[] #[]]++cap) W λe B=>(∃v,e=.returned v)/\((J xs.n B/\D xs.n B)\/∃i,b i B/\D i B)
def LR(X:Nat->Prop)(l:Nat)(J:Nat->World->Prop):Prop:=∀i A B,J i A->Kept (λk=>k<A.heap.size/\¬X k/\k≠l) A B->J i B
def Ej:List Tmp->List Value->List (Nat×Value)->List (Nat×Value)
 |p::b,v::vs,e=>Ej b vs ((p,v)::e)
 |_,_,e=>e
def mark(dl:Nat):Deferred:= {target:=.collected dl,args:= #[]}
def wi(b:List Tmp)(n:Nat):Bool:=
 match b with
 | []=>true
 | p::r=>match Nat.blt p n with
  |true=>wi r n
  |false=>false
def vcC(P:Program)(C:List Nat)(n:Nat)(N:List Nat):Bool->Option (List PanicEntry->World->Prop)->Code->Ann->QF->Fr->World->Prop
 |_,_,.skip,_,Q,fr,w=>Q .normal fr w
 |_,Qp,.region id ops false,a,Q,fr,w=>jX (.region id ops false) a Q fr λQ=>vcL P C n N ops Qp (Q .normal) ops.toList fr w
 | _,Qp,.region id ops true,a,Q,fr,w=>jX (.region id ops true) a Q fr λQ=>match Region.noSelect ops,fW ops.toList with
  | true,true=>(match mE P ops.toList with
   |true=>vcD P C n N ops Qp (Q .normal) ops.size none (Array.replicate ops.size false) fr w.drew
   |false=>∃b:Nat->Nat->Prop,vcD P C n N ops Qp (Q .normal) ops.size (some b) (Array.replicate ops.size false) fr w.drew)
  |_,_=>False
 |R,Qp,.seq x y,a,Q,fr,w=>jX (.seq x y) a Q fr λQ=>vcC P C n N R Qp x a.l (λe d w'=>match e with|.normal=>vcC P C n N R Qp y a.r Q d w'|e=>Q e d w') fr w
 | R,Qp,.cond c x y,a,Q,fr,w=>jX (.cond c x y) a Q fr λQ=>match ev fr c with
  |.bool b=>split b (vcC P C n N R Qp x a.l Q fr w) (vcC P C n N R Qp y a.r Q fr w)
  |_=>False
 | R,Qp,.block id c,a,Q,fr,w=>jX (.block id c) a Q fr λQ=>vcC P C n N R Qp c a.l (λe d w'=>match e with
  |.exit s=>(match Nat.beq s id with|true=>Q .normal d w'|false=>Q (.exit s) d w')
  |e=>Q e d w') fr w
 | R,Qp,.loop c,a,Q,fr,w=>match a.cut with
  |none=>False
  | some ⟨live,wr⟩=>match uT wr (writes c)with
   | true=>∃I:Nat->JT live,(∃m,Ff live (I m) fr w)/\∀(m:Nat)(g:Nat->Value),Ij live (I m) λvs w'=>
    vcC P C n N R Qp c a.l (λe d t=>match e with
     |.normal=>∃m',m'<m/\Ff live (I m') d t
     |e=>Q e d t) ⟨vs++forget wr fr.e,g,fr.ds⟩ w'
   |false=>False
 | false,_,.rangeFunc g h assign body,a,Q,fr,w=>match a.cut with
  |none=>False
  | some ⟨live,ids⟩=>match Nat.beq live.length h.size && wi h.toList n with
   |false=>False
   | true=>∃(j:Nat)(cap:Array Value),ev fr g=.func (.func j) #[] cap/\C.elem j=true/\∀(l dl:Nat)(w1:World),dl=w.heap.size->l=w.heap.size+1->Kept (λk=>k<w.heap.size) w w1->l<w1.heap.size->w1.heap[dl]? =some (.deferred (some []))->∃(xs:Ys)(X:Nat->Prop)(D J p:Nat->World->Prop)(q:Nat->Nat->World->Prop),Iter P j cap xs X D/\(∀k,X k->k<w.heap.size)/\(∀i x A,xs.is i x A->Dm (live.map (·.2)) λvs=>x=vs)/\(LR X l J/\LR X l p/\∀id,LR X l (q id))/\D 0 w1/\J 0 w1/\(∀(i:Nat)(A:World),J i A->D i A->LM (live.map (·.2)) λx=>xs.is i x A->vcC P C n N true none assign a.l (λe u w2=>match e with
        | .normal=>Kept (λk=>X k\/k=l) A w2/\∀w3,Kept (λk=>k<w2.heap.size/\k≠l) w2 w3->vcC P C n N true none body a.r (λe _ f=>match e with
          |.normal=>Kept (λk=>X k\/k=l) w3 f/\J (i+1) f
          |.ret=>Kept (λk=>X k\/k=l) w3 f/\p (i+1) f
          | .exit id=>(match ids.elem id with
           |true=>Kept (λk=>X k\/k=l) w3 f/\q id (i+1) f
           |false=>False)
          |_=>False) u w3
        |_=>False) ⟨Ej h.toList x fr.e,fr.g,[]⟩ A)/\(∀W,J xs.n W->D xs.n W->Q .normal ⟨fr.e,fr.g,mark dl::fr.ds⟩ W)/\(∀i W,p i W->D i W->Q .ret ⟨fr.e,fr.g,mark dl::fr.ds⟩ W)/\Dy (λid=>∀i W,q id i W->D i W->Q (.exit id) ⟨fr.e,fr.g,mark dl::fr.ds⟩ W) ids
 |_,_,.exit id,_,Q,fr,w=>Q (.exit id) fr w
 |_,_,.ret,_,Q,fr,w=>Q .ret fr w
 |_,_,.label _,_,Q,fr,w=>Q .normal fr w
 | false,Qp,.scope c,a,Q,fr,w=>jX (.scope c) a Q fr λQ=>vcC P C n N false Qp c a.l (λe d w'=>match e with
  |.goto _=>False
  |e=>Q e d w') fr w
 |_,_,_,_,_,_,_=>False
section
variable {P:Program}{C:List Nat}{n:Nat}{N:List Nat}{Qp:Option (List PanicEntry->World->Prop)}{r:Option Nat}
theorem xy(g:Nat->Value)(i:Nat):∀(x y:List (Nat×Value)),(∃v,(i,v)∈x/\lk g i (x++y)=v)\/((∀v,(i,v) ∉ x)/\lk g i (x++y)=lk g i y)
 | [],y=>.inr ⟨by simp,rfl⟩
 | (d,v)::r,y=>by
  simp only[List.cons_append,lk];split
  ·rename_i h;obtain rfl:=Nat.eq_of_beq_eq_true h;exact .inl ⟨v,List.mem_cons_self ..,rfl⟩
  ·rename_i h;have b:i≠d:=by rintro rfl;simp at h
   rcases xy g i r y with⟨u,hu,he⟩|⟨hu,he⟩
   ·exact .inl ⟨u,List.mem_cons_of_mem _ hu,he⟩
   ·refine .inr ⟨λu hm=>?_,he⟩;rcases List.mem_cons.1 hm with e|hm
    ·cases e;exact b rfl
    ·exact hu u hm
theorem qG(wr:List Nat)(g g':Nat->Value)(i:Nat):∀(e:List (Nat×Value)),lk g' i (forget wr e)=g' i\/(i ∉ wr/\lk g' i (forget wr e)=lk g i e)
 | []=>.inl rfl
 | (d,v)::r=>by
  simp only[forget];split
  ·rename_i h;rcases qG wr g g' i r with b|⟨f,b⟩
   ·exact .inl b
   ·refine .inr ⟨f,?_⟩;simp only[lk];split
    ·rename_i hi;obtain rfl:=Nat.eq_of_beq_eq_true hi;exact absurd (List.elem_iff.1 h) f
    ·exact b
  ·rename_i h;simp only[lk];split
   ·rename_i hi;obtain rfl:=Nat.eq_of_beq_eq_true hi;refine .inr ⟨λhm=>?_,rfl⟩;rw[List.elem_iff.2 hm]at h;cases h
   ·exact qG wr g g' i r
theorem yz {fr b:Fr}{a a':Act}{wr:List Nat}{vs:List (Nat×Value)}(f:Rep n fr a)(h:Rep n b a')(j:Agr wr a a')(m:rW ∉ wr)(p:∀s v,(s,v)∈vs->lk b.g s b.e=v):
 Rep n ⟨vs++forget wr fr.e,λi=>a'.tmps.getD i undef,fr.ds⟩ a':=by
 refine⟨h.size,λi=>?_,(j.defers m).trans f.defers⟩;rcases xy (λi=>a'.tmps.getD i undef) i vs (forget wr fr.e)with⟨v,q,he⟩|⟨_,he⟩
 ·show _=lk _ i (vs++forget wr fr.e);rw[he,h.get,p _ _ q]
 ·show _=lk _ i (vs++forget wr fr.e);rw[he];rcases qG wr fr.g (λi=>a'.tmps.getD i undef) i fr.e with d|⟨t,d⟩
  ·rw[d]
  ·rw[d,<-f.get];exact j.tmps i t
theorem Real.mono {ws b:List Nat}{a0 a:Act}{Q d:QF}{x:Exit}{w:World}(h:Real n ws a0 Qp Q x a w)(f:∀i,i∈ws->i∈b)(hq:∀x fr w,Q x fr w->d x fr w):Real n b a0 Qp d x a w:=by
 cases x<;>first|exact h.elim|exact⟨h.1,h.2.mono f⟩|(obtain⟨fr,j,m,p⟩:=h;exact⟨fr,j,hq _ _ _ m,p.mono f⟩)
theorem mm {ws:List Nat}{a0 a:Act}{Q:QF}{x:Exit}{w:World}(h:Real n ws a0 Qp (λx fr w=>match x with|.normal=>Q .normal fr w|_=>False) x a w):Real n ws a0 Qp Q x a w:=by
 cases x<;>first|exact h|(obtain⟨_,_,h,_⟩:=h;exact h.elim)
theorem oU {F:Fence}{p:Nat}{c:Code}{Q:Exit->Act->World->Prop}(I:Nat->Act->World->Prop)(m:Nat){a:Act}{w:World}(q:I m a w)
 (round:∀m a w,I m a w->c.wpIn F p P (Exit.then (λa' w'=>∃m',m'<m/\I m' a' w') Q) a w):(Code.loop c).wpIn F p P Q a w:=by
 intro b k cs s i j;have key:∀n a w,I n a w->
  ∃e a' w',Q e a' w'/\ArrivesIn (Machine.fenced P F) P (lone (b.atR a (.code c:: .inLoop c::k)) cs w) b k cs e a' w':=by
  intro n
  induction n using Nat.strongRecOn with
  | _ n t=>
   intro a w u;obtain⟨e,f,h,hq,d⟩:=round n a w u b (.inLoop c::k) cs s i j;cases e with
   | normal=>
    obtain⟨m',y,z⟩:=hq;obtain⟨D,E,G,H,J⟩:=t m' y f h z;exact⟨D,E,G,H,.of_steps (StepsIn.trans d (.one (fenced_calm i j rfl) stepR_inLoop)) J⟩
   |exit id=>exact⟨_,f,h,hq,.pass (x:=.inLoop c) rfl (λ_ _=>.inl (by simp)) d⟩
   |goto l=>exact⟨_,f,h,hq,.pass (x:=.inLoop c) rfl (λ_ _=>.inl (by simp)) d⟩
   |ret=>exact⟨_,f,h,hq,.pass (x:=.inLoop c) rfl (λ_ _=>.inl (by simp)) d⟩
   |panic ch=>exact⟨_,f,h,hq,.pass (x:=.inLoop c) rfl (λ_ _=>.inl (by simp)) d⟩
   |outgrown=>exact⟨_,f,h,hq,.pass (x:=.inLoop c) rfl (λ_ _=>.inl (by simp)) d⟩
 obtain⟨e,a',w',hq,d⟩:=key _ a w q;exact⟨e,a',w',hq,.of_steps (.one (fenced_calm i j rfl) stepR_loop) d⟩
def Sound(P:Program)(n:Nat)(r:Option Nat)(Qp:Option (List PanicEntry->World->Prop))(c:Code)(V:QF->Fr->World->Prop):Prop:=∀(Q:QF)(fr:Fr)(a:Act)(w:World),Rep n fr a->V Q fr w->c.wpIn (WF r) 0 P (Real n (writes c) a Qp Q) a w
theorem ju {c:Code}{j:Ann}{V:QF->Fr->World->Prop}(h:Sound P n r Qp c V):Sound P n r Qp c λQ fr w=>jX c j Q fr λQ=>V Q fr w:=by
 intro Q fr a w d b;simp only[jX]at b;split at b
 ·exact h Q fr a w d b
 ·rename_i live wr z;split at b
  ·rename_i f;obtain⟨f,m⟩:=qL f;obtain⟨J,p,q⟩:=b;refine wpIn_mono (h _ fr a w d p) λe a' w' he=>?_;cases e
   case normal=>
    obtain⟨s,t,u,i⟩:=he;obtain⟨vs,x,y⟩:=tL live J s w' u;exact⟨_,yz d t (i.mono f) m x,y _ (q _),i⟩
   all_goals exact he
  ·exact b.elim
theorem uC {ops:Array Oper}{id:Nat}{b:Bool}{i:Nat}{o:Oper}(f:ops[i]? =some o){d:Nat}(hd:o.dst=some d):d∈writes (.region id ops b):=by
 refine List.mem_filterMap.2 ⟨o,?_,hd⟩;obtain⟨h,j⟩:=Array.getElem?_eq_some_iff.1 f;rw[<-j];exact Array.mem_toList_iff.2 (Array.getElem_mem h)
theorem kt {id:Nat}{ops:Array Oper}{Q:Exit->Act->World->Prop}{G:Nat->World->World->Prop}{a:Act}{w:World}(hm:P.follows .mixedOrders=true)(b:¬LetsOut Q)(d:∀o∈ops,gZ o=true)
 (h:gx P ops Q ops.size G (Array.replicate ops.size false) a w.drew):(Code.region id ops true).wpIn (WF r) 0 P Q a w:=
 wpIn_region_draw λt=>fP b d _ _ _ (by
  simp only[Region.schedule,hm,Bool.true_or,if_true];exact wpAny_sound ops.size t _ a _ (tE _ _ _ _ _ h))
theorem py {ws:List Nat}{a0:Act}{Q:QF}:¬LetsOut (Real n ws a0 Qp Q):=fun⟨_,_,h⟩=>h
theorem xc:∀(d:List Tmp)(vs:List Value)(fr:Fr)(a:Act),wi d n=true->Rep n fr a->
 Rep n ⟨Ej d vs fr.e,fr.g,[]⟩ {tmps:=(d.zip vs).foldl (λt (p,v)=>t.setIfInBounds p v) a.tmps,defers:= []}
 | [],vs,fr,a,_,b=>⟨b.size,b.get,rfl⟩
 |_::_,[],fr,a,_,b=>⟨b.size,b.get,rfl⟩
 | p::d,v::vs,fr,a,f,b=>by
  simp only[wi]at f;split at f
  ·rename_i h;have q:p<n:=by simpa[Nat.blt_eq]using h
   obtain⟨i,j,m⟩:=iU (N:= []) (dst:=some p) (v:=v) (F:=λi=>i=⟨(p,v)::fr.e,fr.g,fr.ds⟩) b (by simp[kh,h,List.elem]);subst m;exact xc d vs _ _ f j
  ·cases f
theorem Kept.putObj {B:Nat->Prop}(w:World)(l:Nat)(o:Obj)(h:¬B l):Kept B w (w.putObj l o):=
 ⟨rfl,rfl,rfl,by simp,λ_ b=>World.putObj_heap_other (by rintro rfl;exact h b)⟩
theorem Kept.Dw(w:World)(o:Obj):Kept (λk=>k<w.heap.size) w (w.alloc o):=
 Kept.Hw ((Below.refl _ w).alloc (Nat.le_refl _) o)
theorem AB(hC:gn P C=true){g:Operand}{f:Array Tmp}{assign body:Code}{O:Ann}(As:∀l,Sound P n (some l) none assign (vcC P C n N true none assign O.l))(Bo:∀l,Sound P n (some l) none body (vcC P C n N true none body O.r)):
 Sound P n none Qp (.rangeFunc g f assign body) (vcC P C n N false Qp (.rangeFunc g f assign body) O):=by
 intro Q fr a w z s;simp only[vcC]at s;split at s
 ·exact s.elim
 rename_i live ids bc;split at s
 ·exact s.elim
 rename_i hlen;simp only[Bool.and_eq_true]at hlen;obtain⟨hlen,ah⟩:=hlen;have hlen:live.length=f.size:=Nat.eq_of_beq_eq_true hlen;obtain⟨K,cap,hg,az,s⟩:=s;have hw:(writes (.rangeFunc g f assign body))= [rW]:=rfl;have R:Agr [rW] a {a with defers:=mark w.heap.size::a.defers}:=⟨λ_ _=>rfl,λh=>absurd (List.mem_singleton.2 rfl) h⟩;have V:Rep n ⟨fr.e,fr.g,mark w.heap.size::fr.ds⟩ {a with defers:=mark w.heap.size::a.defers}:=⟨z.size,z.get,by show _::_=_;rw[z.defers]⟩;refine wpIn_rangeFunc λfn bd=>?_;obtain⟨rec,j⟩:∃rec:LoopState->Option Code->Loop,rec=λst pe=> {state:=st,pending:=pe,fn,tmps:=a.tmps,params:=f,assign,body,defers:=w.heap.size}:=⟨_,rfl⟩;obtain⟨b,L⟩:∃b,(w.alloc (.deferred (some []))).alloc (.loop (rec .ready none))=b:=⟨_,rfl⟩;have aa:b.heap[w.heap.size+1]? =some (.loop (rec .ready none)):=by
  rw[<-L];have:=World.alloc_heap_new (w.alloc (.deferred (some []))) (.loop (rec .ready none));rwa[World.size_alloc]at this
 have Y5:b.heap[w.heap.size]? =some (.deferred (some [])):=by
  rw[<-L];exact(Below.heap_alloc _ _ _ (by simp)).trans (World.alloc_heap_new w _)
 have aA:Kept (λk=>k<w.heap.size) w b:=by
  rw[<-L];exact(Kept.Dw w _).trans ((Kept.Dw _ _).mono (λk m=>by rw[World.size_alloc];omega))
 obtain⟨xs,X,D,J,Jr,Je,W,hX,aC,⟨sJ,sR,sE⟩,a0,a1,Sw,a3,a5,a6⟩:=s _ _ b rfl rfl aA (Array.getElem?_eq_some_iff.1 aa).1 Y5;have y:∀k,X k->k≠w.heap.size+1:=λk m=>by have:=hX k m;omega
 refine⟨w.heap.size+1,[mark w.heap.size],b,{target:=.fn (.func K) cap,args:= #[.func (.yield (w.heap.size+1)) #[] #[]]},b,K,
  #[.func (.yield (w.heap.size+1)) #[] #[]]++cap,b,?_,?_,λ_ _=>trivial,?_,(by intro h;cases h),vi ?_⟩
 ·rw[<-L,j];exact run_enterLoop_outer _ _ _ _ _
 ·have a7:a.eval g=.func (.func K) #[] cap:=by rw[z.eval];exact hg
  simp only[resolve,a7,Deferred.ofValue];simp[Act.eval]
 ·show(callFunc K (#[.func (.yield (w.heap.size+1)) #[] #[]]++cap)).run P b=_;exact gg hC az _ _
 have key:=W.2 (w.heap.size+1)
  (λi A=>J i A/\A.heap[w.heap.size+1]? =some (.loop (rec .ready none)))
  (λi A=>∃c,((c=.ret/\Jr i A)\/∃id,c=.exit id/\id∈ids/\Je id i A)/\A.heap[w.heap.size+1]? =some (.loop (rec .done (some c)))) b
  (λi A B h m=>⟨sJ i A B h.1 (m.mono λk h=>⟨h.1,h.2.1⟩),(m.block _ ⟨(Array.getElem?_eq_some_iff.1 h.2).1,λh=>y _ h rfl⟩).trans h.2⟩)
  (λi A B h m=>by
   obtain⟨c,hc,q⟩:=h;refine⟨c,?_,(m.block _ ⟨(Array.getElem?_eq_some_iff.1 q).1,λh=>y _ h rfl⟩).trans q⟩;rcases hc with⟨e,h⟩|⟨id,e,hm,h⟩
   ·exact .inl ⟨e,sR i A B h (m.mono λk h=>⟨h.1,h.2.1⟩)⟩
   ·exact .inr ⟨id,e,hm,sE id i A B h (m.mono λk h=>⟨h.1,h.2.1⟩)⟩)
  ⟨a1,aa⟩ a0 ?_
 ·refine key.mono ?_;rintro e B ⟨⟨v,rfl⟩,⟨⟨hj,q⟩,hd⟩|⟨i,⟨c,hc,q⟩,hd⟩⟩
  ·have d:=run_endLoop (P:=P) q (by rw[j];simp);rw[show(rec .ready none).pending=none by rw[j]]at d;refine⟨none,_,d,?_⟩;exact⟨_,V,a3 _ (sJ _ _ _ hj (Kept.putObj _ _ _ (by simp))) (W.1 _ _ _ hd (Kept.putObj _ _ _ (λh=>y _ h rfl))),R⟩
  ·have d:=run_endLoop (P:=P) q (by rw[j];simp);rw[show(rec .done (some c)).pending=some c by rw[j]]at d;refine⟨some c,_,d,?_⟩;have hd':∀o,D i (B.putObj (w.heap.size+1) o):=λo=>W.1 _ _ _ hd (Kept.putObj _ _ _ (λh=>y _ h rfl));rcases hc with⟨rfl,h⟩|⟨id,rfl,hm,h⟩
   ·exact wpIn_ret ⟨_,V,a5 _ _ (sR _ _ _ h (Kept.putObj _ _ _ (by simp))) (hd' _),R⟩
   ·exact wpIn_exit ⟨_,V,u4 a6 id hm _ _ (sE id _ _ _ h (Kept.putObj _ _ _ (by simp))) (hd' _),R⟩
 ·rintro i x A hx ⟨hj,q⟩ hd;have ab:=aC _ _ _ hx;have WB:x.length=f.size:=by rw[Bn ab,List.length_map,hlen]
  obtain⟨vs,rfl,YA⟩:=BR ab (Sw i A hj hd);have YA:=YA hx;have hy:=run_yield (P:=P) (args:=⟨x⟩) q (by rw[j];exact WB);rw[j]at hy;refine⟨fn,_,assign,body,hy,roundIn_of_wpIn (F:=Fence.wide) (n:=0) trivial ?_⟩;have SR:Rep n ⟨Ej f.toList x fr.e,fr.g,[]⟩ {tmps:=(f.zip ⟨x⟩).foldl (λt (p,v)=>t.setIfInBounds p v) a.tmps,defers:= []}:=by
   have:=xc f.toList x fr a ah z
   rwa[<-Array.foldl_toList,Array.toList_zip]
  refine wpIn_mono (F:=WF (some (w.heap.size+1))) (As (w.heap.size+1) _ _ _ A SR YA) λe a2 w2 he=>?_;cases e
  case normal=>
   obtain⟨Qa,a8,⟨Pp,hb⟩,_⟩:=he;have RZ:w2.heap[w.heap.size+1]? =some (.loop (rec .ready none)):=(Pp.block _ (.inr rfl)).trans q;have a9:=(Array.getElem?_eq_some_iff.1 RZ).1;refine⟨_,run_beginRound RZ (by rw[j]),?_⟩;have Wt:(w2.putObj (w.heap.size+1) (.loop {rec .ready none with state:=.busy})).heap[w.heap.size+1]? =some (.loop {rec .ready none with state:=.busy}):=World.putObj_heap_same a9;have ba:Kept X w2 (w2.putObj (w.heap.size+1) (.loop {rec .ready none with state:=.busy})):=Kept.putObj _ _ _ (λh=>y _ h rfl);refine wpIn_mono (F:=WF (some (w.heap.size+1))) (Bo (w.heap.size+1) _ _ _ _ a8 (hb _ (Kept.putObj _ _ _ (by simp)))) λe a4 E he=>?_;have fin:∀(jump:Option Code),Kept (λk=>X k\/k=w.heap.size+1) (w2.putObj (w.heap.size+1) (.loop {rec .ready none with state:=.busy})) E->
    (Instr.endRound (w.heap.size+1) jump).run P E=.ok (.bool jump.isNone) (E.putObj (w.heap.size+1) (.loop (rec (if jump.isNone then .ready else .done) jump)))/\
    (E.putObj (w.heap.size+1) (.loop (rec (if jump.isNone then .ready else .done) jump))).heap[w.heap.size+1]? =some (.loop (rec (if jump.isNone then .ready else .done) jump))/\
    Kept X A (E.putObj (w.heap.size+1) (.loop (rec (if jump.isNone then .ready else .done) jump))):=by
    intro jump u;have ae:=(u.block _ (.inr rfl)).trans Wt;have:=run_endRound (P:=P) jump ae;refine⟨by rw[j]at this ⊢;exact this,World.putObj_heap_same (Array.getElem?_eq_some_iff.1 ae).1,?_⟩;exact(((Pp.mono λk h=>.inl h).trans ba).trans (u.mono λk h=>.inl h)).trans (Kept.putObj _ _ _ (λh=>y _ h rfl))
   cases e
   case normal=>
    obtain⟨af,_,⟨u,G⟩,_⟩:=he;obtain⟨d,H,I⟩:=fin none u;exact⟨_,_,d,.inl ⟨rfl,⟨sJ _ _ _ G (Kept.putObj _ _ _ (by simp)),H⟩,I⟩⟩
   case ret=>
    obtain⟨af,_,⟨u,G⟩,_⟩:=he;obtain⟨d,H,I⟩:=fin (some .ret) u;exact⟨_,_,d,.inr ⟨rfl,⟨.ret,.inl ⟨rfl,sR _ _ _ G (Kept.putObj _ _ _ (by simp))⟩,H⟩,I⟩⟩
   case exit id=>
    obtain⟨af,_,M,_⟩:=he;simp only at M;split at M
    ·rename_i bb;obtain⟨u,G⟩:=M;obtain⟨d,H,I⟩:=fin (some (.exit id)) u;exact⟨_,_,d,.inr ⟨rfl,⟨.exit id,.inr ⟨id,rfl,List.elem_iff.1 bb,sE id _ _ _ G (Kept.putObj _ _ _ (by simp))⟩,H⟩,I⟩⟩
    ·exact M.elim
   case goto t=>obtain⟨_,_,h,_⟩:=he;exact h.elim
   case panic ch=>exact he.1.elim
   case outgrown=>exact he.elim
  case panic ch=>exact he.1.elim
  case outgrown=>exact he.elim
  all_goals obtain⟨_,_,h,_⟩:=he;exact h.elim
theorem fI(t:gn P C=true)(hm:P.follows .mixedOrders=true):∀(c:Code)(R:Bool)(Qp:Option (List PanicEntry->World->Prop))(r:Option Nat)(_:R=false->r=none)(p:Ann),Sound P n r Qp c (vcC P C n N R Qp c p)
 |.skip,R,Qp,r,_,p=>λQ fr a w j f=>wpIn_skip ⟨fr,j,f,Agr.refl _ _⟩
 | .region id ops false,R,Qp,r,_,p=>ju (c:=.region id ops false) (V:=λQ fr w=>vcL P C n N ops Qp (Q .normal) ops.toList fr w) λQ fr a w j f=>by
  exact wpIn_mono (wpIn_region_list (Fb (ws:=writes (.region id ops false)) (a0:=a) t ops.toList (λo E d hd=>List.mem_filterMap.2 ⟨o,E,hd⟩) fr a w j (Agr.refl _ _) f)) λe a' w' he=>mm he
 | .region id ops true,R,Qp,r,_,p=>ju (c:=.region id ops true) (V:=λQ fr w=>match Region.noSelect ops,fW ops.toList with
  | true,true=>(match mE P ops.toList with
   |true=>vcD P C n N ops Qp (Q .normal) ops.size none (Array.replicate ops.size false) fr w.drew
   |false=>∃b:Nat->Nat->Prop,vcD P C n N ops Qp (Q .normal) ops.size (some b) (Array.replicate ops.size false) fr w.drew)
  |_,_=>False) λQ fr a w j f=>by
  dsimp only at f;split at f
  ·rename_i hs R3;obtain⟨B,f⟩:∃B,vcD P C n N ops Qp (Q .normal) ops.size B (Array.replicate ops.size false) fr w.drew:=by
    split at f
    ·exact⟨_,f⟩
    ·obtain⟨b,f⟩:=f;exact⟨_,f⟩
   exact wpIn_mono (kt hm py (λo E=>jH R3 o (Array.mem_toList_iff.2 E)) (Fe (ws:=writes (.region id ops true)) (a0:=a) t hs (λi o E d hd=>uC E hd) ops.size _ (λ_ _ _=>True) _ fr a w.drew (ji.none _ _) (nW.none _ _) j (Agr.refl _ _) f)) λe a' w' he=>mm he
  ·exact f.elim
 | .seq x y,R,Qp,r,s,p=>ju (c:=.seq x y) (V:=λQ fr w=>vcC P C n N R Qp x p.l (λe q w'=>match e with|.normal=>vcC P C n N R Qp y p.r Q q w'|e=>Q e q w') fr w) λQ fr a w j f=>by
  refine wpIn_seq (wpIn_mono (fI t hm x R Qp r s p.l _ fr a w j f) λe a' w' he=>?_);cases e
  case normal=>
   obtain⟨q,z,D,u⟩:=he;refine wpIn_mono (fI t hm y R Qp r s p.r Q q a' w' z D) λe a2 w2 he=>?_;cases e<;>first
    |exact he.elim
    |exact⟨he.1,(u.mono λi hi=>List.mem_append_left _ hi).trans (he.2.mono λi hi=>List.mem_append_right _ hi)⟩
    | (obtain⟨G,H,J,K⟩:=he
       exact⟨G,H,J,(u.mono λi hi=>List.mem_append_left _ hi).trans (K.mono λi hi=>List.mem_append_right _ hi)⟩)
  all_goals first
   |exact he.elim
   |exact⟨he.1,he.2.mono λi hi=>List.mem_append_left _ hi⟩
   | (obtain⟨G,H,J,K⟩:=he
      exact⟨G,H,J,K.mono λi hi=>List.mem_append_left _ hi⟩)
 | .cond c x y,R,Qp,r,s,p=>ju (c:=.cond c x y) (V:=λQ fr w=>match ev fr c with
  |.bool b=>split b (vcC P C n N R Qp x p.l Q fr w) (vcC P C n N R Qp y p.r Q fr w)
  |_=>False) λQ fr a w j f=>by
  dsimp only at f;split at f
  ·rename_i b L;rw[<-j.eval]at L;rcases iC f with⟨rfl,M⟩|⟨rfl,M⟩
   ·exact wpIn_cond_true L (wpIn_mono (fI t hm x R Qp r s p.l Q fr a w j M) λe a' w' he=>he.mono (λi hi=>List.mem_append_left _ hi) (λ_ _ _ h=>h))
   ·exact wpIn_cond_false L (wpIn_mono (fI t hm y R Qp r s p.r Q fr a w j M) λe a' w' he=>he.mono (λi hi=>List.mem_append_right _ hi) (λ_ _ _ h=>h))
  ·exact f.elim
 | .block id c,R,Qp,r,s,p=>ju (c:=.block id c) (V:=λQ fr w=>vcC P C n N R Qp c p.l (λe q w'=>match e with
  |.exit O=>(match Nat.beq O id with|true=>Q .normal q w'|false=>Q (.exit O) q w')
  |e=>Q e q w') fr w) λQ fr a w j f=>by
  refine wpIn_block (wpIn_mono (fI t hm c R Qp r s p.l _ fr a w j f) λe a' w' he=>?_);cases e
  case exit O=>
   obtain⟨q,z,D,u⟩:=he;simp only at D;simp only[Exit.inBlock];split at D
   ·rename_i hi;rw[if_pos (Nat.eq_of_beq_eq_true hi)];exact⟨q,z,D,u⟩
   ·rename_i hi;rw[if_neg (by rintro rfl;simp at hi)];exact⟨q,z,D,u⟩
  all_goals exact he
 | .loop c,R,Qp,r,s,p=>λQ fr a w j f=>by
  simp only[vcC]at f;split at f
  ·exact f.elim
  ·rename_i live wr af;split at f
   ·rename_i W;obtain⟨W,Rq⟩:=qL W;obtain⟨I,⟨m0,h0⟩,Sw⟩:=f;refine oU (λm a' w'=>∃q,Rep n q a'/\Ff live (I m) q w'/\Agr (writes c) a a') m0 ⟨fr,j,h0,Agr.refl _ _⟩ ?_;rintro m a1 w1 ⟨aa,YA,hj,u⟩;obtain⟨vs,ab,PC⟩:=tL live (I m) aa w1 hj;have ae:=yz j YA (u.mono W) Rq ab;refine wpIn_mono (fI t hm c R Qp r s p.l _ _ a1 w1 ae (PC _ (Sw m _))) λe a' w' he=>?_;cases e
    case normal=>
     obtain⟨q,z,⟨m',OP,YI⟩,VI⟩:=he;exact⟨m',OP,q,z,YI,u.trans VI⟩
    case panic=>exact⟨he.1,u.trans he.2⟩
    case outgrown=>exact he
    all_goals
     obtain⟨q,z,hq,VI⟩:=he;exact⟨q,z,hq,u.trans VI⟩
   ·exact f.elim
 |.exit id,R,Qp,r,_,p=>λQ fr a w j f=>wpIn_exit ⟨fr,j,by cases R<;>exact f,Agr.refl _ _⟩
 |.ret,R,Qp,r,_,p=>λQ fr a w j f=>wpIn_ret ⟨fr,j,by cases R<;>exact f,Agr.refl _ _⟩
 | .rangeFunc g ps assign body,false,Qp,r,s,p=>by
  obtain rfl:=s rfl;exact AB t (λl=>fI t hm assign true none (some l) (by simp) p.l) (λl=>fI t hm body true none (some l) (by simp) p.r)
 |.rangeFunc _ _ _ _,true,_,_,_,_=>λQ fr a w j f=>by simp only[vcC]at f
 | .scope c,false,Qp,r,s,p=>by
  obtain rfl:=s rfl;refine ju (c:=.scope c) (V:=λQ fr w=>vcC P C n N false Qp c p.l (λe q w'=>match e with
   |.goto _=>False
   |e=>Q e q w') fr w) λQ fr a w j f=>?_
  refine(wpIn_wide (n:=0)).2 (wp_scope_straight ((wpIn_wide (n:=0)).1 (wpIn_mono (fI t hm c false Qp none (λ_=>rfl) p.l _ fr a w j f) λe a' w' he=>?_)));cases e
  case goto l=>obtain⟨_,_,h,_⟩:=he;exact h.elim
  all_goals exact he
 |.scope _,true,_,_,_,_=>λQ fr a w j f=>by simp only[vcC]at f
 |.label _,R,_,_,_,_=>λQ fr a w j f=>wpIn_label ⟨fr,j,by cases R<;>exact f,Agr.refl _ _⟩
 |.goto _,R,_,_,_,_=>λQ fr a w j f=>by cases R<;>simp only[vcC]at f
 |.refuse _,R,_,_,_,_=>λQ fr a w j f=>by cases R<;>simp only[vcC]at f
end
def px(P:Program)(fr:Fr)(w:World):List ResultVar->(List Value->Prop)->Prop
 | [],F=>F []
 |.tmp t::r,F=>px P fr w r λvs=>F (lk fr.g t fr.e::vs)
 | .cell a t::r,F=>match lk fr.g a fr.e with
  | .pointer p=>match eV P t,u5 P t (tV (eV P t)) && hasType P t && Nat.beq (jd (eV P t)) (bw P t)with
   |s,true=>ay p λp=>s.ex λv=>jq w p s v/\px P fr w r λvs=>F (v::vs)
   |_,false=>False
  |_=>False
def Mt(P:Program)(rs:List ResultVar)(R:bq)(fr:Fr)(w:World):Prop:=
 px P fr w rs λvs=>match vs with
  | [v]=>R v w
  |vs=>R (.tuple ⟨vs⟩) w
def uI(P:Program)(rs:List ResultVar)(R:bq)(fr:Fr):List Deferred->World->Prop
 | [],w=>Mt P rs R fr w
 | d::ds,w=>match d.target with
  |.collected D=>w.heap[D]? =some (.deferred (some []))/\uI P rs R fr ds (w.putObj D (.deferred none))
  |_=>False
def num:Nat->List Value->List (Nat×Value)
 |_,[]=>[]
 |i,v::r=>(i,v)::num (i+1) r
def EC {α:Type}:Option α->Bool
 |none=>false
 |some _=>true
def vcF(P:Program)(C N:List Nat)(fn:Func)(b:Ann)(args:List Value)(R:bq)(Qp:Option (List PanicEntry->World->Prop))(w:World):Prop:=
 match fn.body,Nat.ble args.length fn.ntmps with
 | some c,true=>(match EC Qp && (writes c).elem rW with
  |true=>False
  | false=>vcC P C fn.ntmps N false Qp c b (λe fr w'=>match e with
   |.normal=>uI P fn.results.toList R fr fr.ds w'
   |.ret=>uI P fn.results.toList R fr fr.ds w'
   |_=>False) ⟨num 0 args,λ_=>undef,[]⟩ w)
 |_,_=>False
section
variable {P:Program}{C N:List Nat}
def mf(tmps:Array Value):ResultVar->Sem Value
 |.tmp t=>pure (tmps.getD t undef)
 |.cell a t=>do loadVar t (<-asAddr (tmps.getD a undef))
theorem mj {fr:Fr}{w:World}{tmps:Array Value}(b:∀i,tmps.getD i undef=lk fr.g i fr.e):∀(rs:List ResultVar){F:List Value->Prop},px P fr w rs F->
 ∃vs,F vs/\(rs.mapM (mf tmps)).run P w=.ok vs w
 | [],F,h=>⟨[],h,rfl⟩
 | .tmp t::r,F,h=>by
  obtain⟨vs,f,j⟩:=mj b r h;refine⟨_,f,?_⟩;have m:(mf tmps (.tmp t)).run P w=.ok (lk fr.g t fr.e) w:=by rw[<-b];rfl
  rw[List.mapM_cons,Sem.run_bind,m];show(Sem.run P (do let u <-r.mapM (mf tmps);pure (lk fr.g t fr.e::u)) w)=_;rw[Sem.run_bind,j];rfl
 | .cell a t::r,F,h=>by
  simp only[px]at h;split at h
  ·rename_i p x;split at h
   ·rename_i s hs d;simp only[Bool.and_eq_true]at d;obtain⟨q,rfl,y⟩:=dU h;obtain⟨v,z,D⟩:=Sh2.lB y;obtain⟨vs,f,j⟩:=mj b r D;have:=mi (P:=P) d.1.1 d.1.2 d.2 z;refine⟨_,f,?_⟩;have m:(mf tmps (.cell a t)).run P w=.ok v w:=by
     show(do loadVar t (<-asAddr (tmps.getD a undef)):Sem Value).run P w=_;rw[b,x];exact this
    rw[List.mapM_cons,Sem.run_bind,m];show(Sem.run P (do let u <-r.mapM (mf tmps);pure (v::u)) w)=_;rw[Sem.run_bind,j];rfl
   ·exact h.elim
  ·exact h.elim
theorem G9 {fn:Func}{fr:Fr}{w:World}{tmps:Array Value}{R:bq}(d:∀i,tmps.getD i undef=lk fr.g i fr.e)(h:Mt P fn.results.toList R fr w):
 ∃v,R v w/\(results fn tmps).run P w=.ok v w:=by
 obtain⟨vs,b,f⟩:=mj d _ h;have hm:(fn.results.mapM (mf tmps)).run P w=.ok ⟨vs⟩ w:=by
  rw[Array.mapM_eq_mapM_toList];simp[f]
 have j:results fn tmps=(do let vs <-fn.results.mapM (mf tmps);pure (if h:vs.size=1 then vs[0]else .tuple vs)):=by
  unfold results mf;congr 1
 rw[j,Sem.run_bind,hm];cases vs with
 |nil=>exact⟨_,b,rfl⟩
 | cons v r=>
  cases r with
  |nil=>exact⟨_,b,rfl⟩
  |cons u r=>exact⟨_,b,rfl⟩
theorem uH(g:Nat->Value):∀(l:List Value)(k i:Nat),lk g i (num k l)=if h:k<=i/\i - k<l.length then l[i - k]'h.2 else g i
 | [],k,i=>by simp[num,lk]
 | v::r,k,i=>by
  simp only[num,lk];split
  ·rename_i h;obtain rfl:=Nat.eq_of_beq_eq_true h;simp
  ·rename_i h;have d:i≠k:=by rintro rfl;simp at h
   rw[uH g r (k+1) i];by_cases b:k+1<=i/\i - (k+1)<r.length
   ·rw[dif_pos b,dif_pos ⟨by omega,by simp;omega⟩];have:i - k=(i - (k+1))+1:=by omega
    simp[this]
   ·rw[dif_neg b,dif_neg (by simp;omega)]
theorem ou {fn:Func}{fr:Fr}{tmps:Array Value}{R:bq}{b:Ending->World->Prop}(f:∀v w,R v w->b (.returned v) w)(j:∀i,tmps.getD i undef=lk fr.g i fr.e):∀(ds:List Deferred)(w:World),uI P fn.results.toList R fr ds w->
 LeavesInM (WF none) 0 P fn tmps b ds .returning w
 | [],w,h=>by
  obtain⟨v,m,p⟩:=G9 j h;exact⟨v,p,f _ _ m⟩
 | d::ds,w,h=>by
  simp only[uI]at h;split at h
  ·rename_i D q;exact⟨by simp,.inl ⟨D,_,q,run_takeDeferred h.1,ou f j ds _ h.2⟩⟩
  ·exact h.elim
theorem BC {f:FuncId}{fn:Func}{args:List Value}{m:Ann}{R:bq}{Qp:Option (List PanicEntry->World->Prop)}{w:World}(s:P.funcs[f]? =some fn)(t:gn P C=true)(hm:P.follows .mixedOrders=true)
 (h:vcF P C N fn m args R Qp w):Calls P f ⟨args⟩ w λe w'=>(∃v,e=.returned v/\R v w')\/∃ch,e=.panicked ch/\QpP Qp ch w':=by
 unfold vcF at h;split at h
 ·rename_i c u x;have D:args.length<=fn.ntmps:=Nat.le_of_ble_eq_true x;split at h
  ·exact h.elim
  rename_i hq;refine(callsIn_wide (n:=0)).1 (callsIn_of_wp_marks (F:=WF none) s u trivial ?_);have y:Rep fn.ntmps ⟨num 0 args,λ_=>undef,[]⟩ {tmps:=(⟨args⟩:Array Value)++Array.replicate (fn.ntmps - (⟨args⟩:Array Value).size) undef,defers:= []}:=by
   refine⟨by simp;omega,λi=>?_,rfl⟩;rw[uH];simp only[Nat.zero_le,Nat.sub_zero,true_and,Array.getD_eq_getD_getElem?];by_cases hi:i<args.length
   ·rw[dif_pos hi,Array.getElem?_append_left (by simpa using hi)];simp[hi]
   ·rw[dif_neg hi,Array.getElem?_append_right (by simpa using hi)];rw[Array.getElem?_replicate];split<;>rfl
  refine wpIn_mono (fI t hm c false Qp none (λ_=>rfl) m _ _ _ w y h) λe a' w' he=>?_;cases e
  case normal=>
   obtain⟨fr,b,d,_⟩:=he;show LeavesInM _ _ _ _ _ _ _ _ _;rw[b.defers];exact ou (λv w j=>.inl ⟨v,rfl,j⟩) b.get _ _ d
  case ret=>
   obtain⟨fr,b,d,_⟩:=he;show LeavesInM _ _ _ _ _ _ _ _ _;rw[b.defers];exact ou (λv w j=>.inl ⟨v,rfl,j⟩) b.get _ _ d
  case panic ch=>
   obtain⟨p,z⟩:=he;cases Qp with
   |none=>exact p.elim
   | some q=>
    simp only[EC,Bool.true_and]at hq;have hd:=z.defers (λhm=>by rw[List.elem_iff.2 hm]at hq;cases hq);show LeavesInM _ _ _ _ _ _ _ _ _;rw[hd];exact .inr ⟨ch,rfl,p⟩
  case outgrown=>exact he.elim
  all_goals obtain⟨_,_,h,_⟩:=he;exact h.elim
 ·exact h.elim
theorem wg {f:FuncId}{fn:Func}{args:List Value}{b:Ann}{R:bq}{w:World}(d:P.funcs[f]? =some fn)(i:gn P C=true)(hm:P.follows .mixedOrders=true)
 (h:vcF P C N fn b args R none w):Calls P f ⟨args⟩ w λe w'=>∃v,e=.returned v/\R v w':=
 (BC d i hm h).mono λe w' he=>by
  rcases he with he|⟨_,_,he⟩
  ·exact he
  ·exact he.elim
end
end
section
theorem av {x:Int}(h: -9223372036854775808<=x/\x<=9223372036854775807):i64.wrap x=x:=IntWalk.i64_in x h
theorem u8_eq(x:Int):IntKind.u8.wrap x=x % 256:=by rw[IntKind.wrap_u8]
theorem u32_eq(x:Int):u32.wrap x=x % 4294967296:=by rw[wrap_u32]
theorem bp {x:Int}(h:0<=x/\x<4294967296):u32.wrap x=x:=by rw[u32_eq];omega
variable {P:Program}{w w0 w1 w2 w3 w':World}{g g':Nat}{cs cs':Array Value}{T T':TypeId}{X Y Z:Nat->Prop}{v:Value}
theorem Blk.lt(h:Blk w g cs T):g<w.heap.size:=(Array.getElem?_eq_some_iff.1 h).1
theorem Blk.cell(h:Blk w g cs T){i:Nat}(hi:cs[i]? =some v):w.cell? ⟨g,i,none⟩=some v:=by
 unfold Blk at h;simp[World.cell?,h,hi]
theorem Blk.at(h:Blk w g cs T){i:Nat}(hi:cs[i]? =some v):w.cell? ((Addr.mk g 0 none).add i)=some v:=by
 rw[cm,Nat.zero_add];exact h.cell hi
theorem Blk.kept {B:Nat->Prop}(h:Blk w g cs T)(b:Kept B w w')(d:B g):Blk w' g cs T:=(b.block g d).trans h
theorem Blk.drew(h:Blk w g cs T):Blk w.drew g cs T:=h
theorem Blk.inj(h:Blk w g cs T)(b:Blk w g cs' T'):cs=cs'/\T=T':=by
 unfold Blk at h b;rw[h]at b;simpa using b
theorem Kept.drew {B:Nat->Prop}(h:Kept B w w'):Kept B w w'.drew:=⟨h.os,h.tape,h.output,h.size,h.block⟩
structure Made(w:World)(g:Nat)(cs:Array Value)(T:TypeId)(w2:World):Prop where
 num:g=w.heap.size
 blk:Blk w2 g cs T
 kept:Kept (λk=>k<w.heap.size) w w2
 size:w2.heap.size=w.heap.size+1
theorem made(b:g=w.heap.size)(hw:w2=w.alloc (.cells cs T)):Made w g cs T w2:=by
 subst b;subst hw;exact⟨rfl,World.alloc_heap_new w _,Kept.Dw w _,by simp⟩
structure Ch(X:Nat->Prop)(w0 w:World):Prop where
 kept:Kept (λk=>k<w0.heap.size/\¬X k) w0 w
abbrev Pu(w0 w:World):Prop:=Ch (λ_=>False) w0 w
theorem Ch.refl(X:Nat->Prop)(w:World):Ch X w w:=⟨Kept.refl _ _⟩
theorem Ch.size(h:Ch X w0 w):w0.heap.size<=w.heap.size:=h.kept.size
theorem Ch.call(h:Ch X w0 w)(k:Ch Y w w2)(b:∀k,Y k->X k\/w0.heap.size<=k):Ch X w0 w2:=
 ⟨h.kept.trans (k.kept.mono λi hi=>⟨Nat.lt_of_lt_of_le hi.1 h.size,λd=>(b i d).elim hi.2 (λhle=>absurd hi.1 (by omega))⟩)⟩
theorem Ch.trans(h:Ch X w0 w)(k:Ch X w w2):Ch X w0 w2:=h.call k λ_ h=>.inl h
theorem Ch.pu(h:Ch X w0 w)(k:Pu w w2):Ch X w0 w2:=h.call k λ_ h=>h.elim
theorem Ch.made(h:Ch X w0 w)(hm:Made w g cs T w2):Ch X w0 w2:=
 h.pu ⟨hm.kept.mono λ_ h=>h.1⟩
theorem Ch.stored(h:Ch X w0 w)(hs:cJ w g cs T w2)(b:X g\/w0.heap.size<=g):Ch X w0 w2:=
 h.call (Y:=λk=>k=g) ⟨hs.kept.mono λ_ h=>h.2⟩ λk d=>by cases d;exact b
theorem Ch.drew(h:Ch X w0 w):Ch X w0 w.drew:=⟨h.kept.drew⟩
theorem Ch.mono(h:Ch X w0 w)(d:∀k,X k->Y k):Ch Y w0 w:=⟨h.kept.mono λk b=>⟨b.1,λh=>b.2 (d k h)⟩⟩
theorem Ch.blk(h:Ch X w0 w)(b:Blk w0 g cs T)(d:¬X g):Blk w g cs T:=b.kept h.kept ⟨b.lt,d⟩
theorem Pu.blk(h:Pu w0 w)(b:Blk w0 g cs T):Blk w g cs T:=Ch.blk h b (by simp)
theorem Ch.jK {B:Nat->Prop}(h:Ch X w0 w)(b:∀k,B k->k<w0.heap.size/\¬X k):Kept B w0 w:=h.kept.mono b
theorem Pu.jK {B:Nat->Prop}(h:Pu w0 w)(b:∀k,B k->k<w0.heap.size):Kept B w0 w:=h.kept.mono λk d=>⟨b k d,by simp⟩
theorem Kept.pu(h:Kept (λk=>k<w.heap.size) w w2):Pu w w2:=⟨h.mono λ_ h=>h.1⟩
theorem Made.pu(h:Made w g cs T w2):Pu w w2:=h.kept.pu
theorem Pu.aR(w:World):Pu w w.drew:=(Ch.refl _ w).drew
theorem Made.old(h:Made w g cs T w2)(b:Blk w g' cs' T'):Blk w2 g' cs' T':=b.kept h.kept b.lt
theorem Made.lt(h:Made w g cs T w2):g<w2.heap.size:=h.blk.lt
theorem cJ.old(h:cJ w g cs T w2)(b:Blk w g' cs' T')(d:g'≠g):Blk w2 g' cs' T':=b.kept h.kept d
theorem aZ {K:World->Prop}{i:Nat}{vs:List Value}(b:Blk w g cs T)(hi:i+vs.length<=cs.size)(h:∀w2,cJ w g (setAt cs i vs) T w2->K w2):aF w ((Addr.mk g 0 none).add i) vs K:=
 ⟨g,i,cs,T,by rw[cm,Nat.zero_add],b,hi,h⟩
theorem bU {K:World->Prop}{vs:List Value}(b:Blk w g cs T)(hi:vs.length<=cs.size)(h:∀w2,cJ w g (setAt cs 0 vs) T w2->K w2):aF w (Addr.mk g 0 none) vs K:=
 ⟨g,0,cs,T,rfl,b,by omega,h⟩
theorem jC {K:World->Prop}{i:Nat}{vs:List Value}(b:Blk w g cs T)(hi:i+vs.length<=cs.size)(h:∀w2,cJ w g (setAt cs i vs) T w2->K w2):aF w (Addr.mk g i none) vs K:=
 ⟨g,i,cs,T,rfl,b,hi,h⟩
theorem kD(cs:Array Value)(i:Nat)(v:Value):setAt cs i [v]=cs.setIfInBounds i v:=rfl
theorem fJ:∀(vs:List Value)(cs:Array Value)(o i:Nat),o+vs.length<=cs.size->(setAt cs o vs)[i]? =if o<=i/\i<o+vs.length then vs[i - o]? else cs[i]?
 | [],cs,o,i,_=>by simp[setAt];intro b d;omega
 | v::r,cs,o,i,h=>by
  simp only[List.length_cons]at h;rw[setAt,fJ r _ (o+1) i (by simp;omega)];by_cases b:o+1<=i/\i<o+1+r.length
  ·rw[if_pos b,if_pos (by simp;omega)];obtain⟨j,rfl⟩:∃j,i=o+1+j:=⟨i - (o+1),by omega⟩;rw[show o+1+j - (o+1)=j by omega,show o+1+j - o=j+1 by omega];rfl
  ·rw[if_neg b];by_cases d:i=o
   ·subst d;rw[if_pos (by simp)];simp[Array.getElem?_setIfInBounds];omega
   ·rw[if_neg (by simp;omega),Array.getElem?_setIfInBounds,if_neg (by omega)]
structure eE(w:World)(Z:Nat->Prop)(k:IntKind)(A:Option Addr)(n c:Nat)(l:List Int):Prop where
 len:l.length=n
 cap:n<=c
 cell:∀j x,l[j]? =some x->∃p,A=some p/\Z p.block/\w.cell? (p.add j)=some (.int k x)
section
variable {k:IntKind}{A:Option Addr}{n c:Nat}{l:List Int}
theorem add_add(p:Addr)(i j:Nat):(p.add i).add j=p.add (i+j):=by
 unfold Addr.add;by_cases hi:i=0<;>by_cases b:j=0<;>simp[hi,b,Nat.add_assoc]
theorem Blk.at2(h:Blk w g cs T){i j:Nat}(hi:cs[i+j]? =some v):w.cell? (((Addr.mk g 0 none).add i).add j)=some v:=by
 rw[add_add];exact h.at hi
theorem eE.kept {B:Nat->Prop}(h:eE w Z k A n c l)(d:Kept B w w')(f:∀k,Z k->B k):eE w' Z k A n c l:=
 ⟨h.len,h.cap,λj x i=>by
  obtain⟨p,m,b,q⟩:=h.cell j x i;exact⟨p,m,b,(d.cell (by rw[block_add];exact f _ b)).trans q⟩⟩
theorem eE.ch(h:eE w Z k A n c l)(f:Ch X w w')(i:∀k,Z k->¬X k):eE w' Z k A n c l:=
 ⟨h.len,h.cap,λj x m=>by
  obtain⟨p,q,b,d⟩:=h.cell j x m;refine⟨p,q,b,(f.kept.cell ⟨World.block_lt_of_cell? w _ d,?_⟩).trans d⟩;rw[block_add];exact i _ b⟩
theorem eE.pu(h:eE w Z k A n c l)(b:Pu w w'):eE w' Z k A n c l:=h.ch b (by simp)
theorem eE.mono(h:eE w Z k A n c l)(b:∀k,Z k->Y k):eE w Y k A n c l:=
 ⟨h.len,h.cap,λj x d=>by
  obtain⟨p,f,i,m⟩:=h.cell j x d;exact⟨p,f,b _ i,m⟩⟩
theorem eE.drew(h:eE w Z k A n c l):eE w.drew Z k A n c l:=⟨h.len,h.cap,h.cell⟩
theorem eE.nil:eE w Z k none 0 c []:=⟨rfl,Nat.zero_le _,by simp⟩
theorem eE.blk(h:Blk w g cs T)(b:Z g){m:Nat}(d:n<=c)(f:l.length=n)(hm:∀j x,l[j]? =some x->cs[m+j]? =some (.int k x)):eE w Z k (some (Addr.mk g m none)) n c l:=
 ⟨f,d,λj x i=>⟨_,rfl,b,by rw[cm];exact h.cell (hm j x i)⟩⟩
theorem eE.rd {i:Int}{K:Int->Prop}(h:eE w Z k A n c l)(d:0<=i)(f:i<(n:Int))(j:K (l.getD i.toNat 0)):
 (0<=i/\i<((n:Nat):Int))/\ay A λp=>∃x:Int,w.cell? (p.add (i.toNat *1))=some (.int k x)/\K x:=by
 have s:=h.len;have b:i.toNat<l.length:=by omega
 obtain⟨p,m,_,q⟩:=h.cell i.toNat _ (List.getElem?_eq_getElem b);refine⟨⟨d,f⟩,ar p m ⟨_,by rw[Nat.mul_one];exact q,?_⟩⟩
 rwa[List.getD_eq_getElem?_getD,List.getElem?_eq_getElem b]at j
theorem eE.rdB {i:Int}{B:Nat->Prop}{K:Int->Prop}(h:eE w Z k A n c l)(d:0<=i)(f:i<(n:Int))(j:∀k,Z k->B k)(m:K (l.getD i.toNat 0)):
 (0<=i/\i<((n:Nat):Int))/\ay A λp=>B ((p.add (i.toNat *1)).block)/\∃x:Int,w.cell? (p.add (i.toNat *1))=some (.int k x)/\K x:=by
 have u:=h.len;have b:i.toNat<l.length:=by omega
 obtain⟨p,q,s,t⟩:=h.cell i.toNat _ (List.getElem?_eq_getElem b);refine⟨⟨d,f⟩,ar p q ⟨by rw[block_add];exact j _ s,_,by rw[Nat.mul_one];exact t,?_⟩⟩
 rwa[List.getD_eq_getElem?_getD,List.getElem?_eq_getElem b]at m
theorem eE.cut {lo hi m:Nat}{A':Option Addr}{n' c':Nat}(h:eE w Z k A n c l)(d:A'=(if m=lo then A else A.map (·.add (lo*1))))(s:n'=hi - lo)(t:c'=m - lo)(u:lo<=hi)(y:hi<=n)(z:hi<=m):
 eE w Z k A' n' c' ((l.take hi).drop lo):=by
 have D:=h.len;refine⟨by simp;omega,by omega,λj x b=>?_⟩;rw[List.getElem?_drop,List.getElem?_take]at b;split at b
 ·rename_i E;obtain⟨p,f,i,q⟩:=h.cell _ x b;rw[if_neg (by omega)]at d;subst f;refine⟨p.add (lo*1),by rw[d];rfl,by rw[block_add];exact i,?_⟩;rw[add_add,Nat.mul_one];exact q
 ·cases b
end
end
section
variable {P:Program}{w w0 w1 w2 w3 w':World}{g g':Nat}{cs cs':Array Value}{T T':TypeId}{X Y Z:Nat->Prop}{v:Value}
theorem Blk.cast(h:Blk w g cs T)(e:cs'=cs):Blk w g cs' T:=e▸h
theorem mkd {K:Nat->World->Prop}(h:∀g w2,Made w g cs T w2->K g w2):∀(g:Nat)(w2:World),g=w.heap.size->w2=w.alloc (.cells cs T)->K g w2:=
 λg w2 b hw=>h g w2 (made b hw)
theorem Made.lo(m:Made w g cs T w2)(b:Ch X w0 w):w0.heap.size<=g:=by rw[m.num];exact b.size
theorem Made.ne(m:Made w g cs T w2)(b:Blk w g' cs' T'):g'≠g:=by have:=b.lt;rw[m.num];omega
theorem Made.off(m:Made w g cs T w2)(h:∀k,X k->k<w.heap.size):¬X g:=λb=>by have:=h g b;rw[m.num]at this;omega
theorem cJ.ch(s:cJ w g cs T w2):Ch (λk=>k=g) w w2:=⟨s.kept.mono λ_ h=>h.2⟩
def bX(w:World)(Y:Nat->Prop):Nat->Prop:=λk=>k<w.heap.size/\¬Y k
theorem bX.ld(b:Blk w g cs T)(d:¬Y g)(i:Nat):bX w Y ((Addr.mk g 0 none).add i).block:=by
 rw[block_add];exact⟨b.lt,d⟩
theorem bX.lt(h:g<w.heap.size)(b:¬Y g):bX w Y g:=⟨h,b⟩
def bXU(U V:List Nat)(w:World)(Y:Nat->Prop):Nat->Nat->Prop:=λi k=>V.elem i=true\/(U.elem i=true/\bX w Y k)
theorem bXU.any {U V l:List Nat}(b:l.all (λi=>!(V.elem i))=true){k:Nat}(h:bD (bXU U V w Y) l k):bX w Y k:=by
 induction l with
 |nil=>exact h.elim
 | cons i r d=>
  simp only[List.all_cons,Bool.and_eq_true,Bool.not_eq_true']at b;have hd:bXU U V w Y i k->bX w Y k:=λh=>h.elim (λh=>by rw[b.1]at h;cases h) (·.2);cases r with
  |nil=>exact hd h
  |cons j r=>exact h.elim hd (d b.2)
theorem bXU.more {U V l:List Nat}{F:(Nat->Nat->Prop)->Prop}(q:Ch Z w w2)(j:∀k,Z k->Y k\/w.heap.size<=k)(m:l.all (λi=>!(V.elem i))=true)(h:F (bXU U V w2 Y)):Kept (bD (bXU U V w Y) l) w w2/\∃f:Nat->Nat->Prop,(∀i k,bXU U V w Y i k->f i k)/\F f:=
 ⟨q.kept.mono λk b=>by
  have d:=bXU.any m b;exact⟨d.1,λp=>(j k p).elim d.2 λh=>absurd d.1 (Nat.not_lt.2 h)⟩,_,λi k b=>b.imp id λhu=>⟨hu.1,Nat.lt_of_lt_of_le hu.2.1 q.size,hu.2.2⟩,h⟩
theorem bXU.eH {U V l:List Nat}{F:(Nat->Nat->Prop)->Prop}(q:Pu w w2)(d:l.all (λi=>!(V.elem i))=true)(h:F (bXU U V w2 Y)):Kept (bD (bXU U V w Y) l) w w2/\∃b:Nat->Nat->Prop,(∀i k,bXU U V w Y i k->b i k)/\F b:=
 bXU.more q (λ_ h=>h.elim) d h
theorem bXU.grow {U V:List Nat}{F:(Nat->Nat->Prop)->Prop}(q:Ch Z w w2)(h:F (bXU U V w2 Y)):∃b:Nat->Nat->Prop,(∀i k,bXU U V w Y i k->b i k)/\F b:=
 ⟨_,λi k d=>d.imp id λhu=>⟨hu.1,Nat.lt_of_lt_of_le hu.2.1 q.size,hu.2.2⟩,h⟩
theorem bXU.M8 {V:List Nat}:∀ {l:List Nat}(_:l.all (λi=>!(V.elem i))=true){k:Nat},¬bD (bXU [] V w Y) l k
 | [],_,_,h=>h
 | [i],b,k,h=>by
  simp only[List.all_cons,Bool.and_eq_true,Bool.not_eq_true']at b;rcases h with h|h
  ·rw[b.1]at h;cases h
  ·cases h.1
 | i::j::r,b,k,h=>by
  simp only[List.all_cons,Bool.and_eq_true,Bool.not_eq_true']at b;rcases h with(h|h)|h
  ·rw[b.1]at h;cases h
  ·cases h.1
  ·exact bXU.M8 (l:=j::r) (by simp only[List.all_cons,Bool.and_eq_true,Bool.not_eq_true'];exact b.2) h
theorem bXU.uB {V l:List Nat}{F:(Nat->Nat->Prop)->Prop}(q:Ch Z w w2)(f:l.all (λi=>!(V.elem i))=true)(h:F (bXU [] V w2 Y)):Kept (bD (bXU [] V w Y) l) w w2/\∃d:Nat->Nat->Prop,(∀i k,bXU [] V w Y i k->d i k)/\F d:=
 ⟨q.kept.mono λ_ b=>absurd b (bXU.M8 f),_,λ_ _ b=>b.imp id λhu=>(by cases hu.1),h⟩
theorem LJ {a0 b d f:Value}(h:a0=d)(i:b=f):(#[a0,b]:Array Value)= #[d,f]:=by subst h;subst i;rfl
theorem BG {a0 b d f h i j m p q s t u x y z:Value}(D:a0=p)(E:b=q)(G:d=s)(H:f=t)(I:h=u)(J:i=x)(K:j=y)(L:m=z):(#[a0,b,d,f,h,i,j,m]:Array Value)= #[p,q,s,t,u,x,y,z]:=by subst D;subst E;subst G;subst H;subst I;subst J;subst K;subst L;rfl
theorem cr {x y:Prop}(h:x):split true x y:=aj (λ_=>h) (λe=>nomatch e)
theorem fy {x y:Prop}(h:y):split false x y:=aj (λe=>nomatch e) (λ_=>h)
theorem aD {p:Prop} [Decidable p]{x y:Prop}(b:p->x)(d:¬p->y):split (decide p) x y:=
 aj (λh=>b (of_decide_eq_true h)) (λh=>d (of_decide_eq_false h))
theorem CL {p:Prop} [Decidable p]{x y:Prop}(b:¬p->x)(d:p->y):split (!decide p) x y:=
 aj (λh=>b (by simpa using h)) (λh=>d (by simpa using h))
theorem cH {b:Bool}{x y:Prop}(d:b=false->x)(f:b=true->y):split (!b) x y:=
 aj (λh=>d (by simpa using h)) (λh=>f (by simpa using h))
theorem aM {a b:Int}{x y:Prop}(d:a=b->x)(f:¬a=b->y):split (a==b) x y:=
 aj (λh=>d (by simpa using h)) (λh=>f (by simpa using h))
theorem aH {a b:Int}{x y:Prop}(d:¬a=b->x)(f:a=b->y):split (a !=b) x y:=
 aj (λh=>d (by simpa using h)) (λh=>f (by simpa using h))
theorem aQ {a b:Bool}{x y:Prop}(d:a=true\/b=true->x)(f:a=false/\b=false->y):split (a || b) x y:=
 aj (λh=>d (by simpa using h)) (λh=>f (by simpa using h))
theorem cZ {a b:Bool}{x y:Prop}(d:a=true/\b=true->x)(f:¬(a=true/\b=true)->y):split (a && b) x y:=
 aj (λh=>d (by simpa using h)) (λh=>f (by simpa using h))
end
section
variable {P:Program}{w w0 w1 w2 w3 w':World}{g g':Nat}{cs cs':Array Value}{T T':TypeId}{X Y Z:Nat->Prop}{v:Value}
structure S1(P:Program)(t e:TypeId)(z:Value)(bytes:Nat):Prop where
 und:P.underlying t=some (.slice e)
 info:∃i,P.info? e=some i/\i.zero=some z/\i.size=1/\i.bytes=bytes
 cells:z.cells= #[z]
theorem S1.of {t e:TypeId}{z:Value}{bytes:Nat}(h:P.underlying t=some (.slice e))(b:(P.info? e).map (λi=>(i.zero,i.size,i.bytes))=some (some z,1,bytes))(d:z.cells= #[z]):S1 P t e z bytes:=by
 refine⟨h,?_,d⟩;cases hi:P.info? e with
 |none=>rw[hi]at b;cases b
 |some i=>rw[hi]at b;simp at b;exact⟨i,rfl,b.1,b.2.1,b.2.2⟩
structure SN(P:Program)(t e:TypeId)(z:Value)(size bytes:Nat):Prop where
 und:P.underlying t=some (.slice e)
 info:∃i,P.info? e=some i/\i.zero=some z/\i.size=size/\i.bytes=bytes
 cells:z.cells.size=size
 pos:0<size
theorem SN.of {t e:TypeId}{z:Value}{size bytes:Nat}(h:P.underlying t=some (.slice e))(b:(P.info? e).map (λi=>(i.zero,i.size,i.bytes))=some (some z,size,bytes))(d:z.cells.size=size)(f:0<size):SN P t e z size bytes:=by
 refine⟨h,?_,d,f⟩;cases hi:P.info? e with
 |none=>rw[hi]at b;cases b
 |some i=>rw[hi]at b;simp at b;exact⟨i,rfl,b.1,b.2.1,b.2.2⟩
theorem S1.sn {t e:TypeId}{z:Value}{bytes:Nat}(h:S1 P t e z bytes):SN P t e z 1 bytes:=⟨h.und,h.info,by rw[h.cells];rfl,by omega⟩
theorem nr {t e:TypeId}{z:Value}{bytes:Nat}(h:S1 P t e z bytes){n:Int}(d:0<=n)(f:(bytes:Int)*n<=281474976710656)(j:n<=9223372036854775807){K:Option Addr->Nat->Nat->World->Prop}
 (m:∀g w2,Made w g (Array.replicate n.toNat z) e w2->K (some (Addr.mk g 0 none)) n.toNat n.toNat w2):
 ∃(A:Option Addr)(N C:Nat)(w2:World),(Instr.makeSlice t (.int .i64 n) (.int .i64 n):Sem Value).run P w=.ok (.slice A N C) w2/\K A N C w2:=by
 obtain⟨i,hi,p,hs,q⟩:=h.info;have b:=run_make (P:=P) w t e i z h.und hi p .i64 .i64 n n d (Int.le_refl _) (by rw[q];exact f) j;have hm:madeCells z.cells (n.toNat *i.size)=Array.replicate n.toNat z:=by
  apply Array.ext';rw[h.cells,hs,Nat.mul_one,toList_madeCells_one];simp
 rw[hm]at b;exact⟨_,_,_,_,b,m _ _ (made rfl rfl)⟩
theorem gJ(g:Nat)(T:TypeId):∀(vs:List Value)(o:Nat)(w:World)(cs:Array Value),Blk w g cs T->cJ w g (setAt cs o vs) T (w.setCells g o vs)
 | [],o,w,cs,h=>⟨h,Kept.refl _ _,rfl⟩
 | v::r,o,w,cs,h=>by
  have b:=h.set o v;exact b.trans (gJ g T r (o+1) _ _ b.blk)
theorem H4 {t e ty:TypeId}{z:Value}{bytes:Nat}(h:S1 P t e z bytes)(d:z.oneCell'=true)(b:Blk w g cs T){o n c:Nat}(f:0<n)(hs:o+n<=cs.size){K:World->Prop}
 (m:∀w2,cJ w g (setAt cs o (List.replicate n z)) T w2->K w2):
 ∃w2,(Builtin.clear_ #[t] ty #[.slice (some (Addr.mk g o none)) n c]:Sem Value).run P w=.ok (.tuple #[]) w2/\K w2:=by
 obtain⟨i,hi,p,_,_⟩:=h.info;have q:∀w,(zeroValue e).run P w=.ok z w:=λw=>by simp[zeroValue,typeInfo,hi,p]
 have s:∀j,j<n->(w.cell? ⟨g,o+j,none⟩).isSome=true:=λj u=>by
  have:cs[o+j]? =some (cs[o+j]'(by omega)):=Array.getElem?_eq_getElem (by omega);rw[b.cell this];rfl
 have x:∀j,j<n->w.frozen? ⟨g,o+j,none⟩=false:=λj u=>by
  unfold Blk at b;simp[World.frozen?,b]
 exact⟨_,Go.Lib.run_clear_slice w t e ty z h.und q h.cells d g o n c f s x,m _ (gJ g T _ o w cs b)⟩
theorem pX {dT sT ty e:TypeId}{k:IntKind}{bytes:Nat}(h:S1 P dT e (.int k 0) bytes)(d:Blk w g cs T){o dn dc:Nat}{A:Option Addr}{n c:Nat}{l:List Int}(m:eE w Z k A n c l)(hs:o+min n dn<=cs.size){K:World->Prop}
 (q:∀w2,cJ w g (setAt cs o ((l.take (min n dn)).map (Value.int k))) T w2->K w2):
 ∃(x:Int)(w2:World),(Builtin.copy_ #[dT,sT] ty #[.slice (some (Addr.mk g o none)) dn dc,.slice A n c]:Sem Value).run P w=.ok (.int .i64 x) w2/\K w2:=by
 obtain⟨i,hi,_,s,_⟩:=h.info;have t:(P.info? e).map (·.size)=some 1:=by rw[hi];simp[s]
 have hlen:=m.len;cases A with
 | none=>
  have y:n=0:=by
   cases l with
   |nil=>simpa using hlen.symm
   |cons x r=>obtain⟨p,f,_⟩:=m.cell 0 x rfl;cases f
  subst y;refine⟨0,w,?_,q w ?_⟩
  ·simp[Builtin.copy_,run_underlying h.und,Builtin.lenOf,Builtin.firstCells,sizeOf,typeInfo,hi,storeCells,goInt]
  ·simpa[setAt]using (⟨d,Kept.refl _ _,rfl⟩:cJ w g cs T w)
 | some a=>
  have hm:((l.take (min n dn)).map (Value.int k)).length=Nat.min n dn:=by
   rw[List.length_map,List.length_take,hlen];show min (min n dn) n=min n dn;omega
  have z:=run_copy_cells (P:=P) w dT sT ty e g o dn dc a n c ((l.take (min n dn)).map (Value.int k)) h.und t hm
   (by
    intro j u hu;rw[List.getElem?_map,List.getElem?_take]at hu;split at hu
    ·cases b:l[j]? with
     |none=>rw[b]at hu;cases hu
     | some x=>
      rw[b]at hu;injection hu with hu
      subst hu;obtain⟨p,f,_,D⟩:=m.cell j x b;injection f with f
      subst f;exact D
    ·cases hu)
   (by
    intro j b;rw[hm]at b;have E:j<min n dn:=b;have:cs[o+j]? =some (cs[o+j]'(by omega)):=Array.getElem?_eq_getElem (by omega);rw[d.cell this];rfl)
   (by
    intro j b;unfold Blk at d;simp[World.frozen?,d])
   (by
    intro u hu;obtain⟨x,_,rfl⟩:=List.mem_map.1 hu;rfl)
  exact⟨_,_,z,q _ (gJ g T _ o w cs d)⟩
def gA(w:World)(Z:Nat->Prop)(e:TypeId)(size:Nat)(A:Option Addr)(n c:Nat)(xs:List Value):Prop:=w.ownsRow 0 e size (.slice A n c) n xs/\∀a,A=some a->Z a.block
section
variable {e:TypeId}{size:Nat}{A:Option Addr}{n c:Nat}{xs:List Value}
theorem gA.nil:gA w Z e size none 0 0 []:=⟨⟨by simp,.inl ⟨rfl,rfl⟩⟩,by simp⟩
theorem gA.len(h:gA w Z e size A n c xs):xs.length=n*size:=h.1.1
theorem gA.mono(h:gA w Z e size A n c xs)(b:∀k,Z k->Y k):gA w Y e size A n c xs:=⟨h.1,λa d=>b _ (h.2 a d)⟩
theorem gA.kept {B:Nat->Prop}(h:gA w Z e size A n c xs)(d:Kept B w w')(f:∀k,Z k->B k):gA w' Z e size A n c xs:=by
 refine⟨⟨h.1.1,?_⟩,h.2⟩;rcases h.1.2 with b|⟨g,cap,cur,b,i,j,rest⟩
 ·exact .inl b
 ·have m:A=some ⟨g,0,none⟩:=by injection b
  exact .inr ⟨g,cap,cur,b,i,by rw[d.block g (f _ (h.2 _ m))];exact j,rest⟩
theorem gA.ch(h:gA w Z e size A n c xs)(f:Ch X w w')(i:∀k,Z k->¬X k):gA w' Z e size A n c xs:=by
 refine⟨⟨h.1.1,?_⟩,h.2⟩;rcases h.1.2 with b|⟨g,cap,cur,b,j,d,rest⟩
 ·exact .inl b
 ·have m:A=some ⟨g,0,none⟩:=by injection b
  exact .inr ⟨g,cap,cur,b,j,by rw[f.kept.block g ⟨(Array.getElem?_eq_some_iff.1 d).1,i _ (h.2 _ m)⟩];exact d,rest⟩
theorem gA.pu(h:gA w Z e size A n c xs)(b:Pu w w'):gA w' Z e size A n c xs:=h.ch b (by simp)
theorem gA.H5(h:gA w Z e size A n c xs):n<=c:=by
 rcases h.1.2 with⟨b,d⟩|⟨g,cap,cur,b,_,_,f,_⟩
 ·omega
 ·injection b with _ _ i;omega
theorem gA.cell(h:gA w Z e size A n c xs){j:Nat}(b:xs[j]? =some v):∃g,A=some (Addr.mk g 0 none)/\Z g/\w.cell? ((Addr.mk g 0 none).add j)=some v:=by
 have i:=h.1.1;rcases h.1.2 with⟨d,m⟩|⟨g,cap,cur,d,s,p,t,u,x,q⟩
 ·have:xs= []:=List.eq_nil_of_length_eq_zero (by rw[i,m,Nat.zero_mul]);subst this;simp at b
 ·injection d with f _ _
  refine⟨g,f,h.2 _ f,?_⟩;rw[<-q,List.getElem?_take]at b;split at b
  ·exact Blk.at (show Blk w g cur e from p) (by simpa using b)
  ·cases b
theorem gA.blk(h:gA w Z e size A n c xs)(p:0<n):∃g cur,A=some (Addr.mk g 0 none)/\Z g/\Blk w g cur e/\n*size<=cur.size/\cur.toList.take (n*size)=xs:=by
 rcases h.1.2 with⟨_,q⟩|⟨g,cap,cur,d,s,f,i,t,j,m⟩
 ·omega
 ·injection d with b _ _
  exact⟨g,cur,b,h.2 _ b,f,by rw[j];exact Nat.mul_le_mul_right _ i,m⟩
theorem ze {t ty:TypeId}{z:Value}{bytes:Nat}(q:SN P t e z size bytes)(h:gA w Z e size A n c xs){a:Addr}{m d:Nat}{news:List Value}(I:news.length=m*size)
 (J:∀j u,news[j]? =some u->w.cell? (a.add j)=some u)(L:∀u∈news,u.oneCell'=true)(Te:n+m<=9223372036854775807)(M:(n+m)*bytes<=140737488355328){K:Option Addr->Nat->Nat->World->Prop}
 (y:∀A' c' w2,gA w2 (λk=>Z k\/k=w.heap.size) e size A' (n+m) c' (xs++news)->Ch (λk=>∃b,A=some b/\b.block=k) w w2->K A' (n+m) c' w2):
 ∃(A':Option Addr)(n' c':Nat)(w2:World),(Builtin.append_ #[t,t] ty #[.slice A n c,.slice (some a) m d]:Sem Value).run P w=.ok (.slice A' n' c') w2/\K A' n' c' w2:=by
 obtain⟨i,hi,O,R,V⟩:=q.info;obtain⟨v',w2,D,s,p,_,W⟩:=run_append_own_at (P:=P) w 0 t ty e i z size bytes q.und hi O R V q.cells q.pos (.slice A n c) n xs h.1 a m d news I J L (by simp only[maxLen];omega) M (Nat.zero_le _);have E:Ch (λk=>∃b,A=some b/\b.block=k) w w2:=by
  refine⟨⟨p.os,p.tape,p.output,p.size,λk G=>p.block k G.1 λe=>G.2 ?_⟩⟩;cases A with
  |none=>cases e
  |some b=>exact⟨b,rfl,by simpa[Value.ownBlock]using e.symm⟩
 have UQ:∀A':Option Addr,(Value.slice A' (n+m) 0).ownBlock=(Value.slice A n c).ownBlock\/(Value.slice A' (n+m) 0).ownBlock=some w.heap.size->∀b,A'=some b->Z b.block\/b.block=w.heap.size:=by
  rintro A' (f|f) b rfl
  ·cases A with
   |none=>simp[Value.ownBlock]at f
   |some b'=>simp[Value.ownBlock]at f;rw[f];exact .inl (h.2 b' rfl)
  ·simp[Value.ownBlock]at f;exact .inr f
 rcases s.2 with⟨x,H⟩|⟨g,cap,cur,x,rest⟩
 ·subst x;refine⟨none,0,0,w2,D,?_⟩;have:=y none 0 w2 ⟨by rw[H]at s ⊢;exact s,by simp⟩ E
  rwa[H]at this
 ·subst x;exact⟨_,_,_,w2,D,y _ _ _ ⟨s,UQ _ (by simpa[Value.ownBlock]using W)⟩ E⟩
end
end
section
variable {P:Program}{w w0 w1 w2 w3 w':World}{g g':Nat}{cs cs':Array Value}{T T':TypeId}{X Y Z:Nat->Prop}{v:Value}
class Enc (α:Type) where
 enc:α→List Value
 size:Nat
 len:∀x,(enc x).length=size
 one:∀x,∀u∈enc x,u.oneCell'=true
 pos:0<size
open Enc (enc)
structure I64 where
 v:Int
structure U32 where
 v:Int
abbrev uM(x:Int):U32:=U32.mk x
abbrev vG(l:List U32)(i:Nat):Int:=(l.getD i (U32.mk 0)).v
structure U8 where
 v:Int
structure Bl where
 v:Bool
instance:Enc I64:=⟨λx=>[.int .i64 x.v],1,λ_=>rfl,by simp[Value.oneCell'],by omega⟩
instance:Enc U32:=⟨λx=>[.int .u32 x.v],1,λ_=>rfl,by simp[Value.oneCell'],by omega⟩
instance:Enc U8:=⟨λx=>[.int .u8 x.v],1,λ_=>rfl,by simp[Value.oneCell'],by omega⟩
instance:Enc Bl:=⟨λx=>[.bool x.v],1,λ_=>rfl,by simp[Value.oneCell'],by omega⟩
section
variable {α:Type} [Enc α]
structure Rd(w:World)(Z:Nat->Prop)(A:Option Addr)(n c:Nat)(l:List α):Prop where
 len:l.length=n
 cap:n<=c
 lt:∀k,Z k->k<w.heap.size
 cell:∀(i:Nat)(x:α),l[i]? =some x->∃p,A=some p/\Z p.block/\∀j,j<Enc.size α->w.cell? ((p.add (i*Enc.size α)).add j)=(enc x)[j]?
variable {A:Option Addr}{n c:Nat}{l:List α}
theorem dw(x:α):(enc x).length=Enc.size α:=Enc.len x
theorem Rd.nil:Rd w (λ_=>False) none 0 c ([]:List α):=⟨rfl,Nat.zero_le _,by simp,by simp⟩
theorem Rd.ch(h:Rd w Z A n c l)(d:Ch X w w')(q:∀k,Z k->¬X k):Rd w' Z A n c l:=by
 refine⟨h.len,h.cap,λk s=>Nat.lt_of_lt_of_le (h.lt k s) d.size,λi x t=>?_⟩;obtain⟨p,u,f,m⟩:=h.cell i x t;refine⟨p,u,f,λj b=>?_⟩;rw[<-m j b];have:j<(enc x).length:=by rw[dw];exact b
 have y:=(m j b).trans (List.getElem?_eq_getElem this);exact d.kept.cell ⟨World.block_lt_of_cell? w _ y,by rw[block_add,block_add];exact q _ f⟩
theorem Rd.pu(h:Rd w Z A n c l)(b:Pu w w'):Rd w' Z A n c l:=h.ch b (by simp)
theorem Rd.mono(h:Rd w Z A n c l)(b:∀k,Z k->Y k)(d:∀k,Y k->k<w.heap.size):Rd w Y A n c l:=
 ⟨h.len,h.cap,d,λi x f=>by obtain⟨p,j,m,q⟩:=h.cell i x f;exact⟨p,j,b _ m,q⟩⟩
theorem Rd.ld(h:Rd w Z A n c l){i:Int}(m:0<=i)(q:i<(n:Int)):∃p x,A=some p/\l[i.toNat]? =some x/\Z p.block/\∀j,j<Enc.size α->w.cell? ((p.add (i.toNat *Enc.size α)).add j)=(enc x)[j]? :=by
 have s:=h.len;have hi:i.toNat<l.length:=by omega
 obtain⟨p,b,d,f⟩:=h.cell i.toNat _ (List.getElem?_eq_getElem hi);exact⟨p,_,b,List.getElem?_eq_getElem hi,d,f⟩
theorem Rd.u32 {l:List U32}(h:Rd w Z A n c l)(m:0<n):∃p,A=some p/\Z p.block/\∀i,i<n->w.cell? (p.add i)=some (.int .u32 (l.getD i ⟨0⟩).v):=by
 have s:=h.len;obtain⟨p,d,f,_⟩:=h.cell 0 _ (List.getElem?_eq_getElem (by omega));refine⟨p,d,f,λi hi=>?_⟩;obtain⟨q,b,_,j⟩:=h.cell i _ (List.getElem?_eq_getElem (by omega));rw[d]at b;injection b with b
 subst b;have:=j 0 (by decide);rw[add_add,Nat.add_zero,show i*Enc.size U32=i from Nat.mul_one i]at this;rw[this,List.getD_eq_getElem?_getD,List.getElem?_eq_getElem (show i<l.length by omega)];rfl
structure Own(w:World)(Z:Nat->Prop)(e:TypeId)(A:Option Addr)(n c:Nat)(l:List α):Prop where
 own:gA w Z e (Enc.size α) A n c (l.flatMap enc)
 len:l.length=n
theorem eY(l:List α):(l.flatMap enc).length=l.length*Enc.size α:=by
 induction l with
 |nil=>simp
 |cons x r b=>simp[b,dw,Nat.add_mul,Nat.add_comm]
theorem flat_get:∀(l:List α)(i j:Nat)(x:α),l[i]? =some x->j<Enc.size α->(l.flatMap enc)[i*Enc.size α+j]? =(enc x)[j]?
 | [],i,j,x,h,b=>by simp at h
 | y::r,0,j,x,h,b=>by
  simp at h;subst h;simp only[List.flatMap_cons,Nat.zero_mul,Nat.zero_add];rw[List.getElem?_append_left (by rw[dw];exact b)]
 | y::r,i+1,j,x,h,b=>by
  simp only[List.getElem?_cons_succ]at h;have d:=flat_get r i j x h b;rw[<-d,List.flatMap_cons,List.getElem?_append_right (by rw[dw,Nat.add_mul,Nat.one_mul];omega),dw];congr 1;rw[Nat.add_mul,Nat.one_mul];omega
variable {e:TypeId}
theorem Own.nil:Own w Z e none 0 0 ([]:List α):=⟨gA.nil,rfl⟩
theorem Own.mono(h:Own w Z e A n c l)(b:∀k,Z k->Y k):Own w Y e A n c l:=⟨h.own.mono b,h.len⟩
theorem Own.ch(h:Own w Z e A n c l)(b:Ch X w w')(d:∀k,Z k->¬X k):Own w' Z e A n c l:=⟨h.own.ch b d,h.len⟩
theorem Own.pu(h:Own w Z e A n c l)(b:Pu w w'):Own w' Z e A n c l:=h.ch b (by simp)
theorem Own.rd(h:Own w Z e A n c l):Rd w (λk=>Z k/\k<w.heap.size) A n c l:=by
 refine⟨h.len,h.own.H5,λk m=>m.2,λi x b=>?_⟩;have hi:i<l.length:=(List.getElem?_eq_some_iff.1 b).1;have p:0<n:=by have:=h.len;omega
 obtain⟨g,cur,q,s,d,_,t⟩:=h.own.blk p;refine⟨_,q,⟨s,d.lt⟩,λj u=>?_⟩;have y:=flat_get l i j x b u;rw[<-y,add_add,<-t,List.getElem?_take];have z:i*Enc.size α+j<n*Enc.size α:=by
  have D:(i+1)*Enc.size α<=n*Enc.size α:=Nat.mul_le_mul_right _ (by have:=h.len;omega);rw[Nat.add_mul,Nat.one_mul]at D;omega
 rw[if_pos z,cm,Nat.zero_add];have f:i*Enc.size α+j<cur.size:=by omega
 rw[d.cell (i:=i*Enc.size α+j) (v:=cur[i*Enc.size α+j]) (Array.getElem?_eq_getElem f)];simp[f]
theorem Own.lt(h:Own w Z e A n c l)(b:0<n):∃g,A=some (Addr.mk g 0 none)/\Z g/\g<w.heap.size:=by
 obtain⟨g,cur,d,f,i,_⟩:=h.own.blk b;exact⟨g,d,f,i.lt⟩
theorem Own.app {t ty:TypeId}{z:Value}{bytes:Nat}(h:Own w Z e A n c l)(d:SN P t e z (Enc.size α) bytes){g:Nat}{news:Array Value}{x:α}(f:Blk w g news e)(i:news.toList=enc x)(m:n+1<=9223372036854775807)(p:(n+1)*bytes<=140737488355328)(q:Z w.heap.size)
 {K:Option Addr->Nat->Nat->World->Prop}(s:∀A' c' w2,Own w2 Z e A' (n+1) c' (l++ [x])->Ch Z w w2->K A' (n+1) c' w2):
 ∃(A':Option Addr)(n' c':Nat)(w2:World),(Builtin.append_ #[t,t] ty #[.slice A n c,.slice (some (Addr.mk g 0 none)) 1 1]:Sem Value).run P w=.ok (.slice A' n' c') w2/\K A' n' c' w2:=by
 refine ze d h.own (news:=enc x) (by rw[dw,Nat.one_mul]) (λj u hu=>f.at (by rw[<-i]at hu;simpa using hu)) (Enc.one x) m p λA' c' w2 y D=>?_;refine s A' c' w2 ⟨?_,by simp[h.len]⟩ (D.mono ?_)
 ·rw[List.flatMap_append,List.flatMap_cons,List.flatMap_nil,List.append_nil];exact y.mono λk E=>E.elim id λe=>e▸q
 ·rintro k ⟨b,G,rfl⟩;exact h.own.2 b G
theorem Own.apps {t ty:TypeId}{z:Value}{bytes:Nat}(h:Own w Z e A n c l)(I:SN P t e z (Enc.size α) bytes){B:Option Addr}{m d:Nat}{l2:List α}(f:Rd w Y B m d l2)(J:n+m<=9223372036854775807)(L:(n+m)*bytes<=140737488355328)(M:Z w.heap.size)
 {K:Option Addr->Nat->Nat->World->Prop}(O:∀A' c' w2,Own w2 Z e A' (n+m) c' (l++l2)->Ch Z w w2->K A' (n+m) c' w2)
 (R:m=0->B=none->∃(A':Option Addr)(n' c':Nat)(w2:World),(Builtin.append_ #[t,t] ty #[.slice A n c,.slice none 0 d]:Sem Value).run P w=.ok (.slice A' n' c') w2/\K A' n' c' w2):
 ∃(A':Option Addr)(n' c':Nat)(w2:World),(Builtin.append_ #[t,t] ty #[.slice A n c,.slice B m d]:Sem Value).run P w=.ok (.slice A' n' c') w2/\K A' n' c' w2:=by
 cases B with
 | none=>
  have hm:m=0:=by
   cases s:l2 with
   |nil=>have:=f.len;rw[s]at this;simpa using this.symm
   |cons x r=>obtain⟨p,q,_⟩:=f.cell 0 x (by rw[s];rfl);cases q
  subst hm;exact R rfl rfl
 | some a=>
  refine ze I h.own (news:=l2.flatMap enc) (by rw[eY,f.len]) (λj u hu=>?_) (λu hu=>?_) J L λA' c' w2 V W=>?_
  ·have q:0<Enc.size α:=Enc.pos;have y:j<(l2.flatMap enc).length:=(List.getElem?_eq_some_iff.1 hu).1;rw[eY]at y;have hq:j / Enc.size α<l2.length:=(Nat.div_lt_iff_lt_mul q).2 y;have D:j % Enc.size α<Enc.size α:=Nat.mod_lt _ q;obtain⟨p,i,_,OO⟩:=f.cell (j / Enc.size α) _ (List.getElem?_eq_getElem hq);injection i with i
   subst i;have E:=OO (j % Enc.size α) D;have G:=flat_get l2 (j / Enc.size α) (j % Enc.size α) _ (List.getElem?_eq_getElem hq) D;have H:j / Enc.size α*Enc.size α+j % Enc.size α=j:=by rw[Nat.mul_comm];exact Nat.div_add_mod j (Enc.size α)
   rw[H]at G;rw[add_add,H]at E;rw[E,<-G,hu]
  ·obtain⟨x,_,hx⟩:=List.mem_flatMap.1 hu;exact Enc.one x u hx
  ·refine O A' c' w2 ⟨?_,by simp[h.len,f.len]⟩ (W.mono ?_)
   ·rw[List.flatMap_append];exact V.mono λk hk=>hk.elim id λe=>e▸M
   ·rintro k ⟨b,i,rfl⟩;exact h.own.2 b i
theorem Bb {t e:TypeId}{z:Value}{bytes:Nat}(h:S1 P t e z bytes)(x:α)(d:enc x= [z]){n:Int}(j:0<=n)(m:(bytes:Int)*n<=281474976710656)(p:n<=9223372036854775807){K:Option Addr->Nat->Nat->World->Prop}
 (q:∀g w2,Made w g (Array.replicate n.toNat z) e w2->Own w2 (λk=>k=g) e (some (Addr.mk g 0 none)) n.toNat n.toNat (List.replicate n.toNat x)->K (some (Addr.mk g 0 none)) n.toNat n.toNat w2):
 ∃(A:Option Addr)(N C:Nat)(w2:World),(Instr.makeSlice t (.int .i64 n) (.int .i64 n):Sem Value).run P w=.ok (.slice A N C) w2/\K A N C w2:=by
 have hs:Enc.size α=1:=by rw[<-dw x,d];rfl
 have f:(List.replicate n.toNat x).flatMap enc=List.replicate n.toNat z:=by
  generalize n.toNat=k
  induction k with
  |zero=>rfl
  |succ k s=>rw[List.replicate_succ,List.flatMap_cons,s,d];rfl
 refine nr h j m p λg w2 i=>q g w2 i ⟨⟨⟨by rw[f,hs];simp,.inr ⟨g,n.toNat,Array.replicate n.toNat z,rfl,Nat.zero_le _,i.blk,Nat.le_refl _,by simp only[maxLen];omega,by rw[hs];simp,by rw[hs,f];simp⟩⟩,?_⟩,by simp⟩;intro a b;injection b with b
 rw[<-b]
theorem Bh:∀(l:List α)(i:Nat)(x:α),i<l.length->(l.set i x).flatMap enc=((l.flatMap enc).take (i*Enc.size α))++enc x++((l.flatMap enc).drop ((i+1)*Enc.size α))
 | [],i,x,h=>by simp at h
 | y::r,0,x,h=>by
  simp only[List.set_cons_zero,List.flatMap_cons,Nat.zero_mul,List.take_zero,List.nil_append,Nat.zero_add,Nat.one_mul];rw[List.drop_append_of_le_length (by rw[dw];omega),List.drop_of_length_le (by rw[dw];omega),List.nil_append]
 | y::r,i+1,x,h=>by
  have b:=Bh r i x (by simpa using h);simp only[List.set_cons_succ,List.flatMap_cons];rw[b];have d:(i+1)*Enc.size α=Enc.size α+i*Enc.size α:=by rw[Nat.add_mul,Nat.one_mul,Nat.add_comm]
  have f:(i+1+1)*Enc.size α=Enc.size α+(i+1)*Enc.size α:=by rw[Nat.add_mul (i+1),Nat.one_mul,Nat.add_comm]
  rw[d,f,<-dw y,List.take_length_add_append,List.drop_length_add_append];simp[dw,List.append_assoc,Nat.add_mul,Nat.add_comm]
theorem Own.st(h:Own w Z e A n c l){p:Addr}(b:A=some p){i:Nat}(hi:i<n){x y:α}(u:l[i]? =some x){o:Nat}{vs:List Value}(ho:o+vs.length<=Enc.size α)(z:enc y=(enc x).take o++vs++(enc x).drop (o+vs.length)){K:World->Prop}
 (D:∀w2,Own w2 Z e A n c (l.set i y)->Ch Z w w2->K w2):aF w ((p.add (i*Enc.size α)).add o) vs K:=by
 have hn:0<n:=by omega
 have f:=h.len;rcases h.own.1.2 with⟨_,WE⟩|⟨g,cap,cur,E,hg,G,m,H,s,I⟩
 ·omega
 injection E with t _ J
 have L:p=Addr.mk g 0 none:=by rw[t]at b;injection b with b;exact b.symm
 subst L;have M:=h.own.2 _ b;have O:Blk w g cur e:=G;have O8:n*Enc.size α<=cur.size:=by rw[s];exact Nat.mul_le_mul_right _ m
 have h3:(i+1)*Enc.size α<=n*Enc.size α:=Nat.mul_le_mul_right _ (by omega);have WN:(i+1)*Enc.size α=i*Enc.size α+Enc.size α:=by rw[Nat.add_mul,Nat.one_mul]
 rw[add_add,cm,Nat.zero_add];refine jC O (by omega) λw2 hs=>D w2 ⟨⟨⟨by rw[eY];simp[f],.inr ⟨g,cap,setAt cur (i*Enc.size α+o) vs,by rw[t,J],Nat.zero_le _,hs.blk,m,H,by rw[gR];exact s,?_⟩⟩,h.own.2⟩,by simp[f]⟩ (hs.ch.mono λk d=>d▸M);apply List.ext_getElem?;intro k;rw[Bh l i y (by omega)];have R:(l.flatMap enc).length=n*Enc.size α:=by rw[eY,f]
 have hex:(enc x).length=Enc.size α:=dw x;have V:(enc y).length=Enc.size α:=dw y;rw[List.getElem?_take];have j:∀q,q<n*Enc.size α->(l.flatMap enc)[q]? =cur[q]? :=λq hq=>by
  rw[<-I,List.getElem?_take,if_pos hq];simp
 have W:(setAt cur (i*Enc.size α+o) vs).toList[k]? =if i*Enc.size α+o<=k/\k<i*Enc.size α+o+vs.length then vs[k - (i*Enc.size α+o)]? else cur[k]? :=by
  have:=fJ vs cur (i*Enc.size α+o) k (by omega);simpa using this
 rw[W];have WH:∀q,q<Enc.size α->cur[i*Enc.size α+q]? =(enc x)[q]? :=λq hq=>by
  rw[<-j _ (by omega)];exact flat_get l i q x u hq
 by_cases d:k<n*Enc.size α
 ·rw[if_pos d];by_cases QG:k<i*Enc.size α
  ·rw[if_neg (by omega),List.append_assoc,List.getElem?_append_left (by rw[List.length_take];omega),List.getElem?_take,if_pos QG,j k d]
  ·obtain⟨q,rfl⟩:∃q,k=i*Enc.size α+q:=⟨k - i*Enc.size α,by omega⟩;have ht:((l.flatMap enc).take (i*Enc.size α)).length=i*Enc.size α:=by rw[List.length_take];omega
   rw[List.append_assoc,List.getElem?_append_right (by omega),ht,show i*Enc.size α+q - i*Enc.size α=q by omega];by_cases hq:q<Enc.size α
   ·rw[List.getElem?_append_left (by omega),z];by_cases h5:o<=q/\q<o+vs.length
    ·rw[if_pos (by omega),List.append_assoc,List.getElem?_append_right (by rw[List.length_take];omega),List.length_take,hex,show min o (Enc.size α)=o by omega,List.getElem?_append_left (by omega)];congr 1;omega
    ·rw[if_neg (by omega),WH q hq];by_cases h6:q<o
     ·rw[List.append_assoc,List.getElem?_append_left (by rw[List.length_take];omega),List.getElem?_take,if_pos h6]
     ·rw[List.getElem?_append_right (by simp[List.length_take];omega),List.getElem?_drop];congr 1;simp[List.length_take];omega
   ·rw[if_neg (by omega),List.getElem?_append_right (by omega),List.getElem?_drop,j _ (by omega)];congr 1;omega
 ·rw[if_neg d];symm;apply List.getElem?_eq_none;simp only[List.length_append,List.length_take,List.length_drop,R,V];omega
theorem Own.st0(h:Own w Z e A n c l){p:Addr}(d:A=some p){i:Nat}(hi:i<n){x y:α}(f:l[i]? =some x){vs:List Value}(b:enc y=vs){K:World->Prop}
 (j:∀w2,Own w2 Z e A n c (l.set i y)->Ch Z w w2->K w2):aF w (p.add (i*Enc.size α)) vs K:=by
 have:=Own.st h d hi f (o:=0) (vs:=vs) (y:=y) (by rw[<-b,dw];omega) (by rw[<-b];simp[dw]) j
 rwa[add_add,Nat.add_zero]at this
end
theorem gA.within {w:World}{Z:Nat->Prop}{e:TypeId}{size:Nat}{A:Option Addr}{n c:Nat}{xs:List Value}(h:gA w Z e size A n c xs):gA w (λk=>Z k/\k<w.heap.size) e size A n c xs:=by
 refine⟨h.1,λa d=>⟨h.2 a d,?_⟩⟩;rcases h.1.2 with⟨f,j⟩|⟨g,cap,cur,f,m,i,rest⟩
 ·injection f with b _ _
  rw[d]at b;cases b
 ·injection f with b _ _
  rw[d]at b;injection b with b
  rw[b];exact(Array.getElem?_eq_some_iff.1 i).1
theorem Own.within {α:Type} [Enc α]{w:World}{Z:Nat->Prop}{e:TypeId}{A:Option Addr}{n c:Nat}{l:List α}(h:Own w Z e A n c l):Own w (λk=>Z k/\k<w.heap.size) e A n c l:=⟨h.own.within,h.len⟩
end
section
variable {P:Program}{w w0 w1 w2 w3 w':World}{g g':Nat}{T T':TypeId}{X Y Z:Nat->Prop}{l l':List Int}
theorem Fp {vs:List Value}{cs:Array Value}(h:vs.length=cs.size):setAt cs 0 vs=vs.toArray:=by
 apply Array.ext_getElem?;intro i;rw[fJ _ _ _ _ (by omega)];by_cases hi:i<vs.length
 ·rw[if_pos (by omega)];simp
 ·rw[if_neg (by omega),Array.getElem?_eq_none (by omega),Array.getElem?_eq_none (by simp;omega)]
theorem bE {K:World->Prop}{vs:List Value}{cs:Array Value}(b:Blk w g cs T)(hi:vs.length=cs.size)(h:∀w2,cJ w g vs.toArray T w2->K w2):aF w (vA g) vs K:=
 bU b (by omega) λw2 s=>h w2 (by rw[<-Fp hi];exact s)
theorem KH {a0 b d f h i j m p q s t u x y z D E G H:Value}(I:a0=s)(J:b=t)(K:d=u)(L:f=x)(M:h=y)(O:i=z)(R:j=D)(V:m=E)(W:p=G)(h9:q=H):(#[a0,b,d,f,h,i,j,m,p,q]:Array Value)= #[s,t,u,x,y,z,D,E,G,H]:=by subst I;subst J;subst K;subst L;subst M;subst O;subst R;subst V;subst W;subst h9;rfl
def bS(l:List Int):Array Value:=(l.map (Value.int .u32)).toArray
@[simp] theorem gl(l:List Int):(bS l).size=l.length:=by simp[bS]
theorem iT {i:Nat}(h:i<l.length):(bS l)[i]? =some (O (l.getD i 0)):=by
 simp[bS,List.getElem?_eq_getElem h,List.getD_eq_getElem?_getD]
theorem Au {i:Int}(h:i.toNat<l.length):(bS l)[i.toNat *1]? =some (O (l.getD i.toNat 0)):=by
 rw[Nat.mul_one];exact iT h
theorem iq(n:Nat)(x:Int):bS (List.replicate n x)=Array.replicate n (O x):=by simp[bS]
theorem uh:∀v∈(bS l).toList,one? v True:=by
 intro v b;simp only[bS,List.mem_map]at b;obtain⟨x,_,rfl⟩:=b;unfold one?;trivial
theorem Blk.je(h:Blk w g (bS l) T){i:Int}(hi:i.toNat<l.length):w.cell? ((vA g).add (i.toNat *1))=some (O (l.getD i.toNat 0)):=h.at (Au hi)
theorem Blk.qA(h:Blk w g (bS l) T){n:Nat}(b:l.length=n):(bS l).size=n/\∀i u,(bS l)[i]? =some u->w.cell? ((vA g).add i)=some u:=
 ⟨by rw[gl,b],λi u hu=>h.at hu⟩
def il:List Int->Nat->List Int->List Int
 |l,_,[]=>l
 |l,o,v::r=>il (l.set o v) (o+1) r
@[simp] theorem Ao:∀(r l:List Int)(o:Nat),(il l o r).length=l.length
 | [],l,o=>rfl
 |v::r,l,o=>by rw[il,Ao r];simp
theorem wX:∀(r l:List Int)(o:Nat)(v:Int),il l o (r++ [v])=(il l o r).set (o+r.length) v
 | [],l,o,v=>rfl
 | x::r,l,o,v=>by
  rw[List.cons_append,il,wX r,il,List.length_cons];congr 1;omega
theorem tX(a r b x:List Int)(d:x.length=r.length):il (a++(x++b)) a.length r=a++(r++b):=by
 induction r generalizing a x with
 | nil=>cases x with
  |nil=>rfl
  |cons=>simp at d
 | cons v r f=>cases x with
  |nil=>simp at d
  | cons y x=>
   have:=f (a++ [v]) x (by simpa using d);rw[il];simpa using this
theorem ug {i:Nat}{v:Int}:setAt (bS l) i [.int .u32 v]=bS (l.set i v):=by
 simp[setAt,bS,List.setIfInBounds_toArray,List.map_set]
theorem nf:∀(r l:List Int)(o:Nat),setAt (bS l) o (r.map (Value.int .u32))=bS (il l o r)
 | [],l,o=>rfl
 | v::r,l,o=>by
  rw[List.map_cons,setAt,il,<-nf r];congr 1;simp[bS,List.setIfInBounds_toArray,List.map_set]
theorem ln {K:World->Prop}{i v:Int}(b:Blk w g (bS l) T)(hi:i.toNat<l.length)(h:∀w2,cJ w g (bS (l.set i.toNat v)) T w2->K w2):aF w ((vA g).add (i.toNat *1)) [.int .u32 v] K:=
 aZ b (by simp;omega) λw2 s=>h w2 (by rw[<-ug];rw[Nat.mul_one]at s;exact s)
theorem dG {K:World->Prop}{i:Nat}{v:Int}(b:Blk w g (bS l) T)(hi:i<l.length)(h:∀w2,cJ w g (bS (l.set i v)) T w2->K w2):aF w ((vA g).add i) [.int .u32 v] K:=
 aZ b (by simp;omega) λw2 s=>h w2 (by rw[<-ug];exact s)
theorem Ap(r l:List Int)(h:r.length=l.length):il l 0 r=r:=by simpa using tX [] r [] l h.symm
theorem nb {K:World->Prop}(d:Blk w g (bS l) T)(b:l'.length=l.length)(h:∀w2,cJ w g (bS l') T w2->K w2):aF w (vA g) (bS l').toList K:=
 bU d (by simp[bS,b]) λw2 s=>h w2 (by
  have e:(bS l').toList=l'.map (Value.int .u32):=by simp[bS]
  rw[e,nf,Ap _ _ b]at s;exact s)
theorem pW {dT sT ty e:TypeId}{bytes:Nat}(h:S1 P dT e (O 0) bytes)(d:Blk w g (bS l) T){o m dn dc:Nat}{A B:Option Addr}{n c:Nat}{r:List Int}(j:B=some (if m=o then Addr.mk g 0 none else(vA g).add (o*1)))(hm:m=o->min n dn=0)(f:eE w Z .u32 A n c r)(hs:o+min n dn<=l.length){K:World->Prop}
 (i:∀w2,cJ w g (bS (il l o (r.take (min n dn)))) T w2->K w2):
 ∃(x:Int)(w2:World),(Builtin.copy_ #[dT,sT] ty #[.slice B dn dc,.slice A n c]:Sem Value).run P w=.ok (J x) w2/\K w2:=by
 subst j;by_cases b:m=o
 ·rw[if_pos b];have p:=hm b;refine pX (K:=K) h d (o:=0) f (by rw[gl];omega) λw2 s=>i w2 ?_;rw[p]at s ⊢;simpa[setAt,il]using s
 ·rw[if_neg b,cm,Nat.zero_add,Nat.mul_one];exact pX (K:=K) h d f (by rw[gl];exact hs) λw2 s=>i w2 (by rw[<-nf];exact s)
theorem F4 {dT sT ty e:TypeId}{bytes:Nat}(h:S1 P dT e (O 0) bytes)(b:Blk w g (bS l) T){dn dc:Nat}{A B:Option Addr}{n c:Nat}{r:List Int}(d:B=some (vA g))(f:eE w Z .u32 A n c r)(hs:min n dn<=l.length){K:World->Prop}
 (i:∀w2,cJ w g (bS (il l 0 (r.take (min n dn)))) T w2->K w2):
 ∃(x:Int)(w2:World),(Builtin.copy_ #[dT,sT] ty #[.slice B dn dc,.slice A n c]:Sem Value).run P w=.ok (J x) w2/\K w2:=by
 subst d;exact pX (K:=K) h b (o:=0) f (by rw[gl];omega) λw2 s=>i w2 (by rw[<-nf];exact s)
theorem eE.row(h:Blk w g (bS l) T)(d:Z g){o n c:Nat}(f:n<=c)(i:o+n<=l.length):eE w Z .u32 (some (Addr.mk g o none)) n c ((l.drop o).take n):=
 eE.blk h d f (by simp;omega) (by
  intro j x b;rw[List.getElem?_take]at b;split at b
  ·rw[List.getElem?_drop]at b;rw[iT (by omega),List.getD_eq_getElem?_getD,b];rfl
  ·cases b)
theorem Rd.ints {A:Option Addr}{n c:Nat}{l:List U32}(h:Rd w Z A n c l):eE w Z .u32 A n c (l.map U32.v):=
 ⟨by rw[List.length_map,h.len],h.cap,λj x b=>by
  rw[List.getElem?_map]at b;cases d:l[j]? with
  |none=>rw[d]at b;cases b
  | some y=>
   rw[d]at b;injection b with b
   subst b;obtain⟨p,f,i,m⟩:=h.cell j y d;refine⟨p,f,i,?_⟩;have:=m 0 (by decide);rw[add_add,Nat.add_zero,show j*Enc.size U32=j from Nat.mul_one j]at this;exact this⟩
theorem eE.pre {cs:Array Value}{A:Option Addr}{n c m o:Nat}{k:IntKind}{r:List Int}(h:Blk w g cs T)(d:Z g)(f:A=some (if m=0 then(vA g).add o else((vA g).add o).add (0*1)))(i:n<=c)(p:r.length=n)(he:((cs.toList.drop o).take n)=r.map (Value.int k)):eE w Z k A n c r:=by
 have e:A=some (Addr.mk g o none):=by
  rw[f];split<;>simp[cm]
 subst e;refine eE.blk h d i p λj x q=>?_;have b:((cs.toList.drop o).take n)[j]? =some (Value.int k x):=by rw[he,List.getElem?_map,q];rfl
 rw[List.getElem?_take]at b;split at b
 ·rw[List.getElem?_drop]at b;simpa using b
 ·cases b
theorem eE.Nm {A:Option Addr}{n c m o:Nat}(h:Blk w g (bS l) T)(d:Z g)(f:A=some (if m=o then Addr.mk g 0 none else(vA g).add (o*1)))(hm:m=o->n=0)(i:n<=c)(j:o+n<=l.length):eE w Z .u32 A n c ((l.drop o).take n):=by
 subst f;by_cases b:m=o
 ·have:=hm b;subst this;rw[if_pos b,List.take_zero];exact⟨rfl,Nat.zero_le _,by simp⟩
 ·rw[if_neg b,cm,Nat.zero_add,Nat.mul_one];exact eE.row h d i j
structure eh(w:World)(g:Nat)(l:List Int):Prop where
 len:l.length=64
 blk:∃T,Blk w g (bS l) T
theorem eh.lt(h:eh w g l):∀k,k=g->k<w.heap.size:=λk e=>e▸h.blk.elim λ_ b=>b.lt
theorem eh.ch(h:eh w g l)(d:Ch X w w')(f:∀k,k=g->¬X k):eh w' g l:=⟨h.len,h.blk.imp λ_ b=>d.blk b (f g rfl)⟩
theorem eh.pu(h:eh w g l)(b:Pu w w'):eh w' g l:=h.ch b (by simp)
end
open Enc (enc)
section
variable {P:Program}{w w0 w1 w2 w3 w':World}{g g':Nat}{T T':TypeId}{X Y Z:Nat->Prop}
theorem Ch.fresh(h:Ch (λk=>w.heap.size<=k) w w2):Pu w w2:=
 ⟨h.kept.mono λk b=>⟨b.1,λh=>absurd b.1 (Nat.not_lt.2 h)⟩⟩
section
variable {α:Type} [Enc α]{A:Option Addr}{n c:Nat}{l:List α}
theorem Rd.flat(h:Rd w Z A n c l){p:Addr}(t:A=some p)(j:Nat)(u:Value)(hu:(l.flatMap enc)[j]? =some u):w.cell? (p.add j)=some u:=by
 have d:0<Enc.size α:=Enc.pos;have f:j<(l.flatMap enc).length:=(List.getElem?_eq_some_iff.1 hu).1;rw[eY]at f;have hq:j / Enc.size α<l.length:=(Nat.div_lt_iff_lt_mul d).2 f;have i:j % Enc.size α<Enc.size α:=Nat.mod_lt _ d;obtain⟨y,b,_,x⟩:=h.cell (j / Enc.size α) _ (List.getElem?_eq_getElem hq);rw[t]at b;injection b with b
 subst b;have m:=x (j % Enc.size α) i;have q:=flat_get l (j / Enc.size α) (j % Enc.size α) _ (List.getElem?_eq_getElem hq) i;have s:j / Enc.size α*Enc.size α+j % Enc.size α=j:=by rw[Nat.mul_comm];exact Nat.div_add_mod j (Enc.size α)
 rw[s]at q;rw[add_add,s]at m;rw[m,<-q,hu]
theorem HP(u:Value)(hu:u∈l.flatMap enc):u.oneCell'=true:=by
 obtain⟨x,_,b⟩:=List.mem_flatMap.1 hu;exact Enc.one x u b
theorem Rd.Lh(h:Rd w Z none n c l):l= []/\n=0:=by
 cases l with
 |nil=>exact⟨rfl,by simpa using h.len.symm⟩
 |cons x r=>obtain⟨p,b,_⟩:=h.cell 0 x rfl;cases b
theorem Rd.cut {lo hi m:Nat}{A':Option Addr}{n' c':Nat}(h:Rd w Z A n c l)(d:A'=(if m=lo then A else A.map (·.add (lo*Enc.size α))))(f:n'=hi - lo)(q:c'=m - lo)(z:lo<=hi)(D:hi<=n)(E:hi<=m):
 Rd w Z A' n' c' ((l.drop lo).take (hi - lo)):=by
 subst f q;have G:=h.len;refine⟨by simp;omega,by omega,h.lt,λi x b=>?_⟩;rw[List.getElem?_take]at b;split at b
 ·rename_i H;rw[List.getElem?_drop]at b;obtain⟨p,s,t,u⟩:=h.cell _ _ b;subst s;refine⟨p.add (lo*Enc.size α),?_,?_,λj y=>?_⟩
  ·rw[d,if_neg (by omega)];rfl
  ·rw[block_add];exact t
  ·rw[<-u j y,add_add,add_add,add_add,Nat.add_mul,Nat.add_assoc]
 ·cases b
theorem Rd.from_ {lo m:Nat}{A':Option Addr}{n' c':Nat}(h:Rd w Z A n c l)(b:A'=(if m=lo then A else A.map (·.add (lo*Enc.size α))))(d:n'=n - lo)(f:c'=m - lo)(i:lo<=n)(j:n<=m):Rd w Z A' n' c' (l.drop lo):=by
 have:=h.cut (hi:=n) b d f i (Nat.le_refl _) j
 rwa[List.take_of_length_le (by rw[List.length_drop,h.len];omega)]at this
theorem Rd.all {hi m:Nat}{A':Option Addr}{n' c':Nat}(h:Rd w Z A n c l)(b:A'=(if m=0 then A else A.map (·.add (0*Enc.size α))))(d:n'=hi - 0)(f:c'=m - 0)(i:hi=n)(j:m=n):Rd w Z A' n' c' l:=by
 subst i;have:=h.cut (hi:=hi) b d f (Nat.zero_le _) (Nat.le_refl _) (by omega)
 rwa[List.drop_zero,List.take_of_length_le (by rw[h.len];omega)]at this
theorem Own.K7 {e:TypeId}(h:Own w Z e A n c l)(b:∀k,Z k/\k<w.heap.size->Y k)(d:∀k,Y k->k<w.heap.size):Rd w Y A n c l:=h.rd.mono b d
theorem LK {t ty e:TypeId}{z:Value}{bytes:Nat}(j:SN P t e z (Enc.size α) bytes)(x:Rd w Z A n c l)(E:c=n){B:Option Addr}{m d:Nat}{l2:List α}(p:Rd w Y B m d l2)(O:n+m<=9223372036854775807)(L:(n+m)*bytes<=140737488355328)
 {K:Option Addr->Nat->Nat->World->Prop}(G:∀A' c' w2,Rd w2 (λk=>(Z k\/w.heap.size<=k)/\k<w2.heap.size) A' (n+m) c' (l++l2)->Pu w w2->K A' (n+m) c' w2):
 ∃(A':oA)(n' c':Nat)(w2:World),(Builtin.append_ #[t,t] ty #[.slice A n c,.slice B m d]:Sem Value).run P w=.ok (.slice A' n' c') w2/\K A' n' c' w2:=by
 obtain⟨i,hi,R,V,H⟩:=j.info;obtain rfl:n=c:=E.symm;by_cases hm:m=0
 ·subst hm;have W:l2= []:=List.eq_nil_of_length_eq_zero p.len;subst W;have y:(Builtin.append_ #[t,t] ty #[.slice A n n,.slice B 0 d]:Sem Value).run P w=.ok (.slice A n n) w:=by
   refine run_append_nothing w t t ty e i j.und hi A n n (Nat.le_refl _) _ ?_;cases B with
   |none=>exact Src.ofNil _ j.und d
   |some b=>exact Src.ofSlice _ j.und b 0 d [] (by simp) (by simp) (by simp)
  exact⟨_,_,_,_,y,G A n w (by rw[List.append_nil];exact x.mono (λk f=>⟨.inl f,x.lt k f⟩) λk f=>f.2) (Ch.refl _ _)⟩
 ·obtain⟨b,hB⟩:∃b,B=some b:=by
   cases B with
   |none=>exact absurd p.Lh.2 hm
   |some b=>exact⟨b,rfl⟩
  subst hB;have aa:∀D w2,(Builtin.append_ #[t,t] ty #[.slice A n n,.slice (some b) m d]:Sem Value).run P w=.ok D w2->w2.ownsRow w.heap.size e (Enc.size α) D (n+m) ((l++l2).flatMap enc)->Pu w w2->∃(A':oA)(n' c':Nat)(w2:World),(Builtin.append_ #[t,t] ty #[.slice A n n,.slice (some b) m d]:Sem Value).run P w=.ok (.slice A' n' c') w2/\K A' n' c' w2:=by
   intro D w2 y q hp;have M:=q;rcases q.2 with⟨_,WE⟩|⟨g,cap,cur,hv,s,Tw,_⟩
   ·omega
   ·subst hv;have I:Own w2 (λk=>w.heap.size<=k) e (pvA g) (n+m) cap (l++l2):=
     ⟨⟨⟨M.1,by rcases M.2 with h|⟨g',ab,ae,Tt,_,rest⟩;exact .inl h;exact .inr ⟨g',ab,ae,Tt,Nat.zero_le _,rest⟩⟩,λa J=>by injection J with J;rw[<-J];exact s⟩,by rw[List.length_append,x.len,p.len]⟩
    exact⟨_,_,_,_,y,G _ _ _ (I.K7 (Y:=λk=>(Z k\/w.heap.size<=k)/\k<w2.heap.size) (λk f=>⟨.inr f.1,f.2⟩) λk f=>f.2) hp⟩
  cases A with
  | none=>
   obtain⟨S7,hn⟩:=x.Lh;subst S7 hn;refine ze j (gA.nil (w:=w) (Z:=λk=>w.heap.size<=k)) (a:=b) (news:=l2.flatMap enc) (by rw[eY,p.len]) (p.flat rfl) (λu hu=>HP u hu) O L λA' c' w2 q E=>?_;rw[Nat.zero_add]at q ⊢;have I:Own w2 (λk=>w.heap.size<=k) e A' m c' l2:=⟨q.mono λk f=>f.elim id λe=>by rw[e];omega,p.len⟩;have YC:Pu w w2:=E.mono λk f=>by obtain⟨b,H,_⟩:=f;cases H
   have:=G A' c' w2;rw[Nat.zero_add,List.nil_append]at this;exact this (I.K7 (λk f=>⟨.inr f.1,f.2⟩) λk f=>f.2) YC
  | some a=>
   obtain⟨D,w2,y,q,s⟩:=run_append_arg_grows (P:=P) w t ty e i z (Enc.size α) bytes j.und hi R V H j.cells j.pos a n n (l.flatMap enc) (by rw[eY,x.len]) (x.flat rfl) b m d (l2.flatMap enc) (by rw[eY,p.len]) (p.flat rfl) (by omega) (by simp only[maxLen];omega) L;rw[<-List.flatMap_append]at q;exact aa D w2 y q ⟨⟨s.os,s.tape,s.output,s.size,λk f=>s.block k f.1 (by simp)⟩⟩
theorem Own.narrow {e:TypeId}(h:Own w Z e A n c l):Own w (λk=>Z k/\k<w.heap.size) e A n c l:=by
 refine⟨⟨h.own.1,λa b=>⟨h.own.2 a b,?_⟩⟩,h.len⟩;rcases h.own.1.2 with⟨d,_⟩|⟨g,cap,cur,d,_,i,_⟩
 ·injection d with f _ _;rw[f]at b;cases b
 ·injection d with f _ _
  rw[f]at b;injection b with b
  rw[<-b];exact Blk.lt (show Blk w g cur e from i)
theorem Own.to {e:TypeId}(h:Own w Z e A n c l)(d:∀k,Z k->k<w.heap.size->Y k):Own w Y e A n c l:=h.narrow.mono λk b=>d k b.1 b.2
theorem lE {t ty e:TypeId}{z:Value}{bytes:Nat}(b:SN P t e z (Enc.size α) bytes){B:Option Addr}{m d:Nat}{l2:List α}(h:Rd w Y B m d l2)(x:m<=9223372036854775807)(p:m*bytes<=140737488355328)
 {K:Option Addr->Nat->Nat->World->Prop}(j:∀A' c' w2,Own w2 (λk=>w.heap.size<=k/\k<w2.heap.size) e A' m c' l2->Pu w w2->K A' m c' w2):
 ∃(A':oA)(n' c':Nat)(w2:World),(Builtin.append_ #[t,t] ty #[.slice none 0 0,.slice B m d]:Sem Value).run P w=.ok (.slice A' n' c') w2/\K A' n' c' w2:=by
 obtain⟨i,hi,y,D,E⟩:=b.info;refine Own.apps (Own.nil (w:=w) (Z:=λk=>w.heap.size<=k)) b h (by omega) (by rw[Nat.zero_add];exact p) (Nat.le_refl _) (λA' c' w2 f q=>?_) (λhm s=>?_)
 ·rw[Nat.zero_add]at f ⊢;rw[List.nil_append]at f;exact j A' c' w2 f.narrow q.fresh
 ·subst hm s;have u:l2= []:=List.eq_nil_of_length_eq_zero h.len;subst u;exact⟨_,_,_,_,run_append_nothing w t t ty e i b.und hi none 0 0 (Nat.le_refl _) _ (Src.ofNil _ b.und d),j none 0 w Own.nil (Ch.refl _ _)⟩
end
theorem Own.ofRow {e:TypeId}{l:List Int}{g n:Nat}(h:Blk w g (bS l) e)(d:l.length=n)(hm:n<=9000000000000000000):Own w (λk=>k=g) e (pvA g) n n (l.map uM):=by
 have f:∀l:List Int,(l.map uM).flatMap enc=l.map (Value.int .u32):=by
  intro l
  induction l with
  |nil=>rfl
  |cons x r i=>rw[List.map_cons,List.flatMap_cons,i];rfl
 subst d;refine⟨⟨⟨by rw[eY];simp,.inr ⟨g,l.length,bS l,rfl,Nat.zero_le _,h,Nat.le_refl _,by simp only[maxLen];omega,?_,?_⟩⟩,λa b=>by injection b with b;rw[<-b]⟩,by simp⟩
 ·rw[gl,show Enc.size U32=1 from rfl,Nat.mul_one]
 ·rw[f,show Enc.size U32=1 from rfl,Nat.mul_one];show((l.map (Value.int .u32)).toArray.toList).take l.length=_;rw[List.take_of_length_le (by simp)]
theorem H0 {a:Addr}{m o:Nat}:(if m=o then(some a)else(some a:oA).map (·.add (o*1)))=some (if m=o then a else a.add (o*1)):=by
 split<;>rfl
end
section
variable {w w0 w1 w2 A B:World}{X Y Z:Nat->Prop}
theorem Pu.join(p:Pu w w0)(d:Kept X w0 A)(j:Ch X w A):Pu w A:=
 ⟨⟨j.kept.os,j.kept.tape,j.kept.output,j.kept.size,λk b=>by
  by_cases f:X k
  ·rw[d.block k f];exact p.kept.block k b
  ·exact j.kept.block k ⟨b.1,f⟩⟩⟩
theorem Pu.put(w:World)(l:Nat)(o:Obj)(X:Nat->Prop)(b:X l):Ch X w (w.putObj l o):=⟨Kept.putObj w l o λh=>h.2 b⟩
theorem Ch.obj {o:Obj}{g:Nat}(q:Ch X w A)(h:w.heap[g]? =some o)(b:¬X g):A.heap[g]? =some o:=
 (q.kept.block g ⟨(Array.getElem?_eq_some_iff.1 h).1,b⟩).trans h
end
open Go.MapKept
def oT(w:World)(g:Nat)(l:List (Int×Value)):Prop:=∃es c,w.heap[g]? =some (.map es c)/\es.toList.map (λe=>(e.key,e.val))=l.map λp=>(Value.int .u32 p.1,p.2)
def lkF:List (Int×Value)->Int->Option Value
 | [],_=>none
 |(a,v)::r,i=>if i=a then some v else lkF r i
theorem my:∀(l:List MapEntry)(m:List (Int×Value))(i:Int)(n:Nat),l.map (λe=>(e.key,e.val))=m.map (λp=>(Value.int .u32 p.1,p.2))->∃k,Instr.findNow (.int .u32) (.int .u32 i) l n=some ((lkF m i).map λv=>(k,v))
 | [],[],i,n,_=>⟨0,rfl⟩
 | [],_::_,i,n,h=>by simp at h
 |_::_,[],i,n,h=>by simp at h
 | e::l,(a,v)::m,i,n,h=>by
  simp only[List.map_cons,List.cons.injEq,Prod.mk.injEq]at h;obtain⟨⟨b,d⟩,f⟩:=h;by_cases hi:i=a
  ·refine⟨n,?_⟩;simp[Instr.findNow,Instr.sameNow,b,lkF,hi,d]
  ·obtain⟨k,j⟩:=my l m i (n+1) f;refine⟨k,?_⟩;have q:(i==a)=false:=by simpa using hi
   simp[Instr.findNow,Instr.sameNow,b,lkF,hi,j,q]
theorem Fu {P:Program}{w:World}{T K E:TypeId}{z:Value}{g:Nat}{l:List (Int×Value)}(d:P.underlying T=some (.map K E))(f:P.underlying K=some (.int .u32))(q:(zeroValue E).run P w=.ok z w)(h:oT w g l)(i:Int):(Instr.lookup T (.map (some g)) (.int .u32 i) true).run P w=.ok (.tuple #[(lkF l i).getD z,.bool (lkF l i).isSome]) w:=by
 obtain⟨es,c,j,he⟩:=h;obtain⟨k,s⟩:=my es.toList l i 0 he;have b:=run_findKey (w:=w) f s;have m:(Instr.checkKey es.isEmpty 10000 K (.int .u32 i)).run P w=.ok () w:=run_checkKey f (show IsKey (.int .u32) (.int .u32 i)from rfl) _ _;cases p:lkF l i with
 | none=>
  rw[p]at b;simp[Instr.lookup,run_underlying d,MapKept.run_getObj_map j,m,b,q,Result.andThen]
 | some v=>
  rw[p]at b;simp[Instr.lookup,run_underlying d,MapKept.run_getObj_map j,m,b,Result.andThen]
theorem jE {P:Program}{w:World}{T K E:TypeId}{g:Nat}{l:List (Int×Value)}{v:Value}(j:P.underlying T=some (.map K E))(b:P.underlying K=some (.int .u32))(h:oT w g l){i:Int}(m:lkF l i=none):∃w',(Instr.mapUpdate T (.map (some g)) (.int .u32 i) v).run P w=.ok () w'/\oT w' g (l++ [(i,v)])/\Ch (λk=>k=g) w w':=by
 obtain⟨es,c,d,he⟩:=h;obtain⟨k,p⟩:=my es.toList l i 0 he;have f:=run_findKey (w:=w) b p;have q:(Instr.checkKey false 10000 K (.int .u32 i)).run P w=.ok () w:=run_checkKey b (show IsKey (.int .u32) (.int .u32 i)from rfl) _ _;rw[m]at f;have s:=(Array.getElem?_eq_some_iff.1 d).1;refine⟨{w with heap:=w.heap.setIfInBounds g (.map (es.push {key:=.int .u32 i,val:=v,born:=c}) (c+1))},?_,⟨es.push {key:=.int .u32 i,val:=v,born:=c},c+1,by simp[s],by simp[he]⟩,?_⟩
 rotate_left
 ·exact⟨⟨rfl,rfl,rfl,by simp,λk b=>by simp[show ¬g=k from λe=>b.2 e.symm]⟩⟩
 simp[Instr.mapUpdate,run_underlying j,MapKept.run_getObj_map d,q,f,MapKept.run_setObj_map _ d,Result.andThen]
theorem oT.ch {w w':World}{g:Nat}{l:List (Int×Value)}{X:Nat->Prop}(h:oT w g l)(q:Ch X w w')(d:¬X g):oT w' g l:=by
 obtain⟨es,c,b,he⟩:=h;exact⟨es,c,(q.kept.block g ⟨(Array.getElem?_eq_some_iff.1 b).1,d⟩).trans b,he⟩
theorem oT.lt {w:World}{g:Nat}{l:List (Int×Value)}(h:oT w g l):g<w.heap.size:=by
 obtain⟨es,c,b,_⟩:=h;exact(Array.getElem?_eq_some_iff.1 b).1
theorem oT.made(w:World):oT (w.alloc (.map #[] 0)) w.heap.size []:=⟨#[],0,(MapKept.heap_alloc w _).1,rfl⟩
section
structure Ls(el:Nat->Type) where
 t:Nat
 A:Option Addr
 c:Nat
 l:List (el t)
inductive FV where
 |v (x:Value)|o (path off:Nat)|l (li:Nat)
def fvV {el:Nat->Type}(r:Nat->Nat)(li:Nat->Option (Ls el)):FV->Option Value
 |.v x=>some x
 |.o p off=>some (.pointer (some ⟨r p,off,none⟩))
 | .l i=>match li i with
  |some L=>some (.slice L.A L.l.length L.c)
  |none=>none
structure Uni where
 ty:Nat->Type
 pred:(t:Nat)->(Nat->Nat)->ty t->(Nat->Prop)->World->Prop
 ch:∀ {t:Nat}{r:Nat->Nat}{s:ty t}{X Y:Nat->Prop}{w w':World},pred t r s X w->Ch Y w w'->(∀k,X k->¬Y k)->pred t r s X w'
 lt:∀ {t:Nat}{r:Nat->Nat}{s:ty t}{X:Nat->Prop}{w:World},pred t r s X w->∀k,X k->k<w.heap.size
 el:Nat->Type
 en:(t:Nat)->Enc (el t)
 df:(t:Nat)->el t
 dec:(t:Nat)->List Value->Option (el t)
 iE:∀ {t:Nat}{cs:List Value}{x:el t},dec t cs=some x->(en t).enc x=cs
 cd:TypeId->Option Nat
 li:(t:Nat)->(Nat->Nat)->ty t->Nat->Option (Ls el)
 nS:∀ {t:Nat}{r:Nat->Nat}{s:ty t}{X:Nat->Prop}{w:World}{i:Nat}{L:Ls el},pred t r s X w->li t r s i=some L-> @Rd (el L.t) (en L.t) w X L.A L.l.length L.c L.l
 ne:Nat->Nat->Bool
 xn:∀ {t:Nat}{r:Nat->Nat}{s:ty t}{X:Nat->Prop}{w:World}{j i:Nat}{L:Ls el}{x:el L.t},pred t r s X w->ne t j=true->li t r s j=some L->L.l[i]? =some x->∃L':Ls el,li t r s (i+1)=some L'/\(en L.t).enc x= [.slice L'.A L'.l.length L'.c]
 fs:(t:Nat)->(Nat->Nat)->ty t->Nat->Nat->Value->Option (Prop×ty t)
 uJ:∀ {t:Nat}{r:Nat->Nat}{s s':ty t}{X:Nat->Prop}{w:World}{path off:Nat}{v:Value}{c:Prop},pred t r s X w->fs t r s path off v=some (c,s')->c->∀ {K:World->Prop},(∀w',pred t r s' X w'->Ch X w w'->K w')->aF w ⟨r path,off,none⟩ [v] K
 st:(t:Nat)->(Nat->Nat)->ty t->Nat->Nat->(tt:Nat)->el tt->Option (Prop×ty t)
 pj:∀ {t:Nat}{r:Nat->Nat}{s s':ty t}{X:Nat->Prop}{w:World}{j i:Nat}{L:Ls el}{x y:el L.t}{off:Nat}{vs:List Value}{c:Prop},pred t r s X w->li t r s j=some L->L.l[i]? =some x->off+vs.length<=(en L.t).size->(en L.t).enc y=((en L.t).enc x).take off++vs++((en L.t).enc x).drop (off+vs.length)->st t r s j i L.t y=some (c,s')->c->∀ {K:World->Prop},(∀w',pred t r s' X w'->Ch X w w'->K w')->aF w (((L.A.getD ⟨0,0,none⟩).add (i*(en L.t).size)).add off) vs K
 iv:Nat->Bool
 inv:(t:Nat)->ty t->Prop
 iu:∀ {t:Nat}{r:Nat->Nat}{s:ty t}{X:Nat->Prop}{w:World},pred t r s X w->inv t s
 fo:(t:Nat)->(Nat->Nat)->ty t->Nat->Nat->Option FV
 uL:∀ {t:Nat}{r:Nat->Nat}{s:ty t}{X:Nat->Prop}{w:World}{path off:Nat}{f:FV}{v:Value},pred t r s X w->fo t r s path off=some f->fvV r (li t r s) f=some v->X (r path)/\w.cell? ⟨r path,off,none⟩=some v
 mp:(t:Nat)->ty t->Option (List (Int×Value))
 AU:∀ {t:Nat}{r:Nat->Nat}{s:ty t}{X:Nat->Prop}{w:World}{l:List (Int×Value)},pred t r s X w->mp t s=some l->oT w (r 0) l
 mko:TypeId->List Value->Option ((t:Nat)×ty t)
 yE:∀ {T:TypeId}{cs:List Value}{q:(t:Nat)×ty t}{w:World}{g:Nat},mko T cs=some q->Blk w g ⟨cs⟩ T->pred q.1 (λ_=>g) q.2 (λk=>k=g) w
 ix:Nat->Nat->Nat->Option Nat
 rU:∀ {t:Nat}{r:Nat->Nat}{s:ty t}{path off i:Nat}{L:Ls el},ix t path off=some i->li t r s i=some L->L.A=some ⟨r path,off,none⟩
 wl:(t:Nat)->(Nat->Nat)->ty t->Nat->Nat->Nat->Option (Prop×List Value)
 tF:∀ {t:Nat}{r:Nat->Nat}{s:ty t}{X:Nat->Prop}{w:World}{path off n:Nat}{c:Prop}{cs:List Value},pred t r s X w->wl t r s path off n=some (c,cs)->c->X (r path)/\∀j u,cs[j]? =some u->w.cell? ⟨r path,off+j,none⟩=some u
 ws:(t:Nat)->(Nat->Nat)->ty t->Nat->Nat->List Value->Option (Prop×ty t)
 rB:∀ {t:Nat}{r:Nat->Nat}{s s':ty t}{X:Nat->Prop}{w:World}{path off:Nat}{vs:List Value}{c:Prop},pred t r s X w->ws t r s path off vs=some (c,s')->c->∀ {K:World->Prop},(∀w',pred t r s' X w'->Ch X w w'->K w')->aF w ⟨r path,off,none⟩ vs K
instance (U:Uni)(t:Nat):Enc (U.el t):=U.en t
inductive PK where
 |loc (id off:Nat)|obj (id path off:Nat)|sl (id li:Nat)|el (id li:Nat)(i:Int)(off:Nat)
inductive Kn where
 |p (k:PK)|t (l:List (Option PK))|f (a b:List (Option PK))|ag (l:List (Option PK))|pan|w (k:PK)(n:Nat)
inductive Key where
 |s (i:Nat)|c (id off:Nat)|l (id path:Nat)
inductive Res (U:Uni) where
 |blk (g:Nat)(cs:List Value)(T:TypeId)
 |ob (t:Nat)(r:Nat->Nat)(s:U.ty t)
 |lst (t:Nat)(own:Bool)(T:TypeId)(A:Option Addr)(c:Nat)(l:List (U.el t))
structure St(U:Uni) where
 rs:List (Res U)
 kn:List (Key×Kn)
 md:List Nat
def nth {α:Type}:List α->Nat->Option α
 | [],_=>none
 |a::_,0=>some a
 |_::l,n+1=>nth l n
def cV {α:Type}:List α->Nat->α->List α
 | [],_,_=>[]
 |_::l,0,x=>x::l
 |a::l,n+1,x=>a::cV l n x
theorem bG {α:Type}:∀ {l:List α}{i:Nat}{x:α},nth l i=some x->i<l.length
 |_::_,0,_,_=>by simp
 |_::l,i+1,x,h=>by have:=bG (l:=l) h;simp;omega
theorem dF {α:Type}:∀ {l:List α}{i:Nat},i<l.length->∃x,nth l i=some x
 |a::_,0,_=>⟨a,rfl⟩
 |_::l,i+1,h=>dF (l:=l) (by simpa using h)
theorem ux {α:Type}:∀ {l:List α}{i:Nat},l.length<=i->nth l i=none
 | [],_,_=>rfl
 |_::l,i+1,h=>ux (l:=l) (by simpa using h)
@[simp] theorem tW {α:Type}:∀(l:List α)(i:Nat)(x:α),(cV l i x).length=l.length
 | [],_,_=>rfl
 |_::_,0,_=>rfl
 |_::l,i+1,x=>by simp[cV,tW l i x]
theorem bY {α:Type}:∀(l:List α)(i j:Nat)(x:α),nth (cV l i x) j=if j=i/\i<l.length then some x else nth l j
 | [],i,j,x=>by simp[cV,nth]
 |a::l,0,0,x=>by simp[cV,nth]
 |a::l,0,j+1,x=>by simp[cV,nth]
 |a::l,i+1,0,x=>by simp[cV,nth]
 |a::l,i+1,j+1,x=>by simp[cV,nth,bY l i j x]
theorem bZ {α:Type}:∀(l m:List α)(i:Nat),nth (l++m) i=if i<l.length then nth l i else nth m (i - l.length)
 | [],m,i=>by simp
 |a::l,m,0=>by simp[nth]
 |a::l,m,i+1=>by simp[nth,bZ l m i]
theorem aY {α:Type}:∀(l:List α)(i:Nat),nth l i=l[i]?
 | [],_=>rfl
 |_::_,0=>rfl
 |_::l,i+1=>by simp[nth,aY l i]
section
variable {U:Uni}
def elA(U:Uni)(t:Nat)(A:Option Addr)(i:Int)(off:Nat):Addr:=((A.getD ⟨0,0,none⟩).add (i.toNat *(U.en t).size)).add off
def yP:List (Res U)->Prop->Prop
 | [],F=>F
 | .ob t _ s::l,F=>match U.iv t with
  |true=>U.inv t s->yP l F
  |false=>yP l F
 |_::l,F=>yP l F
def nmL:List (Res U)->List Nat->(List (Res U)->Prop)->Prop
 |rs,[],F=>F rs
 | rs,i::l,F=>match nth rs i with
  | some (.ob t r s)=>∀b:U.ty t,b=s->(match U.iv t with
   |true=>U.inv t b->nmL (cV rs i (.ob t r b)) l F
   |false=>nmL (cV rs i (.ob t r b)) l F)
  |some (.lst t own T A c x)=>∀d:List (U.el t),d=x->nmL (cV rs i (.lst t own T A c d)) l F
  |_=>nmL rs l F
def upto:Nat->Nat->List Nat
 |_,0=>[]
 |n,k+1=>n::upto (n+1) k
def G4(rs:List (Res U)):List Nat->List (Res U)
 | []=>[]
 | i::l=>match nth rs i with
  |some r=>r::G4 rs l
  |none=>G4 rs l
def iA:Res U->Nat->Option (Ls U.el)
 |.lst t _ _ A c l,_=>some ⟨t,A,c,l⟩
 |.ob t r s,i=>U.li t r s i
 |_,_=>none
def cQ(U:Uni):PK->Option (Res U)->Option Value
 |.loc _ off,some (.blk g _ _)=>some (.pointer (some ⟨g,off,none⟩))
 |.obj _ path off,some (.ob _ r _)=>some (.pointer (some ⟨r path,off,none⟩))
 | .sl _ li,some r=>(match iA r li with
  |some L=>some (.slice L.A L.l.length L.c)
  |none=>none)
 | .el _ li i off,some r=>(match iA r li with
  |some L=>if 0<=i/\i<L.l.length then some (.pointer (some (elA U L.t L.A i off)))else none
  |none=>none)
 |_,_=>none
def PK.id:PK->Nat
 |.loc i _=>i
 |.obj i _ _=>i
 |.sl i _=>i
 |.el i _ _ _=>i
def den(U:Uni)(rs:List (Res U))(k:PK):Option Value:=cQ U k (nth rs k.id)
def jW(rs:List (Res U))(v:Value):Kn->Prop
 |.p k=>den U rs k=some v
 |.t l=>∃vs,v=.tuple vs/\∀j k,nth l j=some (some k)->∃u,vs[j]? =some u/\den U rs k=some u
 |.pan=>False
 |.w k n=>∃a c,den U rs k=some (.pointer (some a))/\v=.slice (some a) n c
 |.ag l=>∃cs,v=.agg cs/\∀j k,nth l j=some (some k)->∃u,cs[j]? =some u/\den U rs k=some u
 |.f a b=>∃f fs cs,v=.func f fs cs/\(a.length=fs.size/\b.length=cs.size)/\(∀j k,nth a j=some (some k)->∃u,fs[j]? =some u/\den U rs k=some u)/\(∀j k,nth b j=some (some k)->∃u,cs[j]? =some u/\den U rs k=some u)
def KnO(rs:List (Res U))(v:Value):Option Kn->Prop
 |none=>True
 |some k=>jW rs v k
def gu(rs:List (Res U))(fr:Fr):Key->Kn->Prop
 |.s i,k=>jW rs (lk fr.g i fr.e) k
 |.c id off,k=>∃g cs T v,nth rs id=some (.blk g cs T)/\nth cs off=some v/\jW rs v k
 |.l id path,k=>∃t r s,nth rs id=some (.ob t r s)/\jW rs (.pointer (some ⟨r path,0,none⟩)) k
def aK(rs:List (Res U))(fr:Fr)(kn:List (Key×Kn)):Prop:=∀key k,(key,k)∈kn->gu rs fr key k
def RS(X:Nat->Prop)(w:World):Res U->Prop
 |.blk g cs T=>X g/\(∀k,X k->k=g)/\Blk w g ⟨cs⟩ T
 |.ob t r s=>U.pred t r s X w
 |.lst _ true T A c l=>Own w X T A l.length c l/\∀k,X k->k<w.heap.size
 |.lst _ false _ A c l=>Rd w X A l.length c l
theorem RS.lt {X:Nat->Prop}{w:World}{r:Res U}(h:RS X w r):∀k,X k->k<w.heap.size:=by
 cases r with
 |blk g cs T=>intro k b;rw[h.2.1 k b];exact h.2.2.lt
 |ob t r s=>exact U.lt h
 |lst t own T A c l=>cases own;exact(show Rd w X A l.length c l from h).lt;exact h.2
theorem RS.ch {X Y:Nat->Prop}{w w':World}{r:Res U}(h:RS X w r)(q:Ch Y w w')(b:∀k,X k->¬Y k):RS X w' r:=by
 cases r with
 |blk g cs T=>exact⟨h.1,h.2.1,q.blk h.2.2 (b g h.1)⟩
 |ob t r s=>exact U.ch h q b
 | lst t own T A c l=>
  cases own
  ·exact(show Rd w X A l.length c l from h).ch q b
  ·exact⟨h.1.ch q b,λk d=>Nat.lt_of_lt_of_le (h.2 k d) q.size⟩
theorem kJ:∀ {l:List (Res U)}{F:Prop},(∀r,r∈l->∃(X:Nat->Prop)(w:World),RS X w r)->yP l F->F
 | [],F,_,h=>h
 | .ob t r s::l,F,b,h=>by
  unfold yP at h;have f:=λx d=>b x (List.mem_cons_of_mem _ d);split at h
  ·obtain⟨X,w,hw⟩:=b _ (List.mem_cons_self ..);exact kJ f (h (U.iu hw))
  ·exact kJ f h
 |.blk _ _ _::l,F,b,h=>kJ (l:=l) (λx d=>b x (List.mem_cons_of_mem _ d)) h
 |.lst _ _ _ _ _ _::l,F,b,h=>kJ (l:=l) (λx d=>b x (List.mem_cons_of_mem _ d)) h
theorem qw {α:Type}:∀ {l:List α}{i:Nat}{x:α},nth l i=some x->cV l i x=l
 | [],_,_,h=>by simp[nth]at h
 |a::l,0,x,h=>by simp[nth]at h;subst h;rfl
 |a::l,i+1,x,h=>by simp only[cV];rw[qw (l:=l) h]
theorem np {rs:List (Res U)}(b:∀i r,nth rs i=some r->∃(X:Nat->Prop)(w:World),RS X w r):∀ {l:List Nat}{F:List (Res U)->Prop},nmL rs l F->F rs
 | [],F,h=>h
 | i::l,F,h=>by
  unfold nmL at h;split at h
  ·rename_i t r s d;have h:=h s rfl;rw[qw d]at h;split at h
   ·obtain⟨X,w,hw⟩:=b i _ d;exact np b (h (U.iu hw))
   ·exact np b h
  ·rename_i t own T A c x d;have h:=h x rfl;rw[qw d]at h;exact np b h
  ·exact np b h
theorem tY {rs:List (Res U)}{r:Res U}:∀ {l:List Nat},r∈G4 rs l->∃i,nth rs i=some r
 | i::l,h=>by
  unfold G4 at h;split at h
  ·rename_i x b;rcases List.mem_cons.1 h with e|h
   ·exact⟨i,by rw[b,e]⟩
   ·exact tY h
  ·exact tY h
structure Sat(rs:List (Res U))(X:Nat->Nat->Prop)(w:World):Prop where
 res:∀i r,nth rs i=some r->RS (X i) w r
 dis:∀i j,i<rs.length->j<rs.length->i≠j->∀k,X i k->¬X j k
theorem Sat.lt {rs:List (Res U)}{X:Nat->Nat->Prop}{w:World}(h:Sat rs X w){i:Nat}(hi:i<rs.length):∀k,X i k->k<w.heap.size:=by
 obtain⟨r,b⟩:=dF hi;exact(h.res i r b).lt
structure Inv(w0:World)(k0:Nat)(X0:Nat->Nat->Prop)(may:List Nat)(rs:List (Res U))(X:Nat->Nat->Prop)(w:World):Prop where
 sat:Sat rs X w
 ch:Ch (λk=>∃j,j∈may/\X0 j k) w0 w
 old:∀i,i<k0->∀k,X i k->X0 i k\/w0.heap.size<=k
 new:∀i,k0<=i->i<rs.length->∀k,X i k->w0.heap.size<=k
 len:k0<=rs.length
variable {w0:World}{k0:Nat}{X0:Nat->Nat->Prop}{may:List Nat}{rs:List (Res U)}{X:Nat->Nat->Prop}{w w':World}
theorem Inv.step(h:Inv w0 k0 X0 may rs X w)(M:List Nat)(q:Ch (λk=>∃j,j∈M/\X j k) w w')(D:∀j,j∈M->j<rs.length/\(j∈may\/k0<=j)){rs':List (Res U)}{X':Nat->Nat->Prop}(I:rs.length<=rs'.length)
 (hs:∀i,i<rs.length->i ∉ M->nth rs' i=nth rs i/\X' i=X i)
 (hm:∀i,(i∈M\/rs.length<=i)->∀r,nth rs' i=some r->RS (X' i) w' r)
 (E:∀i,i∈M->∀k,X' i k->X i k\/w.heap.size<=k)(J:∀i,rs.length<=i->i<rs'.length->∀k,X' i k->w.heap.size<=k)
 (hd:∀i j,(i∈M\/rs.length<=i)->(j∈M\/rs.length<=j)->i≠j->i<rs'.length->j<rs'.length->∀k,X' i k->¬X' j k):Inv w0 k0 X0 may rs' X' w':=by
 have hw:=h.ch.size;have low:∀i,i<rs.length->i ∉ M->∀k,X' i k->k<w.heap.size:=λi hi hm k b=>h.sat.lt hi k (by rw[(hs i hi hm).2]at b;exact b);have apart:∀i j,i<rs.length->i ∉ M->(j∈M\/rs.length<=j)->j<rs'.length->i≠j->∀k,X' i k->¬X' j k:=by
  intro i j hi K f O t k b u;have I:=low i hi K k b;rw[(hs i hi K).2]at b;by_cases G:j∈M
  ·rcases E j G k u with m|m
   ·exact h.sat.dis i j hi (D j G).1 t k b m
   ·omega
  ·have:=J j (by rcases f with f|f;exact absurd f G;exact f) O k u;omega
 refine⟨⟨λi r H=>?_,λi j hi f t k b=>?_⟩,?_,λi hi k b=>?_,λi hi R k b=>?_,Nat.le_trans h.len I⟩
 ·by_cases d:i<rs.length/\i ∉ M
  ·obtain⟨V,W⟩:=hs i d.1 d.2;rw[V]at H;rw[W];exact(h.sat.res i r H).ch q λk b ⟨j,f,u⟩=>h.sat.dis i j d.1 (D j f).1 (λe=>d.2 (e▸f)) k b u
  ·exact hm i (by by_cases hi:i∈M;exact .inl hi;exact .inr (Nat.le_of_not_lt λp=>d ⟨p,hi⟩)) r H
 ·by_cases x:i<rs.length/\i ∉ M
  ·by_cases s:j<rs.length/\j ∉ M
   ·rw[(hs i x.1 x.2).2]at b;rw[(hs j s.1 s.2).2];exact h.sat.dis i j x.1 s.1 t k b
   ·exact apart i j x.1 x.2 (by by_cases hi:j∈M;exact .inl hi;exact .inr (Nat.le_of_not_lt λp=>s ⟨p,hi⟩)) f t k b
  ·have L:i∈M\/rs.length<=i:=by by_cases hi:i∈M;exact .inl hi;exact .inr (Nat.le_of_not_lt λp=>x ⟨p,hi⟩)
   by_cases s:j<rs.length/\j ∉ M
   ·exact λu=>apart j i s.1 s.2 L hi (Ne.symm t) k u b
   ·exact hd i j L (by by_cases hi:j∈M;exact .inl hi;exact .inr (Nat.le_of_not_lt λp=>s ⟨p,hi⟩)) t hi f k b
 ·refine h.ch.call q ?_;rintro k ⟨j,f,b⟩;obtain⟨m,z⟩:=D j f;rcases Nat.lt_or_ge j k0 with d|d
  ·rcases z with z|z
   ·exact(h.old j d k b).imp (λp=>⟨j,z,p⟩) id
   ·omega
  ·exact .inr (h.new j d m k b)
 ·by_cases y:i∈M
  ·rcases E i y k b with m|m
   ·exact h.old i hi k m
   ·exact .inr (Nat.le_trans hw m)
  ·rw[(hs i (Nat.lt_of_lt_of_le hi h.len) y).2]at b;exact h.old i hi k b
 ·by_cases d:i<rs.length
  ·by_cases y:i∈M
   ·rcases E i y k b with m|m
    ·exact h.new i hi d k m
    ·exact Nat.le_trans hw m
   ·rw[(hs i d y).2]at b;exact h.new i hi d k b
  ·exact Nat.le_trans hw (J i (Nat.le_of_not_lt d) R k b)
def k9(X:Nat->Nat->Prop)(i:Nat)(Z:Nat->Prop):Nat->Nat->Prop:=λj=>if j=i then Z else X j
theorem updX_eq(X:Nat->Nat->Prop)(i:Nat)(Z:Nat->Prop):k9 X i Z i=Z:=if_pos rfl
theorem jY(X:Nat->Nat->Prop){i j:Nat}(Z:Nat->Prop)(h:j≠i):k9 X i Z j=X j:=if_neg h
theorem Inv.pu(h:Inv w0 k0 X0 may rs X w)(q:Pu w w'):Inv w0 k0 X0 may rs X w':=
 h.step [] (q.mono λ_ h=>h.elim) (λj b=>by cases b) (Nat.le_refl _) (λi _ _=>⟨rfl,rfl⟩) (λi hi r d=>by
  rcases hi with hi|hi
  ·cases hi
  ·have:=bG d;omega) (λi hi=>by cases hi) (λi f m=>by omega) (λi j hi b _ f _=>by
  rcases hi with hi|hi
  ·cases hi
  ·omega)
theorem Inv.more(h:Inv w0 k0 X0 may rs X w)(q:Pu w w'){r:Res U}{Z:Nat->Prop}(s:RS Z w' r)(t:∀k,Z k->w.heap.size<=k):Inv w0 k0 X0 may (rs++ [r]) (k9 X rs.length Z) w':=
 h.step [] (q.mono λ_ h=>h.elim) (λj b=>by cases b) (by simp) (λi hi _=>⟨by rw[bZ,if_pos hi],jY _ _ (by omega)⟩) (λi hi r' f=>by
  rcases hi with hi|hi
  ·cases hi
  ·have d:=bG f;simp at d;obtain rfl:i=rs.length:=by omega
   rw[bZ,if_neg (by omega),Nat.sub_self]at f;obtain rfl:r=r':=by simpa[nth]using f
   rw[updX_eq];exact s) (λi hi=>by cases hi) (λi d m k p=>by
  simp at m;obtain rfl:i=rs.length:=by omega
  rw[updX_eq]at p;exact t k p) (λi j hi b u d m=>by
  simp at d m;rcases hi with hi|hi
  ·cases hi
  ·rcases b with b|b
   ·cases b
   ·omega)
theorem Inv.set(h:Inv w0 k0 X0 may rs X w){i:Nat}(hi:i<rs.length)(t:i∈may\/k0<=i)(q:Ch (X i) w w'){r:Res U}{Z:Nat->Prop}(u:RS Z w' r)(x:∀k,Z k->X i k\/w.heap.size<=k):Inv w0 k0 X0 may (cV rs i r) (k9 X i Z) w':=
 h.step [i] (q.mono λk f=>⟨i,by simp,f⟩) (λj b=>by simp at b;subst b;exact⟨hi,t⟩) (by simp) (λj b p=>by
  simp at p;exact⟨by rw[bY,if_neg (by rintro⟨e,_⟩;exact p e)],jY _ _ p⟩) (λj b r' d=>by
  have m:=bG d;simp at m b;obtain rfl:j=i:=by omega
  rw[bY,if_pos ⟨rfl,hi⟩]at d;injection d with d
  subst d;rw[updX_eq];exact u) (λj b k f=>by
  simp at b;subst b;rw[updX_eq]at f;exact x k f) (λj m s=>by simp at s;omega) (λj l b y z m s=>by
  simp at b y m s;omega)
end
end
section
def PK.eq:PK->PK->Bool
 |.loc a b,.loc x y=>Nat.beq a x && Nat.beq b y
 |.obj a b c,.obj x y z=>Nat.beq a x && (Nat.beq b y && Nat.beq c z)
 |.sl a b,.sl x y=>Nat.beq a x && Nat.beq b y
 |_,_=>false
def Kn.eq:Kn->Kn->Bool
 |.p a,.p b=>a.eq b
 |_,_=>false
def Key.eq:Key->Key->Bool
 |.s a,.s b=>Nat.beq a b
 |.c a b,.c x y=>Nat.beq a x && Nat.beq b y
 |.l a b,.l x y=>Nat.beq a x && Nat.beq b y
 |_,_=>false
def ef(key:Key):List (Key×Kn)->Option Kn
 | []=>none
 | (a,k)::r=>match a.eq key with
  |true=>some k
  |false=>ef key r
def fL(f:Key->Kn->Bool):List (Key×Kn)->List (Key×Kn)
 | []=>[]
 | (a,k)::r=>match f a k with
  |true=>(a,k)::fL f r
  |false=>fL f r
def Bf(key:Key)(o:Option Kn)(l:List (Key×Kn)):List (Key×Kn):=
 match o with
 |none=>fL (λa _=>!(a.eq key)) l
 |some k=>(key,k)::fL (λa _=>!(a.eq key)) l
def Key.tp(id off n:Nat):Key->Bool
 |.c i o=>Nat.beq i id && (Nat.ble off o && Nat.blt o (off+n))
 |_=>false
def PK.ofList(id:Nat):PK->Bool
 |.sl i _=>Nat.beq i id
 |.el i _ _ _=>Nat.beq i id
 |_=>false
def xl(id:Nat):Option PK->Bool
 |none=>false
 |some k=>k.ofList id
def nL {α:Type}(f:α->Bool):List α->Bool
 | []=>false
 | a::r=>match f a with
  |true=>true
  |false=>nL f r
def Kn.ofList(id:Nat):Kn->Bool
 |.p k=>k.ofList id
 |.t l=>nL (xl id) l
 |.ag l=>nL (xl id) l
 |.pan=>false
 |.w k _=>k.ofList id
 | .f a b=>match nL (xl id) a with
  |true=>true
  |false=>nL (xl id) b
def LN:Option Kn->Nat->Option PK
 | some (.ag l),i=>(match nth l i with
  |some o=>o
  |none=>none)
 |_,_=>none
def yX(id:Nat):Nat->List (Option PK)->List (Key×Kn)
 |_,[]=>[]
 |o,none::r=>yX id (o+1) r
 |o,some p::r=>(.c id o,.p p)::yX id (o+1) r
def cellsOf(id off:Nat)(sc:Bool):Option Kn->List (Key×Kn)
 |none=>[]
 |some .pan=>[]
 |some (.w _ _)=>[]
 |some (.ag l)=>yX id off l
 | some (.p p)=>(match sc with
  |true=>[(.c id off,.p p)]
  |false=>[])
 | some (.t l)=>(match sc with
  |true=>[(.c id off,.t l)]
  |false=>[])
 | some (.f a b)=>(match sc with
  |true=>[(.c id off,.f a b)]
  |false=>[])
def ki:Option Kn->Option PK
 |some (.p k)=>some k
 |_=>none
def kf(kn:List (Key×Kn)):Operand->Option Kn
 |.tmp t=>ef (.s t) kn
 |_=>none
inductive CP where
 |int (k:IntKind)|bool|str|any|hdr|nsl|nil|fn (k:Nat)|ptr (j:Nat)|obj (j path:Nat)|sl (j:Nat)
def CP.T:CP->Type->Type
 |.int _,T=>Int->T
 |.bool,T=>Bool->T
 |.str,T=>ByteArray->T
 |.any,T=>Value->T
 |.hdr,T=>Option Addr->Nat->Nat->T
 |_,T=>T
def D8:List CP->Type->Type
 | [],T=>T
 |c::l,T=>c.T (D8 l T)
inductive AP where
 |one (c:CP)|agg (l:List CP)|enc (tt:Nat)
def AP.T(U:Uni):AP->Type->Type
 |.one c,T=>c.T T
 |.agg l,T=>D8 l T
 |.enc tt,T=>U.el tt->T
def Eb(U:Uni):List AP->Type->Type
 | [],T=>T
 |a::l,T=>a.T U (Eb U l T)
inductive RP where
 |ob (t:Nat)(lk:List (Nat×Nat×Nat))|blk (l:List CP)(T:TypeId)|lst (t:Nat)(own:Bool)(T:TypeId)
def RP.T(U:Uni):RP->Type->Type
 |.ob t _,T=>(Nat->Nat)->U.ty t->T
 |.blk l _,T=>Nat->D8 l T
 |.lst t _ _,T=>Option Addr->Nat->List (U.el t)->T
def Gl(U:Uni):List RP->Type->Type
 | [],T=>T
 |p::l,T=>p.T U (Gl U l T)
inductive Upd (U:Uni) where
 |ob (t:Nat)(s:U.ty t)|blk (cs:List Value)|lst (t:Nat)(A:Option Addr)(c:Nat)(l:List (U.el t))
structure Ou(U:Uni) where
 res:Value
 kr:Option Kn
 upd:List (Upd U)
 news:List (Res U)
 kc:List (Key×Kn)
structure Ctr(U:Uni) where
 args:List AP
 imp:List (Nat×Nat)
 res:List RP
 cE:List Nat
 body:Eb U args (Gl U res ((Ou U->Prop)->Prop))
structure Tb(U:Uni) where
 c:Nat->Option (Ctr U)
 sh:Sh
 al:List (Nat×List PK×List PK)
abbrev Th:=List (Nat×Nat)
def dY:Th->Nat->Option Nat
 | [],_=>none
 | (j,i)::r,k=>match Nat.beq j k with
  |true=>some i
  |false=>dY r k
def n7(j id:Nat)(θ:Th)(F:Th->Prop):Prop:=
 match dY θ j with
 |none=>F ((j,id)::θ)
 | some i=>match Nat.beq i id with
  |true=>F θ
  |false=>False
def apC {T:Type}:(c:CP)->c.T T->Value->Option PK->Th->(T->Th->Prop)->Prop
 | .int k,J,v,_,θ,F=>match v with
  | .int k' x=>match kEq k k' with
   |true=>F (J x) θ
   |false=>False
  |_=>False
 | .bool,J,v,_,θ,F=>match v with
  |.bool x=>F (J x) θ
  |_=>False
 | .str,J,v,_,θ,F=>match v with
  |.string x=>F (J x) θ
  |_=>False
 |.any,J,v,_,θ,F=>F (J v) θ
 | .hdr,J,v,_,θ,F=>match v with
  |.slice A n c=>F (J A n c) θ
  |_=>False
 | .nsl,J,v,_,θ,F=>match v with
  |.slice none 0 0=>F J θ
  |_=>False
 | .nil,J,v,_,θ,F=>match v with
  |.pointer none=>F J θ
  |_=>False
 | .fn f,J,v,_,θ,F=>match v with
  | .func (.func b) ⟨[]⟩ ⟨[]⟩=>(match Nat.beq f b with
   |true=>F J θ
   |false=>False)
  |_=>False
 | .ptr j,J,_,k,θ,F=>match k with
  |some (.loc id 0)=>n7 j id θ (F J)
  |_=>False
 | .obj j path,J,_,k,θ,F=>match k with
  | some (.obj id p 0)=>match Nat.beq p path with
   |true=>n7 j id θ (F J)
   |false=>False
  |_=>False
 | .sl j,J,_,k,θ,F=>match k with
  |some (.sl id 0)=>n7 j id θ (F J)
  |_=>False
def J6 {T:Type}:(l:List CP)->D8 l T->List Value->(Nat->Option PK)->Nat->Th->(T->Th->Prop)->Prop
 | [],J,[],_,_,θ,F=>F J θ
 |c::l,J,v::vs,kc,i,θ,F=>apC c J v (kc i) θ λb d=>J6 l b vs kc (i+1) d F
 |_,_,_,_,_,_,_=>False
def apA {U:Uni}{T:Type}:(a:AP)->a.T U T->Value->Option Kn->Th->(T->Th->Prop)->Prop
 |.one c,J,v,k,θ,F=>apC c J v (ki k) θ F
 | .agg l,J,v,k,θ,F=>match v with
  |.agg cs=>J6 l J cs.toList (LN k) 0 θ F
  |_=>False
 | .enc tt,J,v,_,θ,F=>match v with
  | .agg cs=>(match U.dec tt cs.toList with
   |some x=>F (J x) θ
   |none=>False)
  |_=>False
def BN {U:Uni}{T:Type}:(l:List AP)->Eb U l T->List Value->List (Option Kn)->Th->(T->Th->Prop)->Prop
 | [],J,[],_,θ,F=>F J θ
 |a::l,J,v::vs,k::b,θ,F=>apA a J v k θ λd f=>BN l d vs b f F
 |_,_,_,_,_,_=>False
def J5:List (Nat×Nat×Nat)->(Nat->Option PK)->Th->(Th->Prop)->Prop
 | [],_,θ,F=>F θ
 | (p,j,q)::l,b,θ,F=>match b p with
  | some (.obj i q' 0)=>(match Nat.beq q' q with
   |true=>n7 j i θ λd=>J5 l b d F
   |false=>False)
  |_=>False
def apR {U:Uni}{T:Type}:(p:RP)->p.T U T->Option (Res U)->(Nat->Option PK)->(Nat->Option PK)->Th->(T->Th->Prop)->Prop
 |.ob t lk,J,some (.ob b r s),_,d,θ,F=>if h:b=t then J5 lk d θ λf=>F (J r (h▸s)) f else False
 | .blk l T,J,some (.blk g cs T'),kc,_,θ,F=>match Nat.beq T' T with
  |true=>J6 l (J g) cs kc 0 θ F
  |false=>False
 | .lst t own T,J,some (.lst b i T' A c l),_,_,θ,F=>match (!own || (i && Nat.beq T' T))with
  |true=>if h:b=t then F (J A c (h▸l)) θ else False
  |false=>False
 |_,_,_,_,_,_,_=>False
def J0 {U:Uni}{T:Type}(rs:List (Res U))(kn:List (Key×Kn)):(l:List RP)->Gl U l T->Nat->Th->(T->Th->Prop)->Prop
 | [],J,_,θ,F=>F J θ
 | p::l,J,j,θ,F=>match dY θ j with
  |some id=>apR p J (nth rs id) (λo=>ki (ef (.c id o) kn)) (λp=>ki (ef (.l id p) kn)) θ λb d=>J0 rs kn l b (j+1) d F
  |none=>False
def Dk {U:Uni}(t:Nat):List (Res U)->Nat->Option Nat
 | [],_=>none
 | .ob b _ _::r,i=>match Dk t r (i+1)with
  |some j=>some j
  | none=>match Nat.beq b t with
   |true=>some i
   |false=>none
 |_::r,i=>Dk t r (i+1)
def ER {U:Uni}(rs:List (Res U)):List (Nat×Nat)->Th->(Th->Prop)->Prop
 | [],θ,F=>F θ
 | (j,t)::l,θ,F=>match Dk t rs 0 with
  |some id=>n7 j id θ λb=>ER rs l b F
  |none=>False
def mq(x:Nat):List Nat->Bool
 | []=>false
 | y::r=>match Nat.beq y x with
  |true=>true
  |false=>mq x r
def qD:List Nat->Bool
 | []=>true
 | x::r=>match mq x r with
  |true=>false
  |false=>qD r
def jJ {α β:Type}(f:α->Option β):List α->Option (List β)
 | []=>some []
 | a::r=>match f a,jJ f r with
  |some b,some d=>some (b::d)
  |_,_=>none
def eu {U:Uni}:Res U->Upd U->Option (Res U)
 |.ob t r _,.ob b d=>if h:b=t then some (.ob t r (h▸d))else none
 | .blk g cs T,.blk cs'=>match Nat.beq cs'.length cs.length with
  |true=>some (.blk g cs' T)
  |false=>none
 |.lst t own T _ _ _,.lst b A c l=>if h:b=t then some (.lst t own T A c (h▸l))else none
 |_,_=>none
def cv {U:Uni}:List (Res U)->List Nat->List (Upd U)->Option (List (Res U))
 |rs,[],[]=>some rs
 | rs,i::is,u::us=>match nth rs i with
  | some r=>match eu r u with
   |some r'=>cv (cV rs i r') is us
   |none=>none
  |none=>none
 |_,_,_=>none
def fT:List Nat->List (Key×Kn)->List (Key×Kn)
 | [],kn=>kn
 |i::r,kn=>fT r (fL (λa k=>!(k.ofList i) && (match a with|.c id _=>!(Nat.beq id i)|_=>true)) kn)
def Ed(θ:Th)(k n j:Nat):Option Nat:=
 match Nat.blt j k with
 |true=>dY θ j
 |false=>some (n+(j - k))
def PK.ren(f:Nat->Option Nat):PK->Option PK
 |.loc i o=>(f i).map (.loc · o)
 |.obj i p o=>(f i).map (.obj · p o)
 |.sl i l=>(f i).map (.sl · l)
 |.el i l x o=>(f i).map (.el · l x o)
def uq(f:Nat->Option Nat):Option PK->Option PK
 |none=>none
 |some k=>k.ren f
def Uni.ix1(U:Uni)(rs:List (Res U))(id path off:Nat):Option Nat:=match nth rs id with
 |some (.ob tt _ _)=>U.ix tt path off
 |_=>none
def aV {α β:Type}(f:α->β):List α->List β
 | []=>[]
 |a::r=>f a::aV f r
def Kn.ren(f:Nat->Option Nat):Kn->Option Kn
 |.p k=>(k.ren f).map .p
 |.t l=>some (.t (aV (uq f) l))
 |.ag l=>some (.ag (aV (uq f) l))
 |.f a b=>some (.f (aV (uq f) a) (aV (uq f) b))
 |.pan=>some .pan
 |.w k n=>(k.ren f).map (.w · n)
def EA(f:Nat->Option Nat):Option Kn->Option Kn
 |none=>none
 |some k=>k.ren f
def lW(f:Nat->Option Nat):List (Key×Kn)->List (Key×Kn)
 | []=>[]
 | (.c i o,k)::r=>match f i,k.ren f with
  |some b,some k'=>(.c b o,k')::lW f r
  |_,_=>lW f r
 | (.l i o,k)::r=>match f i,k.ren f with
  |some b,some k'=>(.l b o,k')::lW f r
  |_,_=>lW f r
 |_::r=>lW f r
section
variable (U:Uni)(P:Program)(tbl:Tb U)(may:List Nat)(k0:Nat)
abbrev fH:=Value->Option Kn->St U->Prop
def l4(i:Nat):Bool:=match Nat.ble k0 i with
 |true=>true
 |false=>mq i may
def jN {α:Type}(f:α->Bool):List α->Bool
 | []=>true
 | a::r=>match f a with
  |true=>jN f r
  |false=>false
def Ll(c:Ctr U):Bool:=jN (λj=>match nth c.res j with
 |some (.lst _ own _)=>own
 |some _=>true
 |none=>false) c.cE
def call2(f:Nat)(args:List Value)(b:List (Option Kn))(st:St U)(K:fH U):Prop:=
 match tbl.c f with
 |none=>False
 | some c=>BN c.args c.body args b [] λB θ=>ER st.rs c.imp θ λθ=>J0 st.rs st.kn c.res B 0 θ λB θ=>
  match qD (aV (·.2) θ) && (jN (λp=>Nat.blt p.1 c.res.length) θ && Ll U c),jJ (dY θ) c.cE with
  | true,some M=>(match jN (l4 may k0) M with
   | true=>B λout=>match cv st.rs M out.upd with
    |some rs'=>nmL (rs'++out.news) (M++upto rs'.length out.news.length) λd=>K out.res (EA (Ed θ c.res.length st.rs.length) out.kr) ⟨d,lW (Ed θ c.res.length st.rs.length) out.kc++fT M st.kn,M++st.md⟩
    |none=>False
   |false=>False)
  |_,_=>False
def ik {α:Type}:List α->Nat->List α->List α
 |cs,_,[]=>cs
 |cs,o,v::r=>ik (cV cs o v) (o+1) r
def jZ {α:Type}:Nat->List α->List α
 |0,_=>[]
 |_,[]=>[]
 |n+1,a::r=>a::jZ n r
def mB {α:Type}:Nat->List α->List α
 |0,l=>l
 |_,[]=>[]
 |n+1,_::r=>mB n r
def j4(t:TypeId)(cs:List Value)(off:Nat):Option Value:=
 match u5 P t (tV (eV P t)) && (hasType P t && (Nat.beq (jd (eV P t)) (bw P t) && Nat.ble (off+bw P t) cs.length))with
 | true=>(match eV P t with
  |.one _=>nth cs off
  |.agg l=>some (.agg ⟨jZ l.length (mB off cs)⟩)
  |.row n=>some (.agg ⟨jZ n (mB off cs)⟩))
 |false=>none
def l9(t:TypeId):Bool:=match eV P t with
 |.one _=>true
 |_=>false
def ir {α:Type}(o:Option α)(F:α->Prop):Prop:=match o with
 |some a=>F a
 |none=>False
def fvK(kn:List (Key×Kn))(id:Nat):FV->Option Kn
 |.v _=>none
 | .o p 0=>(match ef (.l id p) kn with
  |some k=>some k
  |none=>some (.p (.obj id p 0)))
 |.o p off=>some (.p (.obj id p off))
 |.l i=>some (.p (.sl id i))
def upN:Nat->Nat->List Nat
 |_,0=>[]
 |n,k+1=>n::upN (n+1) k
def isK:Option PK->Bool
 |some _=>true
 |none=>false
def Dr(id off:Nat)(kn:List (Key×Kn))(v:Value):Option Kn:=
 match v with
 | .agg cs=>(match nL isK (aV (λj=>ki (ef (.c id (off+j)) kn)) (upN 0 cs.toList.length))with
  |true=>some (.ag (aV (λj=>ki (ef (.c id (off+j)) kn)) (upN 0 cs.toList.length)))
  |false=>none)
 |_=>none
def hd1:List Value->Value
 |v::_=>v
 | []=>undef
def mC(tt:Nat)(l:List (U.el tt))(i n:Nat):List Value:=aV (λj=>hd1 ((U.en tt).enc (l.getD (i+j) (U.df tt)))) (upN 0 n)
def neK(t:TypeId)(id li:Nat)(i:Int)(off:Nat):Res U->Option Kn
 | .ob tt _ _=>(match U.ne tt li && (l9 P t && Nat.beq off 0)with
  |true=>some (.p (.sl id (i.toNat+1)))
  |false=>none)
 |_=>none
def xx(t:TypeId)(k:Option Kn)(st:St U)(K:Value->Option Kn->Prop):Prop:=
 match k with
 | some (.p (.loc id off))=>(match nth st.rs id with
  | some (.blk _ cs _)=>ir (j4 P t cs off) λv=>K v (match l9 P t with
   |true=>ef (.c id off) st.kn
   |false=>Dr id off st.kn v)
  |_=>False)
 | some (.p (.obj id path off))=>(match nth st.rs id with
  | some (.ob tt r s)=>(match U.fo tt r s path off with
   | some f=>ir (fvV r (U.li tt r s) f) λu=>ir (j4 P t [u] 0) λv=>K v (match l9 P t with
    |true=>fvK st.kn id f
    |false=>none)
   | none=>(match U.wl tt r s path off (bw P t)with
    |some (c,cs)=>c/\ir (j4 P t cs 0) λv=>K v none
    |none=>False))
  |_=>False)
 | some (.p (.el id li i off))=>(match nth st.rs id with
  | some r=>(match iA r li with
   | some L=>(match Nat.ble (off+bw P t) (U.en L.t).size,Nat.beq off 0 with
    | false,true=>(match Nat.beq (U.en L.t).size 1 with
     |true=>i.toNat+bw P t<=L.l.length/\ir (j4 P t (mC U L.t L.l i.toNat (bw P t)) 0) λv=>K v none
     |false=>False)
    |_,_=>ir (j4 P t ((U.en L.t).enc (L.l.getD i.toNat (U.df L.t))) off) λv=>K v (neK U P t id li i off r))
   |none=>False)
  |none=>False)
 |_=>False
def Jk(t:TypeId):Bool:=match eV P t with
 |.row _=>true
 |_=>false
def yx(t:TypeId)(k:Option Kn)(y:Value)(st:St U)(K:fH U):Prop:=
 match eV P t,k,y with
 | .row n,some (.p (.obj id path off)),.agg cs=>(match hasType P t && (Nat.beq n (bw P t) && Nat.beq cs.toList.length n),nth st.rs id,l4 may k0 id with
  | true,some (.ob tt r s),true=>nI cs.toList (match U.ws tt r s path off cs.toList with
   |some (c,b)=>c/\nmL (cV st.rs id (.ob tt r b)) [id] λd=>K undef none ⟨d,fT [id] st.kn,id::st.md⟩
   |none=>False)
  |_,_,_=>False)
 |_,_,_=>False
def CK(t:TypeId)(k:Option Kn)(y:Value)(ky:Option Kn)(st:St U)(K:fH U):Prop:=
 match Jk P t with
 |true=>yx U P may k0 t k y st K
 |false=>match !(Jk P t) && (Nat.beq y.cells.toList.length (bw P t) && hasType P t)with
 |false=>False
 | true=>match k with
  | some (.p (.loc id off))=>(match nth st.rs id,l4 may k0 id with
   | some (.blk g cs T),true=>(match Nat.ble (off+bw P t) cs.length with
    |true=>nI y.cells.toList (K undef none ⟨cV st.rs id (.blk g (ik cs off y.cells.toList) T),cellsOf id off (l9 P t && Nat.beq (bw P t) 1) ky++fL (λa _=>!(a.tp id off (bw P t))) st.kn,id::st.md⟩)
    |false=>False)
   |_,_=>False)
  | some (.p (.el id 0 i off))=>(match nth st.rs id,l4 may k0 id with
   | some (.lst tt true T A c l),true=>(match Nat.ble (off+bw P t) (U.en tt).size with
    | true=>nI y.cells.toList (ir (U.dec tt (ik ((U.en tt).enc (l.getD i.toNat (U.df tt))) off y.cells.toList)) λx=>
     nmL (cV st.rs id (.lst tt true T A c (l.set i.toNat x))) [id] λb=>K undef none ⟨b,st.kn,id::st.md⟩)
    |false=>False)
   | some (.ob tt r s),true=>(match U.li tt r s 0 with
    | some L=>(match Nat.ble (off+bw P t) (U.en L.t).size with
     | true=>nI y.cells.toList (ir (U.dec L.t (ik ((U.en L.t).enc (L.l.getD i.toNat (U.df L.t))) off y.cells.toList)) λx=>(match U.st tt r s 0 i.toNat L.t x with
      |some (c,d)=>c/\nmL (cV st.rs id (.ob tt r d)) [id] λb=>K undef none ⟨b,fT [id] st.kn,id::st.md⟩
      |none=>False))
     |false=>False)
    |none=>False)
   |_,_=>False)
  | some (.p (.el id (li+1) i off))=>(match nth st.rs id,l4 may k0 id with
   | some (.ob tt r s),true=>(match U.li tt r s (li+1)with
    | some L=>(match Nat.ble (off+bw P t) (U.en L.t).size with
     | true=>nI y.cells.toList (ir (U.dec L.t (ik ((U.en L.t).enc (L.l.getD i.toNat (U.df L.t))) off y.cells.toList)) λx=>(match U.st tt r s (li+1) i.toNat L.t x with
      |some (c,d)=>c/\nmL (cV st.rs id (.ob tt r d)) [id] λb=>K undef none ⟨b,fT [id] st.kn,id::st.md⟩
      |none=>False))
     |false=>False)
    |none=>False)
   |_,_=>False)
  | some (.p (.obj id path off))=>(match nth st.rs id,l4 may k0 id,y.cells.toList with
   | some (.ob tt r s),true,[v]=>nI [v] (match U.fs tt r s path off v with
    |some (c,d)=>c/\nmL (cV st.rs id (.ob tt r d)) [id] λb=>K undef none ⟨b,fT [id] st.kn,id::st.md⟩
    |none=>False)
   | some (.ob tt r s),true,v::v2::vs=>nI (v::v2::vs) (match U.ws tt r s path off (v::v2::vs)with
    |some (c,d)=>c/\nmL (cV st.rs id (.ob tt r d)) [id] λb=>K undef none ⟨b,fT [id] st.kn,id::st.md⟩
    |none=>False)
   |_,_,_=>False)
  |_=>False
def PK.on(l:Nat):PK->Option PK
 |.loc id off=>some (.loc id (off+l))
 |.obj id path off=>some (.obj id path (off+l))
 |_=>none
def Lp(d:Nat):Option Value->Option Nat
 |none=>some d
 |some (.int _ (.ofNat l))=>some l
 |_=>none
def KN(t:TypeId)(k:Option Kn)(lo hi:Option Value)(st:St U)(K:Value->Option Kn->Prop):Prop:=
 match P.underlying t,k,Lp 0 lo with
 | some (.array n e),some (.p p),some l=>(match Lp n hi,PK.on l p with
  | some h,some q=>(match den U st.rs p,den U st.rs q,hasType P e && (Nat.beq (bw P e) 1 && (Nat.blt l h && Nat.ble h n))with
   |some _,some (.pointer (some a)),true=>K (.slice (some a) (h - l) (n - l)) (some (.w q (h - l)))
   |_,_,_=>False)
  |_,_=>False)
 |_,_,_=>False
def yF(n m:Nat):Nat:=match Nat.ble n m with
 |true=>n
 |false=>m
def KX(k:Option Kn)(n:Nat)(st:St U)(F:List Value->Prop):Prop:=
 match k with
 | some (.w (.loc id off) m)=>(match nth st.rs id with
  | some (.blk _ cs _)=>(match Nat.ble (off+yF n m) cs.length with
   |true=>F (jZ (yF n m) (mB off cs))
   |false=>False)
  |_=>False)
 | some (.w (.obj id path off) m)=>(match nth st.rs id with
  | some (.ob tt r s)=>(match U.wl tt r s path off (yF n m)with
   | some (c,cs)=>c/\(match Nat.beq cs.length (yF n m)with
    |true=>F cs
    |false=>False)
   |none=>False)
  |_=>False)
 | some (.p (.sl id li))=>(match nth st.rs id with
  | some (.ob tt r s)=>(match U.li tt r s li with
   | some L=>(match Nat.beq (U.en L.t).size 1 with
    |true=>(0<n/\n<=L.l.length)/\F (mC U L.t L.l 0 n)
    |false=>False)
   |none=>False)
  | some (.lst tt _ _ _ c l)=>(match Nat.beq (U.en tt).size 1 with
   |true=>(0<yF n c/\l.length=c)/\F (mC U tt l 0 (yF n c))
   |false=>False)
  |_=>False)
 |_=>False
def Lz(q:PK)(vs:List Value)(st:St U)(K:fH U):Prop:=
 match q with
 | .loc id off=>(match nth st.rs id,l4 may k0 id with
  | some (.blk g cs T),true=>(match Nat.ble (off+vs.length) cs.length with
   |true=>nI vs (K (.int .i64 vs.length) none ⟨cV st.rs id (.blk g (ik cs off vs) T),fL (λa _=>!(a.tp id off vs.length)) st.kn,id::st.md⟩)
   |false=>False)
  |_,_=>False)
 | .obj id path off=>(match nth st.rs id,l4 may k0 id with
  | some (.ob tt r s),true=>nI vs (match U.ws tt r s path off vs with
   |some (c,b)=>c/\nmL (cV st.rs id (.ob tt r b)) [id] λd=>K (.int .i64 vs.length) none ⟨d,fT [id] st.kn,id::st.md⟩
   |none=>False)
  |_,_=>False)
 |_=>False
def slB(t:TypeId):Bool:=match P.underlying t with
 | some (.slice e)=>(match P.info? e with
  |some i=>Nat.beq i.size 1
  |none=>false)
 |_=>false
def H2(t:TypeId)(b ky:Option Kn)(st:St U)(K:fH U):Prop:=
 match b,slB P t with
 |some (.w q n),true=>KX U ky n st λvs=>Lz U may k0 q vs st K
 |_,_=>False
def yN(s:TypeId)(f:Nat):Option Kn->Option Kn
 | some (.p k)=>(match P.underlying s with
  | some (.struct fields)=>(match fields[f]? with
   | some fd=>(match k with
    |.loc id off=>some (.p (.loc id (off+fd.offset)))
    |.el id li i off=>some (.p (.el id li i (off+fd.offset)))
    |.obj id path off=>some (.p (.obj id path (off+fd.offset)))
    |_=>none)
   |none=>none)
  |_=>none)
 |_=>none
def W0:World:=default
def JC(cs:List Value)(T:TypeId)(ck:Option Kn)(st:St U)(K:fH U):Prop:=
 match U.mko T cs with
 |some ⟨t,s⟩=>∀g:Nat,nmL (st.rs++ [.ob t (λ_=>g) s]) [st.rs.length] λb=>K (.pointer (some ⟨g,0,none⟩)) (some (.p (.obj st.rs.length 0 0))) ⟨b,st.kn,st.md⟩
 |none=>∀g:Nat,K (.pointer (some ⟨g,0,none⟩)) (some (.p (.loc st.rs.length 0))) ⟨st.rs++ [.blk g cs T],cellsOf st.rs.length 0 true ck++st.kn,st.md⟩
def HH(k:Option Kn)(i:Nat):Option Kn:=
 match k with
 | some (.t l)=>(match nth l i with
  |some (some p)=>some (.p p)
  |_=>none)
 |_=>none
def rK(o:Oper)(ρ:Operand->Value)(F:Value->Prop):Prop:=rJ P none o ρ W0 F False
def Nq(t:TypeId)(i:Nat):Option Nat:=
 match P.underlying t with
 | some (.struct fields)=>(match fields[i]? with
  |some fd=>some fd.offset
  |none=>none)
 |some (.array _ e)=>some (i*bw P e)
 |_=>none
def agC(o:Nat):List (Option PK)->List (Nat×PK)
 | []=>[]
 |some p::r=>(o,p)::agC (o+1) r
 |none::r=>agC (o+1) r
def za(t:TypeId)(kn:List (Key×Kn)):List (Nat×Operand)->List (Nat×PK)
 | []=>[]
 | (i,x)::r=>match kf kn x,Nq P t i with
  |some (.p p),some o=>(o,p)::za t kn r
  |some (.ag l),some o=>agC o l++za t kn r
  |_,_=>za t kn r
def zb(j:Nat):List (Nat×PK)->Option PK
 | []=>none
 | (i,p)::r=>match Nat.beq i j with
  |true=>some p
  |false=>zb j r
def Ly {U:Uni}(rs:List (Res U))(cs:List Value):List (Nat×PK)->Prop->Prop
 | [],F=>F
 |(o,p)::r,F=>den U rs p=nth cs o/\Ly rs cs r F
def H7 {U:Uni}(st:St U)(v:Value)(d:List (Nat×PK))(K:Value->Option Kn->Prop):Prop:=
 match d with
 | []=>K v none
 | b::r=>match v with
  |.agg cs=>Ly st.rs cs.toList (b::r) (K v (some (.ag (aV (λj=>zb j (b::r)) (upN 0 cs.toList.length)))))
  |_=>False
def MK:Option Kn->List Value->List Value->List (Option Kn)->List (Option Kn)
 |some (.f a b),_,_,d=>aV (λo=>o.map .p) a++(d++aV (λo=>o.map .p) b)
 |_,first,cap,d=>aV (λ_=>none) first++(d++aV (λ_=>none) cap)
def HW(t:TypeId):Nat:=match P.underlying t with
 |some (.slice e)=>bw P e
 |some (.array _ e)=>bw P e
 |_=>0
def F2(tt:Nat):Nat->List Value->Option (List (U.el tt))
 |0,[]=>some []
 | n+1,cs=>match U.dec tt (jZ (U.en tt).size cs),F2 tt n (mB (U.en tt).size cs)with
  |some x,some r=>some (x::r)
  |_,_=>none
 |_,_=>none
def G1(t:TypeId):Option (TypeId×Nat×TypeInfo×Value):=
 match P.underlying t with
 | some (.slice e)=>(match U.cd e,P.info? e with
  | some tt,some b=>(match b.zero with
   | some z=>(match Nat.beq b.size (U.en tt).size && (Nat.beq z.cells.toList.length b.size && Nat.blt 0 b.bytes)with
    |true=>some (e,tt,b,z)
    |false=>none)
   |none=>none)
  |_,_=>none)
 |_=>none
def MM(b:TypeInfo)(z:Value)(len:Nat)(parts:List (Nat×Value)):Option (Array Value):=
 Instr.fill (λi=>some (i*b.size,b.size)) ((Array.range (len*b.size)).map (z.cells[· % z.cells.size]!)) parts
def KW(tt:Nat)(v:Value)(k:Option Kn)(st:St U)(F:List (U.el tt)->Prop):Prop:=
 match k with
 | some (.p (.sl id li))=>(match nth st.rs id with
  | some r=>(match iA r li with
   |some L=>if h:L.t=tt then F (h▸L.l)else False
   |none=>False)
  |none=>False)
 | _=>match v with
  |.slice none 0 _=>F []
  |_=>False
def orL {α:Type}(F:α->Prop):List α->Prop
 | []=>False
 | [a]=>F a
 |a::r=>F a\/orL F r
def MN:Sh->(Value->Prop)->Prop
 |.int k,F=>∃x:Int,F (.int k x)
 |.bool,F=>∃x:Bool,F (.bool x)
 |.str,F=>∃x:ByteArray,F (.string x)
 |_,F=>∃x:Value,F x
def dv {U:Uni}(rs:List (Res U))(p:PK):Value:=(den U rs p).getD undef
def F1 {U:Uni}(rs:List (Res U))(p:PK):Bool:=match den U rs p with
 |some _=>true
 |none=>false
def CY(k:Option Kn)(A B:Prop):Prop:=match k with
 |some .pan=>A
 |_=>B
def EN(v:Value)(args:List Value)(b:List (Option Kn))(st:St U)(K:fH U):Prop:=
 MN tbl.sh λr=>orL (λa=>match jN (F1 st.rs) a.2.1 && jN (F1 st.rs) a.2.2 with
  | true=>v=.func (.func a.1) ⟨aV (dv st.rs) a.2.1⟩ ⟨aV (dv st.rs) a.2.2⟩/\call2 U tbl may k0 a.1 (aV (dv st.rs) a.2.1++(args++aV (dv st.rs) a.2.2)) (aV (λp=>some (.p p)) a.2.1++(b++aV (λp=>some (.p p)) a.2.2)) st λr' k' st'=>
    CY k' False<| match Nat.beq st'.rs.length st.rs.length && Nat.beq st'.md.length st.md.length with
    |true=>r'=r
    |false=>False
  |false=>False) tbl.al/\K r none st
def J7:Operand->List (Nat×List PK×List PK)->Bool
 |.tmp _,_::_=>true
 |_,_=>false
def mpL:List (Res U)->Option ((Nat->Nat)×List (Int×Value))
 | []=>none
 | .ob t r s::l=>(match U.mp t s with
  |some m=>some (r,m)
  |none=>mpL l)
 |_::l=>mpL l
def lkT(P:Program)(T:TypeId):Option Value:=match P.underlying T with
 | some (.map K E)=>(match P.underlying K with
  |some (.int .u32)=>(P.info? E).bind (·.zero)
  |_=>none)
 |_=>none
def lkS:List (Int×Value)->Int->Value->(Value->Bool->Prop)->Prop
 | [],_,z,F=>F z false
 |(a,v)::r,i,z,F=>split (decide (i=a)) (F v true) (lkS r i z F)
def Lm(o:Oper)(ρ:Operand->Value)(st:St U)(K:fH U):Prop:=
 match o.op with
 | .panic x=>(match ρ x with
  |.iface t v=>K (.iface t v) (some .pan) st
  |_=>False)
 |.store t x y=>CK U P may k0 t (kf st.kn x) (ρ y) (kf st.kn y) st K
 | .alloc t=>(match (P.info? t).bind (·.zero)with
  |some z=>JC U z.cells.toList t none st K
  |none=>False)
 |.box t x=>JC U (ρ x).cells.toList t (kf st.kn x) st K
 | .call c=>(match c.callee with
  | .value f=>(match J7 f tbl.al with
   |true=>EN U tbl may k0 (ρ f) (aV ρ c.args.toList) (aV (kf st.kn) c.args.toList) st K
   | false=>match ρ f with
    |.func (.func k) first cap=>call2 U tbl may k0 k (first.toList++(aV ρ c.args.toList++cap.toList)) (MK (kf st.kn f) first.toList cap.toList (aV (kf st.kn) c.args.toList)) st K
    |_=>False)
  | .invoke x name=>(match ρ x with
   | .iface t u=>(match AX P t name with
    |some k=>call2 U tbl may k0 k (u::aV ρ c.args.toList) (none::aV (kf st.kn) c.args.toList) st K
    |none=>False)
   |_=>False)
  | .builtin .append=>(match c.args.toList,c.argTypes.toList with
   | [x,y],[t,m]=>(match G1 U P t,Nat.beq t m with
    | some (e,tt,d,_),true=>KW U tt (ρ y) (kf st.kn y) st λl2=>(match kf st.kn x with
     | some (.p (.sl id 0))=>(match nth st.rs id,l4 may k0 id with
      | some (.lst p true T _ _ l),true=>(match Nat.beq T e with
       |true=>if h:p=tt then(l.length+l2.length)*d.bytes<=140737488355328/\∀(A:Option Addr)(c:Nat),nmL (cV st.rs id (.lst tt true e A c ((h▸l)++l2))) [id] λj=>K (.slice A ((h▸l)++l2).length c) (some (.p (.sl id 0))) ⟨j,fT [id] st.kn,id::st.md⟩else False
       |false=>False)
      |_,_=>False)
     | none=>(match ρ x with
      |.slice none 0 0=>l2.length*d.bytes<=140737488355328/\∀(A:Option Addr)(c:Nat),nmL (st.rs++ [.lst tt true e A c l2]) [st.rs.length] λj=>K (.slice A l2.length c) (some (.p (.sl st.rs.length 0))) ⟨j,st.kn,st.md⟩
      |_=>False)
     |_=>False)
    |_,_=>False)
   |_,_=>False)
  | .builtin .copy=>(match c.args.toList,c.argTypes.toList with
   | [x,y],[t,m]=>H2 U P may k0 t (kf st.kn x) (kf st.kn y) st K
   |_,_=>False)
  |_=>False)
 | .buildSlice t len parts=>(match G1 U P t with
  | some (e,tt,d,z)=>(match MM d z len (parts.map fun(i,x)=>(i,ρ x)).toList,Nat.blt 0 len && Nat.ble (len*d.size) 16777216 with
   | some cells,true=>(match F2 U tt len cells.toList with
    |some l=>∀g:Nat,nmL (st.rs++ [.lst tt true e (some ⟨g,0,none⟩) len l]) [st.rs.length] λj=>K (.slice (some ⟨g,0,none⟩) len len) (some (.p (.sl st.rs.length 0))) ⟨j,st.kn,st.md⟩
    |none=>False)
   |_,_=>False)
  |none=>False)
 | .lookup T x ix true=>(match ρ x,ρ ix,lkT P T,mpL U st.rs with
  |.map (some g),.int .u32 i,some z,some (r,l)=>g=r 0/\lkS l i z λv b=>K (.tuple ⟨[v,.bool b]⟩) none st
  |_,_,_,_=>False)
 | .makeSlice t l c=>(match ρ l,ρ c,G1 U P t with
  | .int .i64 a,.int .i64 b,some (e,tt,d,z)=>(match U.dec tt z.cells.toList with
   |some x=>(a=b/\0<=a/\(d.bytes:Int)*a<=281474976710656)/\∀g:Nat,nmL (st.rs++ [.lst tt true e (some ⟨g,0,none⟩) a.toNat (List.replicate a.toNat x)]) [st.rs.length] λj=>K (.slice (some ⟨g,0,none⟩) (List.replicate a.toNat x).length a.toNat) (some (.p (.sl st.rs.length 0))) ⟨j,st.kn,st.md⟩
   |none=>False)
  |_,_,_=>False)
 |_=>False
def pP(o:Oper)(ρ:Operand->Value)(st:St U)(K:Value->Option Kn->Prop):Prop:=
 match o.op with
 |.move x=>K (ρ x) (kf st.kn x)
 |.assign x=>K (ρ x) (kf st.kn x)
 | .nilCheck x=>(match ρ x with
  |.pointer (some p)=>K (.pointer (some p)) (kf st.kn x)
  |_=>False)
 |.fieldAddr s x f=>lz P s (ρ x) f λv=>K v (yN P s f (kf st.kn x))
 | .indexAddr t x i=>(match kf st.kn x,ρ i with
  | some (.p (.sl id li)),.int _ ix=>(match nth st.rs id,P.underlying t with
   | some r,some (.slice e)=>(match iA r li with
    | some L=>(match hasType P e && Nat.beq (bw P e) (U.en L.t).size with
     |true=>(0<=ix/\ix<L.l.length)/\K (.pointer (some (elA U L.t L.A ix 0))) (some (.p (.el id li ix 0)))
     |false=>False)
    |none=>False)
   |_,_=>False)
  | some (.p (.obj id path off)),.int _ ix=>(match nth st.rs id,U.ix1 st.rs id path off,P.underlying t with
   | some (.ob tt r s),some li,some (.array n e)=>(match U.li tt r s li with
    | some L=>(match hasType P e && Nat.beq (bw P e) (U.en L.t).size with
     |true=>((0<=ix/\ix<L.l.length)/\ix<(n:Int))/\K (.pointer (some (elA U L.t L.A ix 0))) (some (.p (.el id li ix 0)))
     | false=>(match hasType P e && (Nat.beq (U.en L.t).size 1 && Nat.blt 0 (bw P e))with
      |true=>((0<=ix/\ix<(n:Int))/\(ix.toNat+1)*bw P e<=L.l.length)/\K (.pointer (some (elA U L.t L.A (ix*(bw P e:Nat)) 0))) (some (.p (.el id li (ix*(bw P e:Nat)) 0)))
      |false=>False))
    |none=>False)
   |_,_,_=>False)
  | some (.p (.el id li i0 0)),.int _ ix=>(match nth st.rs id,P.underlying t with
   | some r,some (.array n e)=>(match iA r li with
    | some L=>(match hasType P e && (Nat.beq (bw P e) 1 && Nat.beq (U.en L.t).size 1)with
     |true=>((0<=ix/\ix<(n:Int))/\i0+ix<L.l.length)/\K (.pointer (some (elA U L.t L.A (i0+ix) 0))) (some (.p (.el id li (i0+ix) 0)))
     |false=>False)
    |none=>False)
   |_,_=>False)
  |some (.p (.loc id off)),.int _ ix=>nK P t (ρ x) (ρ i) λv=>K v (some (.p (.loc id (off+ix.toNat *HW P t))))
  |_,_=>False)
 |.load t x=>xx U P t (kf st.kn x) st K
 | .extract x i=>(match ρ x with
  |.tuple vs=>ir (nth vs.toList i) λv=>K v (HH (kf st.kn x) i)
  |_=>False)
 |.makeFunc f first cap=>K (.func f ⟨aV ρ first.toList⟩ ⟨aV ρ cap.toList⟩) (some (.f (aV (λx=>ki (kf st.kn x)) first.toList) (aV (λx=>ki (kf st.kn x)) cap.toList)))
 | .binOp op t x y ty=>(match ρ x with
  |.slice (some _) _ _=>False
  |_=>rK P o ρ λv=>K v none)
 |.build t b=>rK P o ρ λv=>H7 st v (za P t st.kn b.toList) K
 | .slice t x lo hi none=>(match kf st.kn x,lo,hi with
  | some (.p (.obj id path off)),none,none=>(match nth st.rs id,U.ix1 st.rs id path off,P.underlying t with
   | some (.ob tt r s),some li,some (.array n e)=>(match U.li tt r s li with
    | some L=>(match hasType P e with
     |true=>((L.l.length=n/\L.c=n)/\0<n)/\K (.slice L.A L.l.length L.c) (some (.p (.sl id li)))
     |false=>False)
    |none=>False)
   |_,_,_=>False)
  |k,lo,hi=>KN U P t k (lo.map ρ) (hi.map ρ) st K)
 |.slice .. =>False
 | .sliceToArrayPointer arr x=>(match kf st.kn x with
  | some (.p (.sl id li))=>(match nth st.rs id,P.underlying arr with
   | some r,some (.array n _)=>(match iA r li with
    |some L=>(0<L.l.length/\n<=L.l.length)/\K (.pointer (some (elA U L.t L.A 0 0))) (some (.p (.el id li 0 0)))
    |none=>False)
   |_,_=>False)
  | some (.w q n)=>(match P.underlying arr,den U st.rs q with
   | some (.array N _),some v=>(match Nat.ble N n with
    |true=>K v (some (.p q))
    |false=>False)
   |_,_=>False)
  |_=>False)
 |_=>rK P o ρ λv=>K v none
def HJ(o:Oper):Bool:=match o.op with
 |.panic _=>true
 |.store .. =>true
 |.alloc _=>true
 |.box .. =>true
 |.buildSlice .. =>true
 |.makeSlice .. =>true
 |.lookup .. =>true
 | .call c=>(match c.callee with
  |.value _=>true
  |.invoke .. =>true
  |.builtin .append=>true
  |.builtin .copy=>true
  |_=>false)
 |_=>false
def op2(o:Oper)(ρ:Operand->Value)(st:St U)(K:fH U):Prop:=
 match HJ o with
 |true=>Lm U P tbl may k0 o ρ st K
 |false=>pP U P o ρ st λv k=>K v k st
def AG(n:Nat)(N:List Nat)(fr:Fr)(dst:Option Tmp)(v:Value)(k:Option Kn)(st:St U)(F:Fr->St U->Prop):Prop:=
 kh n N fr dst v λb=>F b (match dst with
  |some d=> {st with kn:=Bf (.s d) k st.kn}
  |none=>st)
def Fc(n:Nat)(N:List Nat)(ops:Array Oper)(K:Fr->St U->Prop)(b:List PanicEntry->Fr->St U->Prop):List Oper->Fr->St U->Prop
 | [],fr,st=>K fr st
 | o::rest,fr,st=>jg ops o fr
  (λfr=>op2 U P tbl may k0 o (ev fr) st λv f st'=>CY f (b [⟨v,false,false⟩] fr st') (AG U n N fr o.dst v f st' λd h=>Fc n N ops K b rest d h))
  (λfr=>AG U n N fr o.dst undef none st λd st'=>Fc n N ops K b rest d st')
end
end
end V
end Go.Proofs.YtbcmefndjggkpaaGreatDoor
