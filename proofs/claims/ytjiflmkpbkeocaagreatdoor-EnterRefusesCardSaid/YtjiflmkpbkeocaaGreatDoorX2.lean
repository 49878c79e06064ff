/- EnterRefuses returns true for every input: which calls of a thread are taken, and why the others are not, by the entries alone; each argument reads behind the call as it read before; what the listed variables read as is tied to the program's text. -/
import Derived.Test.YtjiflmkpbkeocaaGreatDoorX1
import Derived.Test.YtjiflmkpbkeocaaGreatDoorProg
import Derived.KernelRfl
import Derived.Great.BuildSlice
set_option linter.unusedVariables false
set_option linter.unusedSimpArgs false
set_option maxRecDepth 100000
set_option maxHeartbeats 1000000
namespace Go.Proofs.YtjiflmkpbkeocaaGreatDoor
open Go.Proofs.Tryz (prog)
namespace V
open Go Go.RowKit
open Go.IntKind (i64 u32 u64 wrap_i64 wrap_u32)
open Enc (enc)
section
inductive CS where
 |v (s:Sh)|k (p:PK)
inductive RSh where
 |ob (t:Nat)|blk (l:List CS)|lst (t:Nat)
structure Cp where
 live:List (Nat×Sh2)
 kns:List (Nat×Kn)
 wr:List Nat
 rsh:List (Nat×RSh)
inductive An where
 |leaf
 |two (l r:An)
 |node (ad:List (Key×Nat×TypeId))(cut:Option Cp)(V:List Nat)(rd:List (Nat×List Nat))(l r:An)
abbrev An.r'(a:An):An:=.two .leaf a
def An.ad:An->List (Key×Nat×TypeId)
 |.node a _ _ _ _ _=>a
 |_=>[]
def An.cut:An->Option Cp
 |.node _ c _ _ _ _=>c
 |_=>none
def An.V:An->List Nat
 |.node _ _ v _ _ _=>v
 |_=>[]
def An.rd:An->List (Nat×List Nat)
 |.node _ _ _ d _ _=>d
 |_=>[]
def An.l:An->An
 |.leaf=>.leaf
 |.two l _=>l
 |.node _ _ _ _ l _=>l
def An.r:An->An
 |.leaf=>.leaf
 |.two _ r=>r
 |.node _ _ _ _ _ r=>r
def SlT:List (Nat×Sh2)->Type->Type
 | [],T=>T
 |(_,s)::r,T=>Kw s (SlT r T)
def CST:List CS->Type->Type
 | [],T=>T
 |.v s::r,T=>ShT s (CST r T)
 |.k _::r,T=>CST r T
def BR(U:Uni):List (Nat×RSh)->Type->Type
 | [],T=>T
 |(_,.ob t)::r,T=>U.ty t->BR U r T
 |(_,.blk l)::r,T=>CST l (BR U r T)
 |(_,.lst t)::r,T=>Option Addr->Nat->List (U.el t)->BR U r T
abbrev JT2(U:Uni)(c:Cp):Type:=SlT c.live (BR U c.rsh Prop)
def NC {T:Type}:(l:List (Nat×Sh2))->SlT l T->Fr->(T->Prop)->Prop
 | [],J,_,F=>F J
 |(s,sh)::r,J,fr,F=>Bw sh J (lk fr.g s fr.e) λb=>NC r b fr F
def Cy {T:Type}(id:Nat)(kn:List (Key×Kn)):(l:List CS)->CST l T->Nat->List Value->(T->Prop)->Prop
 | [],J,_,[],F=>F J
 |.v s::r,J,i,v::vs,F=>Ka s J v λb=>Cy id kn r b (i+1) vs F
 | .k p::r,J,i,_::vs,F=>match cP (.c id i) kn with
  | some q=>(match q.eq (.p p)with
   |true=>Cy id kn r J (i+1) vs F
   |false=>False)
  |none=>False
 |_,_,_,_,_=>False
def tf {U:Uni}{T:Type}(rs:List (Res U))(kn:List (Key×Kn)):(l:List (Nat×RSh))->BR U l T->(T->Prop)->Prop
 | [],J,F=>F J
 | (id,.ob t)::r,J,F=>match nth rs id with
  |some (.ob b _ s)=>if h:b=t then tf rs kn r (J (h▸s)) F else False
  |_=>False
 | (id,.blk l)::r,J,F=>match nth rs id with
  |some (.blk _ cs _)=>Cy id kn l J 0 cs λd=>tf rs kn r d F
  |_=>False
 | (id,.lst t)::r,J,F=>match nth rs id with
  |some (.lst b _ _ A c l)=>if h:b=t then tf rs kn r (J A c (h▸l)) F else False
  |_=>False
def Ff(kn:List (Key×Kn)):List (Nat×Kn)->Bool
 | []=>true
 | (s,k)::r=>match cP (.s s) kn with
  | some q=>(match q.eq k with
   |true=>Ff kn r
   |false=>false)
  |none=>false
def ke(n:Nat):List CS->Bool
 | []=>true
 |.v _::r=>ke n r
 | .k p::r=>match Nat.blt p.id n with
  |true=>ke n r
  |false=>false
def fD(n:Nat):List (Nat×RSh)->Bool
 | []=>true
 | (i,.blk l)::r=>match Nat.blt i n && ke n l with
  |true=>fD n r
  |false=>false
 | (i,_)::r=>match Nat.blt i n with
  |true=>fD n r
  |false=>false
def qg(n:Nat):List (Nat×Kn)->Bool
 | []=>true
 | (_,.p k)::r=>match Nat.blt k.id n with
  |true=>qg n r
  |false=>false
 |_::_=>false
def qR {U:Uni}(c:Cp)(n:Nat)(J:JT2 U c)(fr:Fr)(st:St U):Prop:=
 match Ff st.kn c.kns && (gp (λi=>Nat.ble n i || mP i (aK (·.1) c.rsh)) st.md && (fD n c.rsh && qg n c.kns))with
 |true=>NC c.live J fr λb=>tf st.rs st.kn c.rsh b λp=>p
 |false=>False
inductive AV where
 |v (x:Value)|k (p:PK)
inductive UP (U:Uni) where
 |ob (t:Nat)(s:U.ty t)|blk (l:List AV)|lst (t:Nat)(A:Option Addr)(c:Nat)(l:List (U.el t))
def alS {T:Type}:(l:List (Nat×Sh2))->SlT l T->(T->List (Nat×Value)->Prop)->Prop
 | [],J,F=>F J []
 |(s,sh)::r,J,F=>Dz sh J λb v=>alS r b λd vs=>F d ((s,v)::vs)
def Kk {T:Type}:(l:List CS)->CST l T->(T->List AV->Prop)->Prop
 | [],J,F=>F J []
 |.v s::r,J,F=>FF s J λd v=>Kk r d λb l=>F b (.v v::l)
 |.k p::r,J,F=>Kk r J λb l=>F b (.k p::l)
def GX {U:Uni}{T:Type}:(l:List (Nat×RSh))->BR U l T->(T->List (Nat×UP U)->Prop)->Prop
 | [],J,F=>F J []
 |(id,.ob t)::r,J,F=>∀s:U.ty t,GX r (J s) λb us=>F b ((id,.ob t s)::us)
 |(id,.blk l)::r,J,F=>Kk l J λb cs=>GX r b λd us=>F d ((id,.blk cs)::us)
 |(id,.lst t)::r,J,F=>∀(A:Option Addr)(c:Nat)(l:List (U.el t)),GX r (J A c l) λb us=>F b ((id,.lst t A c l)::us)
def lr {U:Uni}(rs:List (Res U)):AV->Value
 |.v x=>x
 |.k p=>(den U rs p).getD undef
def me {U:Uni}(i:Nat):List (Nat×UP U)->Option (UP U)
 | []=>none
 | (j,u)::r=>match Nat.beq j i with
  |true=>some u
  |false=>me i r
def lay {U:Uni}(f:Nat->Res U->Option (Res U)):Nat->List (Res U)->Option (List (Res U))
 |_,[]=>some []
 | i,r::l=>match f i r,lay f (i+1) l with
  |some r',some l'=>some (r'::l')
  |_,_=>none
def Ol {U:Uni}(us:List (Nat×UP U))(i:Nat)(r:Res U):Option (Res U):=
 match me i us with
 |some (.ob t s)=>cV r (.ob t s)
 |some (.lst t A c l)=>cV r (.lst t A c l)
 |_=>some r
def P6 {U:Uni}(b:List (Res U))(us:List (Nat×UP U))(i:Nat)(r:Res U):Option (Res U):=
 match me i us with
 |some (.blk l)=>cV r (.blk (aK (lr b) l))
 |_=>some r
def ze(id:Nat):Nat->List CS->List (Key×Kn)
 |_,[]=>[]
 |i,.v _::r=>ze id (i+1) r
 |i,.k p::r=>(.c id i,.p p)::ze id (i+1) r
def ER:List (Nat×RSh)->List (Key×Kn)
 | []=>[]
 |(id,.blk l)::r=>ze id 0 l++ER r
 |_::r=>ER r
def CK:List (Nat×Kn)->List (Key×Kn)
 | []=>[]
 |(s,k)::r=>(.s s,k)::CK r
def mQ {U:Uni}(rs:List (Res U)):List (Nat×Kn)->List (Nat×Value)
 | []=>[]
 |(s,.p k)::r=>(s,(den U rs k).getD undef)::mQ rs r
 |_::r=>mQ rs r
def Cp.wr2(c:Cp):List Nat:=aK (·.1) c.kns++c.wr
def DC {U:Uni}(c:Cp)(J:JT2 U c)(st:St U)(e:List (Nat×Value))(F:List (Nat×Value)->St U->Prop):Prop:=
 alS c.live J λh vs=>GX c.rsh h λp us=>p->match lay (Ol us) 0 st.rs with
  | some d=>(match lay (P6 d us) 0 d with
   |some b=>uV (Ic b (aK (·.1) c.rsh))<| F (vs++mQ b c.kns++forget c.wr2 e) ⟨b,CK c.kns++(ER c.rsh++dO (λa _=>match a with|.s s=>!(mP s c.wr2)|_=>true) (fE (aK (·.1) c.rsh) st.kn)),[]⟩
   |none=>False)
  |none=>False
def xm {U:Uni}(fr:Fr)(st:St U):Key->Option Value
 |.s i=>some (lk fr.g i fr.e)
 | .c id off=>match nth st.rs id with
  |some (.blk _ cs _)=>nth cs off
  |_=>none
 |.l _ _=>none
def C5 {U:Uni}(k0 s j:Nat)(st:St U):Option (St U):=match cP (.s s) st.kn with
 | some (.p (.sl i 0))=>(match Nat.beq i j with
  |true=>some st
  | false=>(match nth st.rs i,nth st.rs j with
   | some (.lst t true T A c l),some (.lst b true d _ _ _)=>(match Nat.ble k0 i && Nat.ble k0 j && (Nat.beq t b && Nat.beq T d)with
    |true=>some ⟨cf (cf st.rs j (.lst t true T A c l)) i (.lst t true T none 0 []),(.s s,.p (.sl j 0))::fE [i,j] st.kn,i::j::st.md⟩
    |false=>none)
   |_,_=>none))
 |_=>none
def EM {U:Uni}(k0:Nat)(fr:Fr)(s j:Nat)(st:St U)(F:St U->Prop):Prop:=match cP (.s s) st.kn with
 |none=>den U st.rs (.sl j 0)=some (lk fr.g s fr.e)/\F ⟨st.rs,(.s s,.p (.sl j 0))::st.kn,st.md⟩
 | some _=>(match C5 k0 s j st with
  |some st'=>F st'
  |none=>False)
def lR {U:Uni}(k0:Nat)(fr:Fr):List (Key×Nat×TypeId)->St U->(St U->Prop)->Prop
 | [],st,F=>F st
 | (key,tt,T)::r,st,F=>match Nat.ble 1000 tt,key with
  |true,.s s=>EM k0 fr s (tt - 1000) st λst'=>lR k0 fr r st' F
  | _,_=>(match xm fr st key with
   |some (.slice none 0 0)=>lR k0 fr r ⟨st.rs++ [.lst tt true T none 0 []],(key,.p (.sl st.rs.length 0))::dO (λa _=>!(a.eq key)) st.kn,st.md⟩ F
   |_=>False)
section
variable (U:Uni)(P:Program)(tbl:Tb U)(may:List Nat)(k0:Nat)
def sm(i:Nat):List (Nat×List Nat)->List Nat
 | []=>[]
 | (j,l)::r=>match Nat.beq j i with
  |true=>l
  |false=>sm i r
def NV(all:Bool)(V:List Nat)(rd:List (Nat×List Nat))(i:Nat)(o:Oper)(kn:List (Key×Kn)):Bool:=
 match o.op with
 | .load _ x=>(match all || mP i V with
  |true=>true
  | false=>(match kf kn x with
   |some (.p k)=>mP k.id (sm i rd)
   |_=>false))
 |_=>true
def Dy(V:List Nat)(rd:List (Nat×List Nat))(M b:List Nat):Bool:=
 gp (λi=>!(mP i V) && gp (λj=>!(mP j (sm i rd))) M) b
def wq(n:Nat)(N:List Nat)(ops:Array Oper)(all:Bool)(V:List Nat)(rd:List (Nat×List Nat))(K:Fr->St U->Prop):Nat->Array Bool->Fr->St U->Prop
 | 0,listed,fr,st=>match Region.ready .any ops listed with
  | []=>K fr st
  |_=>False
 | fuel+1,listed,fr,st=>match Region.ready .any ops listed with
  | []=>K fr st
  | i0::r0=>match jV P ops listed (i0::r0)with
   | some i=>match ops[i]? with
    | some o=>jl ops o fr
     (λfr=>match Jg o,NV all V rd i o st.kn with
      |false,true=>qe U P o (ev fr) st λv k=>Ap U n N fr o.dst v k st λb st'=>wq n N ops all V rd K fuel (listed.setIfInBounds i true) b st'
      |_,_=>False)
     (λfr=>Ap U n N fr o.dst undef none st λb st'=>wq n N ops all V rd K fuel (listed.setIfInBounds i true) b st')
    |none=>False
   | none=>match all with
    |true=>False
    | false=>DA (λi=>match ops[i]? with
     | some o=>jl ops o fr
      (λfr=>op2 U P tbl may k0 o (ev fr) st λv k st'=>CU k False<| match Dy V rd (j4 (st'.md.length - st.md.length) st'.md) (behind ops listed i)with
       |true=>Ap U n N fr o.dst v k st' λb d=>wq n N ops all V rd K fuel (listed.setIfInBounds i true) b d
       |false=>False)
      (λfr=>Ap U n N fr o.dst undef none st λb st'=>wq n N ops all V rd K fuel (listed.setIfInBounds i true) b st')
     |none=>False) (i0::r0)
abbrev QF2:=Exit->Fr->St U->Prop
def lH(st:St U)(l:List Nat):St U:= {st with md:=st.md++l}
def tQ(may:List Nat)(k0:Nat)(c:Code)(a:An)(Q:QF2 U)(fr:Fr)(st:St U)(F:QF2 U->St U->Prop):Prop:=
 match a.cut with
 |none=>F Q st
 | some b=>match vd b.wr2 (writes c) && gp (lq may k0 st.rs) (aK (·.1) b.rsh)with
  | true=>∃J:JT2 U b,F (λx d st'=>match x with
   |.normal=>qR b st.rs.length J d st'
   |x=>Q x d (lH U st' st.md)) {st with md:= []}/\∀g:Nat->Value,DC b J st fr.e λe st'=>Q .normal ⟨e,g,fr.ds⟩ (lH U st' (aK (·.1) b.rsh++st.md))
  |false=>False
def tR(k0:Nat)(a:An)(Q:QF2 U)(fr:Fr)(st:St U)(F:QF2 U->St U->Prop):Prop:=lR k0 fr a.ad st λst'=>F Q st'
def jJ(may:List Nat)(k0:Nat)(c:Code)(a:An)(Q:QF2 U)(fr:Fr)(st:St U)(F:QF2 U->St U->Prop):Prop:=tR U k0 a Q fr st λQ st=>tQ U may k0 c a Q fr st F
def jK(n:Nat)(N:List Nat):Code->An->QF2 U->Fr->St U->Prop
 |.skip,_,Q,fr,st=>Q .normal fr st
 |.region id ops false,a,Q,fr,st=>jJ U may k0 (.region id ops false) a Q fr st λQ st=>FW U P tbl may k0 n N ops (Q .normal) (λch=>Q (.panic ch)) ops.toList fr st
 | .region id ops true,a,Q,fr,st=>jJ U may k0 (.region id ops true) a Q fr st λQ st=>match Region.noSelect ops,fF ops.toList with
  |true,true=>wq U P tbl may k0 n N ops (nb P ops.toList) a.V a.rd (Q .normal) ops.size (Array.replicate ops.size false) fr st
  |_,_=>False
 |.seq x y,a,Q,fr,st=>jJ U may k0 (.seq x y) a Q fr st λQ st=>jK n N x a.l (λe d st'=>match e with|.normal=>jK n N y a.r Q d st'|e=>Q e d st') fr st
 | .cond c x y,a,Q,fr,st=>jJ U may k0 (.cond c x y) a Q fr st λQ st=>match ev fr c with
  |.bool b=>split b (jK n N x a.l Q fr st) (jK n N y a.r Q fr st)
  |_=>False
 | .block id c,a,Q,fr,st=>jJ U may k0 (.block id c) a Q fr st λQ st=>jK n N c a.l (λe d st'=>match e with
  |.exit i=>(match Nat.beq i id with|true=>Q .normal d st'|false=>Q (.exit i) d st')
  |e=>Q e d st') fr st
 | .loop c,a,Q,fr,st=>tR U k0 a Q fr st λQ st=>match a.cut with
  |none=>False
  | some h=>match vd h.wr2 (writes c) && gp (lq may k0 st.rs) (aK (·.1) h.rsh)with
   | true=>∃I:Nat->JT2 U h,(∃m,qR h st.rs.length (I m) fr {st with md:= []})/\∀(m:Nat)(g:Nat->Value),DC h (I m) st fr.e λe st'=>
    jK n N c a.l (λx d j=>match x with
     |.normal=>∃k,k<m/\qR h st.rs.length (I k) d j
     |x=>Q x d (lH U j (aK (·.1) h.rsh++st.md))) ⟨e,g,fr.ds⟩ st'
   |false=>False
 |.exit id,_,Q,fr,st=>Q (.exit id) fr st
 |.ret,_,Q,fr,st=>Q .ret fr st
 |.label _,_,Q,fr,st=>Q .normal fr st
 | .scope c,a,Q,fr,st=>jJ U may k0 (.scope c) a Q fr st λQ st=>jK n N c a.l (λe d st'=>match e with
  |.goto _=>False
  |e=>Q e d st') fr st
 |_,_,_,_,_=>False
def mF(fr:Fr)(st:St U):List ResultVar->(List Value->List (Option Kn)->Prop)->Prop
 | [],F=>F [] []
 |.tmp t::r,F=>mF fr st r λvs b=>F (lk fr.g t fr.e::vs) (cP (.s t) st.kn::b)
 |.cell a t::r,F=>xF U P t (cP (.s a) st.kn) st λv k=>mF fr st r λvs b=>F (v::vs) (k::b)
def xn:Res U->Upd U
 |.ob t _ s=>.ob t s
 |.blk _ cs _=>.blk cs
 |.lst t _ _ A c l=>.lst t A c l
def posOf(i:Nat):List Nat->Nat->Option Nat
 | [],_=>none
 | j::r,p=>match Nat.beq j i with
  |true=>some p
  |false=>posOf i r (p+1)
def oP(k:Nat)(b:List Nat)(i:Nat):Option Nat:=
 match Nat.blt i k with
 |true=>some i
 |false=>(posOf i b 0).map (k+ ·)
def tB(k0:Nat):Option PK->Bool
 |none=>false
 |some p=>Nat.ble k0 p.id
def Jn(k0:Nat):Option Kn->Bool
 |none=>false
 |some (.p p)=>Nat.ble k0 p.id
 |some (.t l)=>oc (tB k0) l
 |some (.ag l)=>oc (tB k0) l
 |some .pan=>false
 |some (.w p _)=>Nat.ble k0 p.id
 | some (.f a b)=>match oc (tB k0) a with
  |true=>true
  |false=>oc (tB k0) b
def qq(k0:Nat)(aW:List Nat):List (Key×Kn)->Bool
 | []=>false
 | (.c i _,k)::r=>(match mP i aW with
  | true=>(match Jn k0 (some k)with
   |true=>true
   |false=>qq k0 aW r)
  |false=>qq k0 aW r)
 |(_,_)::r=>qq k0 aW r
def QN(k0:Nat)(aW b:List Nat)(k:Option Kn)(kn:List (Key×Kn)):List Nat:=
 match b with
 | []=>[]
 | n::r=>match Nat.beq n 1000000 with
  | true=>(match Jn k0 k with
   |true=>r
   | false=>(match qq k0 aW kn with
    |true=>r
    |false=>[]))
  |false=>n::r
def Js(aW b:List Nat)(Q:Ou U->Prop)(v:Value)(k:Option Kn)(st:St U):Prop:=
 match jT (nth st.rs) aW,jT (nth st.rs) b,gp (λi=>Nat.ble k0 i) b && rh b with
 |some us,some ns,true=>Q ⟨v,Fg (oP k0 b) k,aK (xn U) us,ns,mf (oP k0 b) (dO (λa _=>match a with|.c i _=>mP i aW || mP i b|.l i _=>mP i b|_=>false) st.kn)⟩
 |_,_,_=>False
def A5(aW b:List Nat)(Q:Ou U->Prop)(v:Value)(k:Option Kn)(st:St U):Prop:=Js U k0 aW (QN k0 aW b k st.kn) Q v k st
def qb:Nat->List (Option Kn)->List (Key×Kn)
 |_,[]=>[]
 |i,none::r=>qb (i+1) r
 |i,some k::r=>(.s i,k)::qb (i+1) r
def ot {U:Uni}(rs:List (Res U)):List (Key×Kn)->Bool
 | []=>true
 | (_,.p p)::r=>(match den U rs p with
  |some _=>ot rs r
  |none=>false)
 | (_,.ag l)::r=>(match gp (λo=>match o with|some p=>GK rs p|none=>true) l with
  |true=>ot rs r
  |false=>false)
 |_::_=>false
def oQ(aW d:List Nat)(Q:Ou U->Prop)(fn:Func)(fr:Fr)(st:St U):Prop:=
 mF U P fr st fn.results.toList λvs b=>(match vs,b with
  | [v],[k]=>A5 U k0 aW d Q v k st
  |vs,b=>A5 U k0 aW d Q (.tuple ⟨vs⟩) (some (.t (aK kt b))) st)
def Nt(N:List Nat)(fn:Func)(h:An)(b:List Nat)(args:List Value)(d:List (Option Kn))(rs:List (Res U))(kc:List (Key×Kn))(Q:Ou U->Prop):Prop:=
 match fn.body,Nat.ble args.length fn.ntmps && ot rs (qb 0 d++kc)with
 | some c,true=>jK U P tbl may k0 fn.ntmps N c h (λe fr st=>match fr.ds,e with
  | [],.normal=>oQ U P k0 may b Q fn fr st
  | [],.ret=>oQ U P k0 may b Q fn fr st
  | [],.panic [⟨v,false,false⟩]=>A5 U k0 may b Q v (some .pan) st
  |_,_=>False) ⟨num 0 args,λ_=>undef,[]⟩ ⟨rs,qb 0 d++kc,[]⟩
 |_,_=>False
def Fw(b:Nat):List Oper->Option Nat
 | [⟨none,.defer ⟨.value (.func f),d,_⟩,_,_,_,none⟩]=>(match d.toList,Nat.beq f b with
  | [.tmp t],true=>some t
  |_,_=>none)
 |_=>none
def Oi(a:Key)(k:Kn):Bool:=match a,k with
 |.s _,.p (.loc _ _)=>true
 |_,_=>false
def I7(aW:List Nat)(id off:Nat)(v:Value)(st:St U)(F:St U->Prop):Prop:=
 match nth st.rs id with
 | some (.blk g cs T)=>(match Nat.blt off cs.length && lq aW k0 st.rs id with
  |true=>F ⟨cf st.rs id (.blk g (cf cs off v) T),dO Oi st.kn,id::st.md⟩
  |false=>False)
 |_=>False
def OL(T:TypeId)(id off:Nat)(aW b:List Nat)(Q:Ou U->Prop)(fn:Func):QF2 U:=λe fr st=>match e with
 |.normal=>oQ U P k0 aW b Q fn fr st
 |.ret=>oQ U P k0 aW b Q fn fr st
 | .panic [⟨.iface d (.int .u32 x),false,false⟩]=>(match Nat.beq d T with
  |true=>I7 U k0 aW id off (.int .u32 x) st λst'=>oQ U P k0 aW b Q fn fr st'
  |false=>False)
 |_=>False
def Nv(b:Nat)(T:TypeId)(N:List Nat)(fn:Func)(d:An)(h:List Nat)(code:Code)(Q:Ou U->Prop)(fr0:Fr)(st0:St U):Prop:=
 match code with
 | .seq (.region i0 i false) (.seq (.region _ j false) c)=>jK U P tbl may k0 fn.ntmps N (.region i0 i false) .leaf (λe fr st=>match e with
  | .normal=>(match Fw b j.toList with
   | some t=>(match cP (.s t) st.kn with
    |some (.p (.loc id off))=>jK U P tbl may k0 fn.ntmps N c d (OL U P k0 T id off may h Q fn) ⟨fr.e,fr.g,[⟨.fn (.func b) #[],#[lk fr.g t fr.e]⟩]⟩ st
    |_=>False)
   |none=>False)
  |_=>False) fr0 st0
 |_=>False
def Pv(d:Nat)(T:TypeId)(N:List Nat)(fn:Func)(h:An)(i:List Nat)(args:List Value)(b:List (Option Kn))(rs:List (Res U))(kc:List (Key×Kn))(Q:Ou U->Prop):Prop:=
 match fn.body,Nat.ble args.length fn.ntmps && ot rs (qb 0 b++kc)with
 |some c,true=>Nv U P tbl may k0 d T N fn h i c Q ⟨num 0 args,λ_=>undef,[]⟩ ⟨rs,qb 0 b++kc,[]⟩
 |_,_=>False
end
section
variable {U:Uni}
def alC {T:Type}:(c:CP)->c.T T->(T->AV->Prop)->Prop
 |.int k,J,F=>∀x:Int,F (J x) (.v (.int k x))
 |.bool,J,F=>∀x:Bool,F (J x) (.v (.bool x))
 |.str,J,F=>∀x:ByteArray,F (J x) (.v (.string x))
 |.any,J,F=>∀x:Value,F (J x) (.v x)
 |.hdr,J,F=>∀(A:Option Addr)(n c:Nat),F (J A n c) (.v (.slice A n c))
 |.nsl,J,F=>F J (.v (.slice none 0 0))
 |.nil,J,F=>F J (.v (.pointer none))
 |.fn f,J,F=>F J (.v (.func (.func f) ⟨[]⟩ ⟨[]⟩))
 |.ptr j,J,F=>F J (.k (.loc j 0))
 |.obj j path,J,F=>F J (.k (.obj j path 0))
 |.sl j,J,F=>F J (.k (.sl j 0))
def DD {T:Type}:(l:List CP)->Es l T->(T->List AV->Prop)->Prop
 | [],J,F=>F J []
 |c::l,J,F=>alC c J λb v=>DD l b λd vs=>F d (v::vs)
inductive AA where
 |one (a:AV)|agg (l:List AV)
def alA {T:Type}:(a:AP)->a.T U T->(T->AA->Prop)->Prop
 |.one c,J,F=>alC c J λb v=>F b (.one v)
 |.agg l,J,F=>DD l J λb vs=>F b (.agg vs)
 |.enc tt,J,F=>∀x:U.el tt,F (J x) (.agg (aK .v ((U.en tt).enc x)))
def vo {T:Type}:(l:List AP)->Ey U l T->(T->List AA->Prop)->Prop
 | [],J,F=>F J []
 |a::l,J,F=>alA a J λb v=>vo l b λd vs=>F d (v::vs)
inductive PR (U:Uni) where
 |ob (t:Nat)(r:Nat->Nat)(s:U.ty t)(lk:List (Nat×Nat×Nat))|blk (g:Nat)(l:List AV)(T:TypeId)|lst (t:Nat)(own:Bool)(T:TypeId)(A:Option Addr)(c:Nat)(l:List (U.el t))
def alR {T:Type}:(p:RP)->p.T U T->(T->PR U->Prop)->Prop
 |.ob t lk,J,F=>∀(r:Nat->Nat)(s:U.ty t),F (J r s) (.ob t r s lk)
 |.blk l T,J,F=>∀g:Nat,DD l (J g) λb cs=>F b (.blk g cs T)
 |.lst t own T,J,F=>∀(A:Option Addr)(c:Nat)(l:List (U.el t)),F (J A c l) (.lst t own T A c l)
def vn {T:Type}:(l:List RP)->G5 U l T->(T->List (PR U)->Prop)->Prop
 | [],J,F=>F J []
 |p::l,J,F=>alR p J λb x=>vn l b λd xs=>F d (x::xs)
def PR.j2:PR U->Res U
 |.ob t r s _=>.ob t r s
 |.blk g _ T=>.blk g [] T
 |.lst t own T A c l=>.lst t own T A c l
def PR.fin(rs:List (Res U)):PR U->Res U
 |.ob t r s _=>.ob t r s
 |.blk g l T=>.blk g (aK (lr rs) l) T
 |.lst t own T A c l=>.lst t own T A c l
def dU(l:List (PR U)):List (Res U):=aK (PR.fin (aK PR.j2 l)) l
def qz(rs:List (Res U)):AA->Value
 |.one a=>lr rs a
 |.agg l=>.agg ⟨aK (lr rs) l⟩
def avK:AV->Option PK
 |.v _=>none
 |.k p=>some p
def BH:AA->Option Kn
 |.one (.k p)=>some (.p p)
 |.one (.v _)=>none
 | .agg l=>(match oc isK (aK avK l)with
  |true=>some (.ag (aK avK l))
  |false=>none)
def Ml(id:Nat):Nat->List AV->List (Key×Kn)
 |_,[]=>[]
 |i,.v _::r=>Ml id (i+1) r
 |i,.k p::r=>(.c id i,.p p)::Ml id (i+1) r
def yJ:Nat->List (PR U)->List (Key×Kn)
 |_,[]=>[]
 |i,.blk _ l _::r=>Ml i 0 l++yJ (i+1) r
 |i,_::r=>yJ (i+1) r
def lkK(i:Nat):List (Nat×Nat×Nat)->List (Key×Kn)
 | []=>[]
 |(p,j,q)::l=>(.l i p,.p (.obj j q 0))::lkK i l
def uS:Nat->List (PR U)->List (Key×Kn)
 |_,[]=>[]
 |i,.ob _ _ _ lk::r=>lkK i lk++uS (i+1) r
 |i,_::r=>uS (i+1) r
abbrev fr0:Fr:=⟨[],λ_=>undef,[]⟩
abbrev ln(k:Option Kn)(v:Value):Ending:=match k with
 |some .pan=>.panicked [⟨v,false,false⟩]
 |_=>.returned v
structure sX(rs:List (Res U))(aW:List Nat)(X:Nat->Nat->Prop)(w:World)(out:Ou U)(w':World)(rs':List (Res U))(X':Nat->Nat->Prop):Prop where
 sat:Sat (rs'++out.news) X' w'
 ch:Ch (λk=>∃j,j∈aW/\X j k) w w'
 same:∀i,i<rs.length->i ∉ aW->X' i=X i
 grow:∀i,i∈aW->∀k,X' i k->X i k\/w.heap.size<=k
 new:∀i,rs.length<=i->i<rs.length+out.news.length->∀k,X' i k->w.heap.size<=k
 kr:out.kr=some .pan\/KnO (rs'++out.news) out.res out.kr
 kc:∀key k,(key,k)∈out.kc->(∀i,key≠ .s i)->ei (rs'++out.news) fr0 key k
def aR(rs:List (Res U))(aW:List Nat)(X:Nat->Nat->Prop)(w:World)(Q:Ou U->Prop)(e:Ending)(w':World):Prop:=∃out rs' b,e=ln out.kr out.res/\Q out/\br rs aW out.upd=some rs'/\sX rs aW X w out w' rs' b
def LVg(U:Uni)(R:Array Value->World->(Ending->World->Prop)->Prop)(c:Ctr U):Prop:=vo c.args c.body λB d=>vn c.res B λB b=>∀Q:Ou U->Prop,B Q->∀(X:Nat->Nat->Prop)(w:World),Sat (dU b) X w->aG (dU b) fr0 (uS 0 b)->R ⟨aK (qz (aK PR.j2 b)) d⟩ w λe w'=>∃out rs' h,e=ln out.kr out.res/\Q out/\br (dU b) c.aW out.upd=some rs'/\sX (dU b) c.aW X w out w' rs' h
def LV(U:Uni)(P:Program)(f:Nat)(c:Ctr U):Prop:=LVg U (Calls P f) c
def Vc2(U:Uni)(P:Program)(tbl:Tb U)(N:List Nat)(fn:Func)(h:An)(i:List Nat)(c:Ctr U):Prop:=vo c.args c.body λB d=>vn c.res B λB b=>∀Q:Ou U->Prop,B Q->uV (dU b) (Nt U P tbl c.aW c.res.length N fn h i (aK (qz (aK PR.j2 b)) d) (aK BH d) (dU b) (yJ 0 b++uS 0 b) Q)
def VcD(U:Uni)(P:Program)(tbl:Tb U)(h:Nat)(T:TypeId)(N:List Nat)(fn:Func)(i:An)(j:List Nat)(c:Ctr U):Prop:=vo c.args c.body λB d=>vn c.res B λB b=>∀Q:Ou U->Prop,B Q->uV (dU b) (Pv U P tbl c.aW c.res.length h T N fn i j (aK (qz (aK PR.j2 b)) d) (aK BH d) (dU b) (yJ 0 b++uS 0 b) Q)
end
end
section
section
variable {U:Uni}{P:Program}{tbl:Tb U}{may:List Nat}{k0:Nat}
theorem iY {α β:Type}(f:α->β):∀l,aK f l=l.map f
 | []=>rfl
 |a::l=>by simp[aK,iY f l]
theorem bx {α β:Type}(f:α->β):∀(l:List α)(i:Nat),nth (aK f l) i=(nth l i).map f
 | [],_=>rfl
 |_::_,0=>rfl
 |_::l,i+1=>bx f l i
@[simp] theorem uQ {α β:Type}(f:α->β):∀l:List α,(aK f l).length=l.length
 | []=>rfl
 |_::l=>by simp[aK,uQ f l]
theorem gh {x:Nat}:∀ {l:List Nat},mP x l=true↔x∈l
 | []=>by simp[mP]
 | y::r=>by
  unfold mP;split
  ·rename_i h;have:=Nat.eq_of_beq_eq_true h;simp[this]
  ·rename_i h;have b:¬x=y:=by rintro rfl;simp at h
   rw[gh];simp[b]
theorem oT:∀ {l:List Nat},rh l=true->l.Nodup
 | [],_=>List.nodup_nil
 | x::r,h=>by
  unfold rh at h;split at h
  ·cases h
  ·rename_i hm;refine List.nodup_cons.2 ⟨λb=>?_,oT h⟩;rw[gh.2 b]at hm;cases hm
theorem cx {α:Type}{f:α->Bool}:∀ {l:List α},gp f l=true↔∀x∈l,f x=true
 | []=>by simp[gp]
 | a::r=>by
  unfold gp;split
  ·rename_i h;rw[cx];simp[h]
  ·rename_i h;simp[h]
theorem BB {α:Type}{f:α->Bool}:∀ {l:List α},oc f l=true↔∃x∈l,f x=true
 | []=>by simp[oc]
 | a::r=>by
  unfold oc;split
  ·rename_i h;simp[h]
  ·rename_i h;rw[BB];simp[h]
theorem uO {α β:Type}{f:α->Option β}:∀ {l:List α}{r:List β},jT f l=some r->r.length=l.length/\∀i a,nth l i=some a->∃b,f a=some b/\nth r i=some b
 | [],r,h=>by
  simp only[jT,Option.some.injEq]at h;subst h;exact⟨rfl,λi a hi=>by simp[nth]at hi⟩
 | a::l,r,h=>by
  unfold jT at h;split at h
  ·rename_i b p hb j;injection h with h
   subst h;obtain⟨k,o⟩:=uO j;refine⟨by simp[k],λi x d=>?_⟩;cases i with
   |zero=>simp[nth]at d;subst d;exact⟨b,hb,rfl⟩
   |succ i=>exact o i x d
  ·cases h
theorem eH {α:Type}:∀(n:Nat)(l:List α),j4 n l=l.take n
 |0,_=>by simp[j4]
 |n+1,[]=>by simp[j4]
 |n+1,a::l=>by simp[j4,eH n l]
theorem fK {α:Type}:∀(n:Nat)(l:List α),mY n l=l.drop n
 |0,_=>by simp[mY]
 |n+1,[]=>by simp[mY]
 |n+1,a::l=>by simp[mY,fK n l]
theorem ui {α:Type}:∀(l:List α)(i:Nat)(x:α),cf l i x=l.set i x
 | [],_,_=>by simp[cf]
 |_::_,0,_=>rfl
 |_::l,i+1,x=>by simp[cf,ui l i x]
theorem sk:∀(vs cs:List Value)(o:Nat),setAt ⟨cs⟩ o vs=⟨g9 cs o vs⟩
 | [],_,_=>rfl
 | v::r,cs,o=>by
  have e:(Array.mk cs).setIfInBounds o v=⟨cf cs o v⟩:=by apply Array.ext';simp[ui]
  simp only[setAt,g9,e];exact sk r _ _
@[simp] theorem F6 {α:Type}:∀(vs cs:List α)(o:Nat),(g9 cs o vs).length=cs.length
 | [],_,_=>rfl
 |v::r,cs,o=>by simp[g9,F6 r]
theorem nH {α:Type}:∀(vs cs:List α)(o i:Nat),o+vs.length<=cs.length->nth (g9 cs o vs) i=if o<=i/\i<o+vs.length then nth vs (i - o)else nth cs i
 | [],cs,o,i,h=>by
  simp only[g9,List.length_nil,Nat.add_zero];rw[if_neg (by omega)]
 | v::r,cs,o,i,h=>by
  simp only[List.length_cons]at h;simp only[g9,List.length_cons];rw[nH r _ _ _ (by simp;omega),bD];by_cases b:o+1<=i/\i<o+1+r.length
  ·rw[if_pos b,if_pos (by omega)];have:i - o=(i - (o+1))+1:=by omega
   rw[this];rfl
  ·rw[if_neg b];by_cases d:i=o
   ·subst d;rw[if_pos ⟨rfl,by omega⟩,if_pos (by omega)];simp[nth]
   ·rw[if_neg (by omega),if_neg (by omega)]
theorem dK {f:Key->Kn->Bool}{key:Key}{k:Kn}:∀ {l:List (Key×Kn)},(key,k)∈dO f l->(key,k)∈l/\f key k=true
 | [],h=>by cases h
 | (a,q)::r,h=>by
  unfold dO at h;split at h
  ·rename_i b;rcases List.mem_cons.1 h with e|h
   ·injection e with e1 d;subst e1;subst d;exact⟨List.mem_cons_self ..,b⟩
   ·have:=dK h;exact⟨List.mem_cons_of_mem _ this.1,this.2⟩
  ·have:=dK h;exact⟨List.mem_cons_of_mem _ this.1,this.2⟩
theorem Key.oX:∀ {a b:Key},a.eq b=true->a=b
 |.s a,.s b,h=>by rw[Nat.eq_of_beq_eq_true h]
 | .c a b,.c x y,h=>by
  simp only[Key.eq,Bool.and_eq_true]at h;rw[Nat.eq_of_beq_eq_true h.1,Nat.eq_of_beq_eq_true h.2]
 | .l a b,.l x y,h=>by
  simp only[Key.eq,Bool.and_eq_true]at h;rw[Nat.eq_of_beq_eq_true h.1,Nat.eq_of_beq_eq_true h.2]
 |.s _,.l _ _,h=>by cases h
 |.l _ _,.s _,h=>by cases h
 |.c _ _,.l _ _,h=>by cases h
 |.l _ _,.c _ _,h=>by cases h
 |.s _,.c _ _,h=>by cases h
 |.c _ _,.s _,h=>by cases h
theorem xH {key:Key}{k:Kn}:∀ {l:List (Key×Kn)},cP key l=some k->(key,k)∈l
 | [],h=>by cases h
 | (a,q)::r,h=>by
  unfold cP at h;split at h
  ·rename_i he;injection h with h
   subst h;rw[Key.oX he];exact List.mem_cons_self ..
  ·exact List.mem_cons_of_mem _ (xH h)
theorem PK.oX:∀ {a b:PK},a.eq b=true->a=b
 | .loc a b,.loc x y,h=>by
  simp only[PK.eq,Bool.and_eq_true]at h;rw[Nat.eq_of_beq_eq_true h.1,Nat.eq_of_beq_eq_true h.2]
 | .obj a b c,.obj x y z,h=>by
  simp only[PK.eq,Bool.and_eq_true]at h;rw[Nat.eq_of_beq_eq_true h.1,Nat.eq_of_beq_eq_true h.2.1,Nat.eq_of_beq_eq_true h.2.2]
 | .sl a b,.sl x y,h=>by
  simp only[PK.eq,Bool.and_eq_true]at h;rw[Nat.eq_of_beq_eq_true h.1,Nat.eq_of_beq_eq_true h.2]
 |.loc ..,.obj ..,h|.loc ..,.sl ..,h|.loc ..,.el ..,h|.obj ..,.loc ..,h|.obj ..,.sl ..,h|.obj ..,.el ..,h|.sl ..,.loc ..,h|.sl ..,.obj ..,h|.sl ..,.el ..,h|.el ..,.loc ..,h|.el ..,.obj ..,h|.el ..,.sl ..,h|.el ..,.el ..,h=>by cases h
theorem Kn.oX {a b:Kn}(h:a.eq b=true):a=b/\∃p,a=.p p:=by
 cases a<;>cases b<;>simp only[Kn.eq]at h<;>first|cases h|skip
 rename_i p q;exact⟨by rw[PK.oX h],p,rfl⟩
def Kn.has(p:PK):Kn->Prop
 |.p k=>k=p
 |.t l=>∃j,nth l j=some (some p)
 |.ag l=>∃j,nth l j=some (some p)
 |.f a b=>(∃j,nth a j=some (some p))\/∃j,nth b j=some (some p)
 |.pan=>False
 |.w k _=>k=p
theorem jD.mono {rs rs':List (Res U)}{v:Value}{k:Kn}(h:jD rs v k)(hd:∀p,k.has p->∀u,den U rs p=some u->den U rs' p=some u):jD rs' v k:=by
 cases k with
 |pan=>exact h
 |p k=>exact hd k rfl _ h
 |w k n=>obtain⟨a,c,i,o⟩:=h;exact⟨a,c,hd k rfl _ i,o⟩
 | t l=>
  obtain⟨vs,i,o⟩:=h;exact⟨vs,i,λj k d=>by obtain⟨u,hu,q⟩:=o j k d;exact⟨u,hu,hd k ⟨j,d⟩ _ q⟩⟩
 | ag l=>
  obtain⟨vs,i,o⟩:=h;exact⟨vs,i,λj k d=>by obtain⟨u,hu,q⟩:=o j k d;exact⟨u,hu,hd k ⟨j,d⟩ _ q⟩⟩
 | f a b=>
  obtain⟨f,fs,cs,i,r,o,x⟩:=h;exact⟨f,fs,cs,i,r,λj k d=>by obtain⟨u,hu,q⟩:=o j k d;exact⟨u,hu,hd k (.inl ⟨j,d⟩) _ q⟩,λj k d=>by obtain⟨u,hu,q⟩:=x j k d;exact⟨u,hu,hd k (.inr ⟨j,d⟩) _ q⟩⟩
theorem jx {α:Type}:∀ {l:List α}{i:Nat}{x:α},nth l i=some x->x∈l
 |a::l,0,x,h=>by simp[nth]at h;subst h;exact List.mem_cons_self ..
 |a::l,i+1,x,h=>List.mem_cons_of_mem _ (jx (l:=l) h)
theorem Kn.C3 {k:Kn}{i:Nat}(h:k.ofList i=false){p:PK}(hp:k.has p):p.ofList i=false:=by
 have key:∀ {l:List (Option PK)},oc (xw i) l=false->∀j,nth l j=some (some p)->p.ofList i=false:=by
  intro l o j d;cases he:p.ofList i
  ·rfl
  ·have:oc (xw i) l=true:=BB.2 ⟨some p,jx d,he⟩;rw[o]at this;cases this
 cases k with
 |pan=>exact hp.elim
 |p k=>cases hp;exact h
 |w k n=>cases hp;exact h
 |t l=>obtain⟨j,d⟩:=hp;exact key h j d
 |ag l=>obtain⟨j,d⟩:=hp;exact key h j d
 | f a b=>
  simp only[Kn.ofList]at h;split at h
  ·cases h
  ·rename_i q;rcases hp with⟨j,d⟩|⟨j,d⟩
   ·exact key q j d
   ·exact key h j d
inductive dH:Res U->Res U->Prop
 |blk (g:Nat)(cs cs':List Value)(T:TypeId):cs.length=cs'.length->dH (.blk g cs T) (.blk g cs' T)
 |ob (t:Nat)(r:Nat->Nat)(s s':U.ty t):dH (.ob t r s) (.ob t r s')
 |lst (t:Nat)(own:Bool)(T:TypeId)(A A':Option Addr)(c c':Nat)(l l':List (U.el t)):dH (.lst t own T A c l) (.lst t own T A' c' l')
theorem dH.refl:∀a:Res U,dH a a
 |.blk g cs T=>.blk g cs cs T rfl
 |.ob t r s=>.ob t r s s
 |.lst t own T A c l=>.lst t own T A A c c l l
theorem dH.den {a b:Res U}(h:dH a b){p:PK}{v:Value}(hp:p.ofList p.id=false\/a=b)(hd:cl U p (some a)=some v):cl U p (some b)=some v:=by
 rcases hp with hp|rfl
 ·cases h<;>cases p<;>simp only[cl,PK.ofList,PK.id,reduceCtorEq]at hd hp ⊢ <;>first|exact hd|(simp at hp)
 ·exact hd
theorem Bv {r r':Res U}{u:Upd U}(h:cV r u=some r'):dH r r':=by
 cases r<;>cases u<;>simp only[cV]at h<;>first|cases h|skip
 ·split at h
  ·rename_i hb;injection h with h;subst h
   exact .blk _ _ _ _ (Nat.eq_of_beq_eq_true hb).symm
  ·cases h
 ·split at h
  ·rename_i t r s d s' b;subst b;injection h with h;subst h
   exact .ob _ _ _ _
  ·cases h
 ·split at h
  ·rename_i t own T A c l d A' c' l' b;subst b;injection h with h;subst h
   exact .lst _ _ _ _ _ _ _ _ _
  ·cases h
theorem dH.trans {a b c:Res U}(h:dH a b)(k:dH b c):dH a c:=by
 cases h<;>cases k
 ·rename_i d _ i;exact .blk _ _ _ _ (d.trans i)
 ·exact .ob _ _ _ _
 ·exact .lst _ _ _ _ _ _ _ _ _
theorem qm {rs rs':List (Res U)}{M:List Nat}(hs:∀i,i<rs.length->i ∉ M->nth rs' i=nth rs i)(j:∀i,i∈M->∀a,nth rs i=some a->∃b,nth rs' i=some b/\dH a b)
 {p:PK}(hp:p.id ∉ M\/p.ofList p.id=false){v:Value}(hd:den U rs p=some v):den U rs' p=some v:=by
 unfold den at hd ⊢;cases d:nth rs p.id with
 |none=>rw[d]at hd;cases p<;>simp[cl]at hd
 | some a=>
  rw[d]at hd;by_cases hm:p.id∈M
  ·obtain⟨b,hb,k⟩:=j _ hm a d;rw[hb];exact k.den (.inl (hp.elim (λh=>absurd hm h) id)) hd
  ·rw[hs _ (aX d) hm,d];exact hd
theorem ei.QO {rs:List (Res U)}{fr b:Fr}(h:∀i,lk b.g i b.e=lk fr.g i fr.e){key:Key}{k:Kn}(hp:ei rs fr key k):ei rs b key k:=by
 cases key with
 |s i=>show jD rs (lk b.g i b.e) k;rw[h];exact hp
 |c id off=>exact hp
 |l id path=>exact hp
theorem aG.same {rs:List (Res U)}{fr b:Fr}{kn:List (Key×Kn)}(h:aG rs fr kn)(he:∀i,lk b.g i b.e=lk fr.g i fr.e):aG rs b kn:=λkey k d=>(h key k d).QO he
theorem aG.app {rs:List (Res U)}{fr:Fr}{a b:List (Key×Kn)}(h:aG rs fr a)(k:aG rs fr b):aG rs fr (a++b):=λkey q hq=>(List.mem_append.1 hq).elim (h key q) (k key q)
theorem aG.nil {rs:List (Res U)}{fr:Fr}:aG rs fr []:=λ_ _ h=>by cases h
theorem aG.get {rs:List (Res U)}{fr:Fr}{kn:List (Key×Kn)}(h:aG rs fr kn){key:Key}{k:Kn}(b:cP key kn=some k):ei rs fr key k:=h _ _ (xH b)
theorem aG.kf {rs:List (Res U)}{fr:Fr}{kn:List (Key×Kn)}(h:aG rs fr kn)(x:Operand):KnO rs (ev fr x) (V.kf kn x):=by
 cases x with
 | tmp t=>
  show KnO rs (lk fr.g t fr.e) (cP (.s t) kn);cases b:cP (.s t) kn with
  |none=>exact trivial
  |some k=>exact h.get b
 |const v=>exact trivial
 |global g=>exact trivial
 |func f=>exact trivial
theorem aG.ij {rs rs':List (Res U)}{fr:Fr}{kn:List (Key×Kn)}{M:List Nat}(h:aG rs fr kn)(hs:∀i,i<rs.length->i ∉ M->nth rs' i=nth rs i)(x:∀i,i∈M->∀a,nth rs i=some a->∃b,nth rs' i=some b/\dH a b)
 {kn':List (Key×Kn)}(A:∀key k,(key,k)∈kn'->(key,k)∈kn/\(∀p,k.has p->p.id ∉ M\/p.ofList p.id=false)/\∀id off,key=.c id off->id ∉ M\/∃g cs y T,nth rs id=some (.blk g cs T)/\nth rs' id=some (.blk g y T)/\nth y off=nth cs off):aG rs' fr kn':=by
 intro key k hm;obtain⟨B,C,o⟩:=A key k hm;have q:=h key k B;have hd:∀p,k.has p->∀u,den U rs p=some u->den U rs' p=some u:=λp hp u hu=>qm hs x (C p hp) hu;cases key with
 |s i=>exact jD.mono q hd
 | c id off=>
  obtain⟨g,cs,T,v,e1,j,z⟩:=q;rcases o id off rfl with o|⟨J,O,F,Q,d,e5,e6⟩
  ·exact⟨g,cs,T,v,by rw[hs _ (aX e1) o];exact e1,j,z.mono hd⟩
  ·rw[e1]at d;injection d with d
   injection d with d G H
   subst d;subst G;subst H;exact⟨g,F,T,v,e5,by rw[e6];exact j,z.mono hd⟩
 | l id path=>
  obtain⟨t,r,s,e1,j⟩:=q;by_cases hm:id∈M
  ·obtain⟨b,hb,I⟩:=x id hm _ e1;cases I;exact⟨t,r,_,hb,j.mono hd⟩
  ·exact⟨t,r,s,by rw[hs _ (aX e1) hm];exact e1,j.mono hd⟩
theorem xt {key:Key}{k:Kn}:∀ {M:List Nat}{kn:List (Key×Kn)},(key,k)∈fE M kn->(key,k)∈kn/\∀i∈M,k.ofList i=false/\∀off,key≠ .c i off
 | [],kn,h=>⟨h,λi hi=>by cases hi⟩
 | i::r,kn,h=>by
  unfold fE at h;obtain⟨l,o⟩:=xt h;obtain⟨p,b⟩:=dK l;simp only[Bool.and_eq_true,Bool.not_eq_true']at b;refine⟨p,λj d=>?_⟩;rcases List.mem_cons.1 d with rfl|d
  ·refine⟨b.1,λoff e=>?_⟩;subst e;simp at b
  ·exact o j d
theorem aG.fE {rs rs':List (Res U)}{fr:Fr}{kn:List (Key×Kn)}{M:List Nat}(h:aG rs fr kn)(hs:∀i,i<rs.length->i ∉ M->nth rs' i=nth rs i)(j:∀i,i∈M->∀a,nth rs i=some a->∃b,nth rs' i=some b/\dH a b):aG rs' fr (V.fE M kn):=by
 refine h.ij hs j λkey k l=>?_;obtain⟨o,d⟩:=xt l;refine⟨o,λp hp=>?_,λid off e=>?_⟩
 ·by_cases hm:p.id∈M
  ·exact .inr (Kn.C3 (d _ hm).1 hp)
  ·exact .inl hm
 ·by_cases hm:id∈M
  ·exact absurd e ((d id hm).2 off)
  ·exact .inl hm
theorem I9 {rs:List (Res U)}{fr b:Fr}{kn:List (Key×Kn)}{d:Nat}{v:Value}{k:Option Kn}(h:aG rs fr kn)(p:KnO rs v k)(r:lk b.g d b.e=v)(t:∀i,i≠d->lk b.g i b.e=lk fr.g i fr.e):aG rs b (AQ (.s d) k kn):=by
 have key:aG rs b (dO (λa _=>!(a.eq (.s d))) kn):=by
  intro a q hq;obtain⟨hm,u⟩:=dK hq;have j:=h a q hm;cases a with
  | s i=>
   have x:i≠d:=by rintro rfl;simp[Key.eq]at u
   show jD rs (lk b.g i b.e) q;rw[t i x];exact j
  |c id off=>exact j
  |l id path=>exact j
 unfold AQ;split
 ·exact key
 ·rename_i q;intro a z o;rcases List.mem_cons.1 o with e|o
  ·injection e with e1 y
   subst e1;subst y;show jD rs (lk b.g d b.e) z;rw[r];exact p
  ·exact key a z o
theorem yU(g:Nat->Value)(d i:Nat)(v:Value)(e:List (Nat×Value)):lk g i ((d,v)::e)=if i=d then v else lk g i e:=by
 simp only[lk];split
 ·rename_i h;rw[if_pos (Nat.eq_of_beq_eq_true h)]
 ·rename_i h;rw[if_neg (by rintro rfl;simp at h)]
theorem kO {n:Nat}{N:List Nat}{fr:Fr}{dst:Option Tmp}{v:Value}{k:Option Kn}{st:St U}{F:Fr->St U->Prop}(h:Ap U n N fr dst v k st F)(l:aG st.rs fr st.kn)(o:KnO st.rs v k):
 kq n N fr dst v λj=>∃st',st'.rs=st.rs/\st'.md=st.md/\aG st.rs j st'.kn/\j.ds=fr.ds/\F j st':=by
 unfold Ap at h;unfold kq at h ⊢;cases dst with
 |none=>exact⟨st,rfl,rfl,l,rfl,h⟩
 | some d=>
  dsimp only at h ⊢;split at h
  ·rename_i hb;have fin:∀u,u=v->F ⟨(d,u)::fr.e,fr.g,fr.ds⟩ {st with kn:=AQ (.s d) k st.kn}->∃st':St U,st'.rs=st.rs/\st'.md=st.md/\aG st.rs ⟨(d,u)::fr.e,fr.g,fr.ds⟩ st'.kn/\fr.ds=fr.ds/\F ⟨(d,u)::fr.e,fr.g,fr.ds⟩ st':=by
    intro u hu p;subst hu;exact⟨{st with kn:=AQ (.s d) k st.kn},rfl,rfl,I9 l o (by rw[yU,if_pos rfl]) (λi hi=>by rw[yU,if_neg hi]),rfl,p⟩
   split at h
   ·rename_i q;cases v with
    |int kk x=>intro z b;exact fin _ (by rw[b]) (h z b)
    |bool x=>intro z b;exact fin _ (by rw[b]) (h z b)
    |_=>exact fin _ rfl h
   ·exact fin _ rfl h
  ·exact h.elim
theorem mR {ops:Array Oper}{o:Oper}{fr:Fr}{yes no t u:Fr->Prop}(h:jl ops o fr yes no)(q:∀k,(∀i,lk k.g i k.e=lk fr.g i fr.e)->k.ds=fr.ds->yes k->t k)(r:∀k,(∀i,lk k.g i k.e=lk fr.g i fr.e)->k.ds=fr.ds->no k->u k):jl ops o fr t u:=by
 unfold jl at h ⊢;split at h
 ·exact q fr (λ_=>rfl) rfl h
 ·rename_i j want x;split at h
  ·rename_i d hd;split at h
   ·rename_i b hb;have p:∀b',lk fr.g d fr.e=.bool b'->∀i,lk fr.g i ((d,.bool b')::fr.e)=lk fr.g i fr.e:=by
     intro b' v i;rw[yU];split
     ·rename_i e;rw[e,v]
     ·rfl
    rcases gK h with⟨rfl,l⟩|⟨rfl,l⟩
    ·refine ao (λ_=>?_) (λe=>by cases e);cases want
     ·exact r _ (p _ hb) rfl l
     ·exact q _ (p _ hb) rfl l
    ·refine ao (λe=>by cases e) (λ_=>?_);cases want
     ·exact q _ (p _ hb) rfl l
     ·exact r _ (p _ hb) rfl l
   ·exact r fr (λ_=>rfl) rfl h
   ·exact h.elim
  ·exact h.elim
theorem Gg {o:Oper}{ρ:Operand->Value}{F:Value->Prop}(d:∀v,ρ (.const v)=v)(b:∀t x,o.op≠ .load t x)(h:sq P o ρ F)(w:World):∃v,F v/\∀w',w'.os=w.os->w'.tape=w.tape->w'.output=w.output->(execOp ρ o).run P w'=.ok (.value v) w':=by
 have hw:so P none o ρ {w with heap:= #[]} F False:=by
  unfold sq so at h;unfold so;generalize o.op=op at h b ⊢;cases op<;>first|exact h|exact absurd rfl (b _ _)
 rcases qY d hw with⟨v,i,j⟩|l
 ·exact⟨v,i,λw' p q r=>j w' ⟨p,q,r,Nat.zero_le _,λk u=>absurd u (Nat.not_lt_zero _)⟩⟩
 ·exact l.elim
def rdX(o:Oper)(kn:List (Key×Kn))(X:Nat->Nat->Prop):Nat->Prop:=
 match o.op with
 | .load _ x=>(match V.kf kn x with
  |some (.p k)=>X k.id
  |_=>λ_=>False)
 |_=>λ_=>False
theorem Dl {s:TypeId}{x:Value}{f:Nat}{F:Value->Prop}(h:lL P s x f F):∃fields fd p,P.underlying s=some (.struct fields)/\fields[f]? =some fd/\x=.pointer (some p)/\F (.pointer (some (p.add fd.offset)))/\∀w,(Instr.fieldAt s x f).run P w=.ok (.pointer (some (p.add fd.offset))) w:=by
 have key:∀fields fd p,P.underlying s=some (.struct fields)->fields[f]? =some fd->x=.pointer (some p)->∀w,(Instr.fieldAt s x f).run P w=.ok (.pointer (some (p.add fd.offset))) w:=by
  intro fields fd p d j k w;have l:lL P s x f λv=>v=.pointer (some (p.add fd.offset)):=by
   unfold lL at h ⊢;subst k;rw[d]at h ⊢;simp only at h ⊢;rw[j]at h ⊢;simp only at h ⊢;split at h
   ·rename_i i hi;split at h
    ·exact au p rfl rfl
    ·exact h.elim
   ·exact h.elim
  obtain⟨v,o,q⟩:=u7 l;rw[q w,o]
 have t:=h;unfold lL at h;split at h
 ·rename_i fields hs;split at h
  ·rename_i fd b;split at h
   ·split at h
    ·split at h
     ·obtain⟨p,hp,r⟩:=dq h;exact⟨fields,fd,p,hs,b,by rw[hp],r,key fields fd p hs b (by rw[hp])⟩
     ·exact h.elim
    ·exact h.elim
   ·exact h.elim
  ·exact h.elim
 ·exact h.elim
theorem Jk {t:TypeId}{p:Addr}{i:Value}{F:Value->Prop}(h:n9 P t (.pointer (some p)) i F):∃n e k ix,P.underlying t=some (.array n e)/\i=.int k ix/\F (.pointer (some (p.add (ix.toNat *aZ P e))))/\∀w,(Instr.indexAt t (.pointer (some p)) i).run P w=.ok (.pointer (some (p.add (ix.toNat *aZ P e)))) w:=by
 unfold n9 at h;cases hu:P.underlying t with
 |none=>rw[hu]at h;exact h.elim
 | some d=>
  rw[hu]at h;cases d<;>first|exact h.elim|skip
  rename_i n e;cases i<;>first|exact h.elim|skip
  rename_i k ix;simp only at h;split at h
  ·rename_i he;obtain⟨hb,h⟩:=h;obtain⟨q,hq,b⟩:=dq h;injection hq with hq
   subst hq;refine⟨n,e,k,ix,rfl,rfl,b,λw=>?_⟩;have j:n9 P t (.pointer (some p)) (.int k ix) λv=>v=.pointer (some (p.add (ix.toNat *aZ P e))):=by
    unfold n9;rw[hu];simp only[he];exact⟨hb,au p rfl rfl⟩
   obtain⟨v,l,o⟩:=k8 j;rw[o w,l]
  ·exact h.elim
theorem LO {t e:TypeId}{A:Option Addr}{n c:Nat}{k:IntKind}{ix:Int}{p:Addr}(b:P.underlying t=some (.slice e))(he:hasType P e=true)(hb:0<=ix/\ix<n)(d:A=some p)(w:World):(Instr.indexAt t (.slice A n c) (.int k ix)).run P w=.ok (.pointer (some (p.add (ix.toNat *aZ P e)))) w:=by
 have h:n9 P t (.slice A n c) (.int k ix) λv=>v=.pointer (some (p.add (ix.toNat *aZ P e))):=by
  unfold n9;rw[b];simp only[he];exact⟨hb,au p d rfl⟩
 obtain⟨v,i,j⟩:=k8 h;rw[j w,i]
theorem RS.rd {X:Nat->Prop}{w:World}{t:Nat}{own:Bool}{T:TypeId}{A:Option Addr}{c:Nat}{l:List (U.el t)}(h:RS X w (.lst t own T A c l)):Rd w X A l.length c l:=by
 cases own
 ·exact h
 ·have b:Rd w (λk=>X k/\k<w.heap.size) A l.length c l:=h.1.rd;exact b.mono (λk d=>d.1) h.2
theorem RS.ls {X:Nat->Prop}{w:World}{r:Res U}{li:Nat}{L:Ls U.el}(h:RS X w r)(b:iu r li=some L):Rd w X L.A L.l.length L.c L.l:=by
 unfold iu at b;split at b
 ·injection b with b
  subst b;exact RS.rd h
 ·exact U.oq h b
 ·cases b
theorem dF {α:Type}{o:Option α}{F:α->Prop}(h:hH o F):∃a,o=some a/\F a:=by
 cases o with
 |none=>exact h.elim
 |some a=>exact⟨a,rfl,h⟩
theorem kT {t:TypeId}{cs:List Value}{off:Nat}{v:Value}(h:j8 P t cs off=some v){w:World}{p:Addr}(hp:∀j u,j<aZ P t->nth cs (off+j)=some u->w.cell? (p.add j)=some u):(Instr.loadAt t (.pointer (some p))).run P w=.ok v w:=by
 unfold j8 at h;split at h
 ·rename_i hb;simp only[Bool.and_eq_true]at hb;obtain⟨d,B,o,q⟩:=hb;have q:off+aZ P t<=cs.length:=Nat.le_of_ble_eq_true q;have b:jh (ej P t)=aZ P t:=Nat.eq_of_beq_eq_true o;refine mC (s:=ej P t) d B o ?_;have hd:∀j,nth (cs.drop off) j=nth cs (off+j):=λj=>by rw[aM,aM,List.getElem?_drop]
  split at h
  ·rename_i s hs;have:=hp 0 v (by rw[<-b,hs];simp[jh]) (by simpa using h);rw[hs];simpa[jy,Addr.add]using this
  ·rename_i l hs;injection h with h
   subst h;rw[hs]at b ⊢;simp only[jh]at b;have hlen:(cs.drop off |>.take l.length).length=l.length:=by simp;omega
   simp only[jy,eH,fK,hlen,Nat.beq_refl];have key:∀(vs:List Value)(i:Nat),(∀j u,vs[j]? =some u->w.cell? (p.add (i+j))=some u)->aO w p i vs:=by
    intro vs
    induction vs with
    |nil=>intro _ _;exact trivial
    | cons x r C=>
     intro i z;have A:=z 0 x rfl;have d:=C (i+1) λj u hu=>by rw[show i+1+j=i+(j+1)by omega];exact z (j+1) u (by simpa using hu)
     cases r with
     |nil=>exact A
     |cons y r=>exact⟨A,d⟩
   refine key _ 0 λj u hu=>?_;rw[Nat.zero_add];have k:j<l.length:=by have:=(List.getElem?_eq_some_iff.1 hu).1;omega
   refine hp j u (by omega) ?_;rw[aM,<-List.getElem?_drop,<-hu,List.getElem?_take,if_pos k]
  ·rename_i n hs;injection h with h
   subst h;rw[hs]at b ⊢;simp only[jh]at b;refine⟨by simp[eH,fK];omega,λj u hu=>?_⟩;simp only[eH,fK]at hu;have k:j<n:=by
    have:=(Array.getElem?_eq_some_iff.1 hu).1;simp at this;omega
   refine hp j u (by omega) ?_;rw[aM,<-List.getElem?_drop];have:((cs.drop off).take n)[j]? =some u:=by simpa using hu
   rwa[List.getElem?_take,if_pos k]at this
 ·cases h
theorem Kept.Bn {B:Nat->Prop}{w w':World}(k:Kept B w w'){p:Addr}(hp:B p.block){v:Value}(h:w.cell? p=some v):w'.cell? p=some v:=(k.cell hp).trans h
theorem jv:∀ {n k j i:Nat},nth (upN n k) j=some i->i=n+j
 |n,0,j,i,h=>by simp[upN,nth]at h
 |n,k+1,0,i,h=>by simp[upN,nth]at h;omega
 |n,k+1,j+1,i,h=>by have:=jv (n:=n+1) (k:=k) (j:=j) h;omega
theorem fT:∀(n k:Nat),(upN n k).length=k
 |_,0=>rfl
 |n,k+1=>by simp[upN,fT (n+1) k]
theorem Gi {o:Option Kn}{p:PK}(h:kt o=some p):o=some (.p p):=by
 unfold kt at h;split at h
 ·injection h with h;rw[h]
 ·cases h
theorem GR {st:St U}{fr:Fr}{id off g:Nat}{cs:List Value}{T t:TypeId}{v:Value}(l:aG st.rs fr st.kn)(o:nth st.rs id=some (.blk g cs T))(b:j8 P t cs off=some v)(hs:mu P t=false):KnO st.rs v (Ds id off st.kn v):=by
 unfold Ds;split
 ·rename_i v2 k;split
  ·refine⟨k,rfl,λj p d=>?_⟩;rw[bx]at d;cases hu:nth (upN 0 k.toList.length) j with
   |none=>rw[hu]at d;cases d
   | some i=>
    rw[hu]at d;have q:i=j:=by have:=jv hu;omega
    subst q;have h:=aX hu;rw[fT]at h;injection d with d
    obtain⟨z,A,B,u,e1,r,x⟩:=l.get (Gi d);rw[o]at e1;injection e1 with e1
    injection e1 with _ e1 _
    subst e1;refine⟨u,?_,x⟩;have key:∀m,i<(j4 m (mY off cs)).length->(j4 m (mY off cs))[i]? =some u:=λm hm=>by
     rw[eH,fK]at hm ⊢;rw[List.getElem?_take,if_pos (by simp at hm;omega),List.getElem?_drop,<-aM];exact r
    unfold j8 at b;unfold mu at hs;split at b
    ·split at b
     ·rename_i y;rw[y]at hs;cases hs
     ·injection b with b;injection b with b
      subst b;simpa using key _ h
     ·injection b with b;injection b with b
      subst b;simpa using key _ h
    ·cases b
  ·trivial
 ·trivial
theorem Oe {t:TypeId}{id li off:Nat}{i:Int}{r:Res U}{rs:List (Res U)}{X:Nat->Prop}{w:World}{L:Ls U.el}{y:U.el L.t}{v:Value}(l:RS X w r)(o:nth rs id=some r)(p:iu r li=some L)(u:L.l[i.toNat]? =some y)(b:j8 P t ((U.en L.t).enc y) off=some v):KnO rs v (neK U P t id li i off r):=by
 unfold neK;split
 ·rename_i tt q s;split
  ·rename_i hb;simp only[Bool.and_eq_true]at hb;obtain⟨x,d,h⟩:=hb;have h:off=0:=Nat.eq_of_beq_eq_true h;subst h;obtain⟨j,e1,z⟩:=U.AB (t:=tt) (r:=q) (s:=s) l x p u;have hu:v=.slice j.A j.l.length j.c:=by
    rw[z]at b;unfold j8 at b;unfold mu at d;split at b
    ·split at b
     ·injection b with b;exact b.symm
     ·rename_i k;rw[k]at d;cases d
     ·rename_i k;rw[k]at d;cases d
    ·cases b
   show den U rs (.sl id (i.toNat+1))=some v;simp only[den,PK.id,o,cl,iu,e1,hu]
  ·trivial
 ·trivial
theorem xE {t:TypeId}{x:Value}{k:Option Kn}{st:St U}{X:Nat->Nat->Prop}{w:World}{K:Value->Option Kn->Prop}(hS:Sat st.rs X w){fr:Fr}(W:aG st.rs fr st.kn)(J:KnO st.rs x k)(h:xF U P t k st K):
 ∃v kv,K v kv/\KnO st.rs v kv/\∀w',Kept (match k with|some (.p k)=>X k.id|_=>λ_=>False) w w'->(Instr.loadAt t x).run P w'=.ok v w':=by
 unfold xF at h;split at h
 ·rename_i id off;split at h
  ·rename_i g cs T d;obtain⟨v,b,z⟩:=dF h;have hd:den U st.rs (.loc id off)=some x:=J;simp only[den,PK.id,d,cl,Option.some.injEq]at hd;subst hd;obtain⟨M,O,hb⟩:=hS.res id _ d;refine⟨v,_,z,?_,λw' hw=>kT b λj u Q hu=>?_⟩
   ·cases hs:mu P t
    ·exact GR W d b hs
    ·simp only;cases hq:cP (.c id off) st.kn with
     |none=>exact trivial
     | some q=>
      obtain⟨g',ah,T',u,e1,G,e3⟩:=W.get hq;rw[d]at e1;injection e1 with e1
      injection e1 with _ e1 _
      subst e1;have:v=u:=by
       unfold j8 at b;unfold mu at hs;split at b
       ·split at b
        ·rw[G]at b;injection b with b;exact b.symm
        ·rename_i B;rw[B]at hs;cases hs
        ·rename_i B;rw[B]at hs;cases hs
       ·cases b
      rw[this];exact e3
   ·refine Kept.Bn hw (by rw[block_add];exact M) ?_;rw[aY];exact hb.cell (by rw[aM]at hu;simpa using hu)
  ·exact h.elim
 ·rename_i id path off;split at h
  ·rename_i tt r s d;split at h
   rotate_left
   ·split at h
    ·rename_i c cs Zv;obtain⟨H,h⟩:=h;obtain⟨v,b,z⟩:=dF h;have hd:den U st.rs (.obj id path off)=some x:=J;simp only[den,PK.id,d,cl,Option.some.injEq]at hd;subst hd;obtain⟨O,Ts⟩:=U.pC (hS.res id _ d) Zv H;refine⟨v,_,z,trivial,λw' hw=>kT b λj u Q hu=>?_⟩;refine Kept.Bn hw (by rw[block_add];exact O) ?_;rw[Nat.zero_add,aM]at hu;rw[aY];exact Ts j u hu
    ·exact h.elim
   ·rename_i f hf;obtain⟨u,hu,h⟩:=dF h;obtain⟨v,b,z⟩:=dF h;have hd:den U st.rs (.obj id path off)=some x:=J;simp only[den,PK.id,d,cl,Option.some.injEq]at hd;subst hd;obtain⟨O,H⟩:=U.sF (hS.res id _ d) hf hu;refine⟨v,_,z,?_,λw' hw=>kT b λj y Q C=>?_⟩
    ·cases hs:mu P t
     ·exact trivial
     ·have ae:u=v:=by
       unfold j8 at b;unfold mu at hs;split at b
       ·split at b
        ·injection b
        ·rename_i B;rw[B]at hs;cases hs
        ·rename_i B;rw[B]at hs;cases hs
       ·cases b
      subst ae;cases f with
      |v y=>exact trivial
      | o p o=>
       have aa:den U st.rs (.obj id p o)=some u:=by
        simp only[den,PK.id,d,cl];exact hu
       cases o with
       |succ o=>exact aa
       | zero=>
        show KnO st.rs u (match cP (.l id p) st.kn with
         |some k=>some k
         |none=>some (.p (.obj id p 0)))
        cases hl:cP (.l id p) st.kn with
        |none=>exact aa
        | some k=>
         obtain⟨t',r',s',e1,G⟩:=W.get hl;rw[d]at e1;injection e1 with e1
         cases e1;simp only[fvV,Option.some.injEq]at hu;rw[<-hu];exact G
      | l i=>
       show den U st.rs (.sl id i)=_;simp only[den,PK.id,d,cl];simp only[fvV]at hu;simp only[iu];cases F:U.li tt r s i with
       |none=>rw[F]at hu;cases hu
       |some L=>simp only[F]at hu ⊢;exact hu
    ·cases j with
     | zero=>
      simp only[Nat.zero_add,nth,Option.some.injEq]at C;subst C;exact Kept.Bn hw (by rw[block_add];exact O) H
     |succ j=>simp[nth]at C
  ·exact h.elim
 ·rename_i id li i off;split at h
  ·rename_i r d;split at h
   ·rename_i L F;have hd:den U st.rs (.el id li i off)=some x:=J;simp only[den,PK.id,d,cl,F]at hd;split at hd
    ·rename_i hb;injection hd with hd
     subst hd;have hr:=(hS.res id _ d).ls F;obtain⟨p,y,R,C,hZ,H⟩:=hr.ld hb.1 hb.2;split at h
     ·rename_i _ ho;have ho:off=0:=Nat.eq_of_beq_eq_true ho;subst ho;split at h
      ·rename_i I;have I:(U.en L.t).size=1:=Nat.eq_of_beq_eq_true I;obtain⟨hle,h⟩:=h;obtain⟨v,b,z⟩:=dF h;refine⟨v,_,z,trivial,λw' hw=>kT b λj u Q hu=>?_⟩;rw[Nat.zero_add,mZ,bx]at hu;cases S:nth (upN 0 (aZ P t)) j with
       |none=>rw[S]at hu;cases hu
       | some A=>
        rw[S]at hu;have Sl:A=j:=by have:=jv S;omega
        subst Sl;have RV:=aX S;rw[fT]at RV;injection hu with hu
        have ab:=List.getElem?_eq_getElem (l:=L.l) (i:=i.toNat+A) (by omega);obtain⟨p',V,an,XG⟩:=hr.cell _ _ ab;rw[R]at V;injection V with V
        subst V;have h0:=XG 0 (by show 0<(U.en L.t).size;omega);have e1:elA U L.t L.A i 0=p.add i.toNat:=by unfold elA;rw[R,I];simp[Addr.add]
        rw[e1];refine Kept.Bn hw (by rw[block_add,block_add];exact hZ) ?_;have G:(p.add ((i.toNat+A)*Enc.size (U.el L.t))).add 0=(p.add i.toNat).add A:=by
         rw[show Enc.size (U.el L.t)=1 from I,add_add,add_add,Nat.mul_one,Nat.add_zero]
        rw[G]at h0;have hu:hd1 (enc (L.l.getD (i.toNat+A) (U.df L.t)))=u:=hu;rw[h0,<-hu,List.getD_eq_getElem?_getD,ab];show(enc L.l[i.toNat+A])[0]? =some (hd1 (enc L.l[i.toNat+A]));have hl:(enc L.l[i.toNat+A]).length=1:=by rw[cE];exact I
        match he:enc L.l[i.toNat+A],hl with
        | [a],_=>rfl
      ·exact h.elim
     obtain⟨v,b,z⟩:=dF h;have M:L.l.getD i.toNat (U.df L.t)=y:=by rw[List.getD_eq_getElem?_getD,C];rfl
     refine⟨v,_,z,Oe (hS.res id _ d) d F C (M▸b),λw' hw=>kT b λj u Q hu=>?_⟩;rw[M]at hu;have af:off+j<Enc.size (U.el L.t):=by have:=aX hu;rw[<-cE y];exact this
     have h2:=H (off+j) af;refine Kept.Bn hw ?_ ?_
     ·unfold elA;rw[R];simp only[Option.getD_some,block_add];exact hZ
     ·unfold elA;rw[R];simp only[Option.getD_some];rw[add_add];rw[aM]at hu;exact h2.trans hu
    ·cases hd
   ·exact h.elim
  ·exact h.elim
 ·exact h.elim
theorem AG(ρ:Operand->Value)(a:Array Operand):(⟨aK ρ a.toList⟩:Array Value)=a.map ρ:=by
 apply Array.ext';simp[iY]
theorem Bf {rs:List (Res U)}{cs:List Value}:∀ {l:List (Nat×PK)}{F:Prop},OI rs cs l F->F/\∀o p,(o,p)∈l->den U rs p=nth cs o
 | [],F,h=>⟨h,λ_ _ h=>by cases h⟩
 | (a,b)::l,F,h=>by
  obtain⟨d,i⟩:=Bf h.2;refine⟨d,λo p hm=>?_⟩;rcases List.mem_cons.1 hm with e|hm
  ·injection e with e1 j;subst e1;subst j;exact h.1
  ·exact i o p hm
theorem vj {j:Nat}{p:PK}:∀ {l:List (Nat×PK)},zg j l=some p->(j,p)∈l
 | (a,b)::l,h=>by
  unfold zg at h;split at h
  ·rename_i he;injection h with h
   subst h;rw[<-Nat.eq_of_beq_eq_true he];exact List.mem_cons_self ..
  ·exact List.mem_cons_of_mem _ (vj h)
theorem N5 {rs:List (Res U)}{p q:PK}{l:Nat}{v:Value}{a:Addr}(h:PK.on l p=some q)(hp:den U rs p=some v)(hq:den U rs q=some (.pointer (some a))):∃b,v=.pointer (some b)/\a=b.add l:=by
 cases p<;>simp only[PK.on,Option.some.injEq,reduceCtorEq]at h
 ·rename_i id off;subst h;unfold den at hp hq;simp only[PK.id]at hp hq;cases d:nth rs id with
  |none=>rw[d]at hp;simp[cl]at hp
  | some r=>
   rw[d]at hp hq;cases r<;>simp only[cl,reduceCtorEq,Option.some.injEq,Value.pointer.injEq]at hp hq
   exact⟨_,hp.symm,by rw[<-hq,aY]⟩
 ·rename_i id path off;subst h;unfold den at hp hq;simp only[PK.id]at hp hq;cases d:nth rs id with
  |none=>rw[d]at hp;simp[cl]at hp
  | some r=>
   rw[d]at hp hq;cases r<;>simp only[cl,reduceCtorEq,Option.some.injEq,Value.pointer.injEq]at hp hq
   exact⟨_,hp.symm,by rw[<-hq,aY]⟩
theorem AM {d l:Nat}:∀ {o:Option Value},Oj d o=some l->(o=none/\l=d)\/∃k,o=some (.int k (l:Int))
 |none,h=>.inl ⟨rfl,by injection h with h;exact h.symm⟩
 |some (.int k (.ofNat n)),h=>.inr ⟨k,by injection h with h;rw[h];rfl⟩
theorem HG {t:TypeId}{k:Option Kn}{lo hi:Option Value}{st:St U}{K:Value->Option Kn->Prop}{v:Value}(i:KnO st.rs v k)(h:Nr U P t k lo hi st K):∃(a:Value)(n:Nat)(o:Option Kn),K a o/\KnO st.rs a o/\oL P t v lo hi none (λu=>u=a) False:=by
 unfold Nr at h;split at h
 ·rename_i n e p l x y;split at h
  ·rename_i d q z A;split at h
   ·rename_i u a hp hq hb;simp only[Bool.and_eq_true]at hb;obtain⟨B,j,C,hle⟩:=hb;have j:aZ P e=1:=Nat.eq_of_beq_eq_true j;rw[Nat.blt_eq]at C;have hle:d<=n:=Nat.le_of_ble_eq_true hle;obtain⟨b,rfl,rfl⟩:=N5 A hp hq;have i:den U st.rs p=some v:=i;rw[hp]at i;injection i with i
    subst i;refine⟨_,0,_,h,⟨_,_,hq,rfl⟩,?_⟩;unfold oL;rw[x];simp only[B,Option.isNone_none,Bool.true_or,Bool.and_self];refine au b rfl ?_;have r:sL lo d λl'=>∀a',a'=some (if n=l' then b else b.add (l'*aZ P e))->∀n',n'=d - l'->∀c',c'=n - l'->Value.slice a' n' c'=.slice (some (b.add l)) (d - l) (n - l):=by
     have fin:∀a',a'=some (if n=l then b else b.add (l*aZ P e))->∀n',n'=d - l->∀c',c'=n - l->Value.slice a' n' c'=.slice (some (b.add l)) (d - l) (n - l):=by
      rintro _ rfl _ rfl _ rfl;rw[if_neg (by omega),j,Nat.mul_one]
     rcases AM y with⟨rfl,rfl⟩|⟨k,rfl⟩
     ·exact fin
     ·refine⟨⟨by omega,by omega⟩,?_⟩;rw[Int.toNat_natCast];exact fin
    rcases AM z with⟨rfl,rfl⟩|⟨k,rfl⟩
    ·exact r
    ·refine⟨⟨by omega,by show(d:Int)<=(n:Nat);omega⟩,?_⟩;rw[Int.toNat_natCast];exact r
   ·exact h.elim
  ·exact h.elim
 ·exact h.elim
theorem xD {o:Oper}{fr:Fr}{st:St U}{X:Nat->Nat->Prop}{w:World}{K:Value->Option Kn->Prop}(hS:Sat st.rs X w)(O:aG st.rs fr st.kn)(h:qe U P o (ev fr) st K):
 ∃v k,K v k/\KnO st.rs v k/\∀w',Kept (rdX o st.kn X) w w'->(execOp (ev fr) o).run P w'=.ok (.value v) w':=by
 have hc:∀v,ev fr (.const v)=v:=λ_=>rfl;have hp:∀F:Value->Prop,(∀t x,o.op≠ .load t x)->sq P o (ev fr) F->∃v,F v/\∀w',Kept (rdX o st.kn X) w w'->(execOp (ev fr) o).run P w'=.ok (.value v) w':=λF W hF=>by
  obtain⟨v,z,C⟩:=Gg hc W hF w;exact⟨v,z,λw' hw=>C w' hw.os hw.tape hw.output⟩
 have ab:(∀t x,o.op≠ .load t x)->sq P o (ev fr) (λv=>K v none)->∃v k,K v k/\KnO st.rs v k/\∀w',Kept (rdX o st.kn X) w w'->(execOp (ev fr) o).run P w'=.ok (.value v) w':=λW hF=>by
  obtain⟨v,z,C⟩:=hp _ W hF;exact⟨v,none,z,trivial,C⟩
 obtain⟨dst,op,ty,pos,after,guard⟩:=o;cases op<;>first
  |exact ab (λ_ _ e=>by cases e) h
  |skip
 case move x=>exact⟨_,_,h,O.kf x,λ_ _=>rfl⟩
 case assign x=>exact⟨_,_,h,O.kf x,λ_ _=>rfl⟩
 case build t ps=>
  obtain⟨v,z,C⟩:=hp _ (λ_ _ e=>by cases e) h;unfold JX at z;split at z
  ·exact⟨v,none,z,trivial,C⟩
  ·split at z
   ·rename_i cs;obtain⟨z,h3⟩:=Bf z;refine⟨_,_,z,⟨cs,rfl,λj k A=>?_⟩,C⟩;rw[bx]at A;cases d:nth (upN 0 cs.toList.length) j with
    |none=>rw[d]at A;cases A
    | some i=>
     rw[d]at A;have Sl:i=j:=by have:=jv d;omega
     subst Sl;injection A with A
     have:=h3 _ _ (vj A);have RV:=aX d;rw[fT]at RV;obtain⟨u,hu⟩:=cj (l:=cs.toList) (i:=i) RV;exact⟨u,by rw[aM]at hu;simpa using hu,by rw[this,hu]⟩
   ·exact z.elim
 case load t x=>
  obtain⟨v,kv,z,C,h3⟩:=xE hS O (O.kf x) h;refine⟨v,kv,z,C,λw' hw=>?_⟩;have:=h3 w' hw;simp[execOp,this]
 case nilCheck x=>
  simp only[qe]at h;split at h
  ·rename_i p b;refine⟨_,_,h,by rw[<-b];exact O.kf x,λw' _=>?_⟩;simp[execOp,b]
  ·exact h.elim
 case fieldAddr s x f=>
  have h:lL P s (ev fr x) f (λv=>K v (yW P s f (V.kf st.kn x))):=h;obtain⟨fields,fd,p,z,C,h3,h4,h5⟩:=Dl h;refine⟨_,_,h4,?_,λw' _=>by simp[execOp,h5]⟩;have b:=O.kf x;rw[h3]at b;unfold yW;split
  ·rename_i k H;rw[H]at b;rw[z];simp only[C];have b:den U st.rs k=some (.pointer (some p)):=b;cases k with
   | loc id off=>
    show den U st.rs _=_;unfold den at b ⊢;simp only[PK.id]at b ⊢;cases d:nth st.rs id with
    |none=>rw[d]at b;simp[cl]at b
    | some r=>
     rw[d]at b;cases r<;>simp only[cl,reduceCtorEq,Option.some.injEq,Value.pointer.injEq]at b ⊢
     rw[<-b,aY]
   | el id li i off=>
    show den U st.rs _=_;unfold den at b ⊢;simp only[PK.id]at b ⊢;cases d:nth st.rs id with
    |none=>rw[d]at b;simp[cl]at b
    | some r=>
     rw[d]at b;simp only[cl]at b ⊢;cases B:iu r li with
     |none=>rw[B]at b;cases b
     | some L=>
      simp only[B]at b ⊢;split at b
      ·rename_i hb;rw[if_pos hb];injection b with b
       injection b with b
       injection b with b
       rw[<-b];unfold elA;rw[<-add_add]
      ·cases b
   | obj id path off=>
    show den U st.rs _=_;unfold den at b ⊢;simp only[PK.id]at b ⊢;cases d:nth st.rs id with
    |none=>rw[d]at b;simp[cl]at b
    | some r=>
     rw[d]at b;cases r<;>simp only[cl,reduceCtorEq,Option.some.injEq,Value.pointer.injEq]at b ⊢
     rw[<-b,aY]
   |sl _ _=>exact trivial
  ·exact trivial
 case sliceToArrayPointer arr x=>
  simp only[qe]at h;have b:=O.kf x;split at h
  ·rename_i id li H;rw[H]at b;have b:den U st.rs (.sl id li)=some (ev fr x):=b;split at h
   ·rename_i r n e d M;split at h
    ·rename_i L B;simp only[den,PK.id,d,cl,B,Option.some.injEq]at b;obtain⟨⟨h0,hle⟩,I⟩:=h;obtain⟨p,y,Q,_⟩:=((hS.res id _ d).ls B).ld (i:=0) (by omega) (by omega);have e1:elA U L.t L.A 0 0=p:=by unfold elA;rw[Q];simp[Addr.add]
     obtain⟨v,G,J⟩:=hp (λv=>v=.pointer (some p)) (λ_ _ e=>by cases e) (by
      show(match P.underlying arr,ev fr x with
       |some (.array n _),.slice a len _=>n<=len/\Value.pointer a=.pointer (some p)
       |_,_=>False)
      rw[M,<-b,Q];exact⟨hle,rfl⟩)
     subst G;rw[e1]at I;refine⟨_,_,I,?_,J⟩;show den U st.rs (.el id li 0 0)=_;simp only[den,PK.id,d,cl,B];rw[if_pos (by omega),e1]
    ·exact h.elim
   ·exact h.elim
  ·rename_i q n H;rw[H]at b;obtain⟨a,c,z,C⟩:=(b:∃a c,den U st.rs q=some (.pointer (some a))/\ev fr x=.slice (some a) n c);split at h
   ·rename_i N e v M hd;rw[z]at hd;injection hd with hd
    subst hd;split at h
    ·rename_i hle;obtain⟨v,G,J⟩:=hp (λv=>v=.pointer (some a)) (λ_ _ e=>by cases e) (by
      show(match P.underlying arr,ev fr x with
       |some (.array n _),.slice a len _=>n<=len/\Value.pointer a=.pointer (some _)
       |_,_=>False)
      rw[M,C];exact⟨Nat.le_of_ble_eq_true hle,rfl⟩)
     subst G;exact⟨_,_,h,z,J⟩
    ·exact h.elim
   ·exact h.elim
  ·exact h.elim
 case indexAddr t x i=>
  simp only[qe]at h;have b:=O.kf x;split at h
  ·rename_i id li k ix H hi;rw[H]at b;have b:den U st.rs (.sl id li)=some (ev fr x):=b;split at h
   ·rename_i r e d M;split at h
    ·rename_i L B;simp only[den,PK.id,d,cl,B,Option.some.injEq]at b;split at h
     ·rename_i he;simp only[Bool.and_eq_true]at he;have Sa:aZ P e=(U.en L.t).size:=Nat.eq_of_beq_eq_true he.2;obtain⟨hb,I⟩:=h;obtain⟨p,y,Q,_⟩:=((hS.res id _ d).ls B).ld hb.1 hb.2;have G:elA U L.t L.A ix 0=p.add (ix.toNat *aZ P e):=by
       unfold elA;rw[Q,Sa];simp[Addr.add]
      refine⟨_,_,I,?_,λw' _=>?_⟩
      ·show den U st.rs (.el id li ix 0)=_;simp only[den,PK.id,d,cl,B];rw[if_pos hb]
      ·have:=LO (P:=P) (c:=L.c) (k:=k) M he.1 hb Q w';rw[G];simp[execOp,<-b,hi,this]
     ·exact h.elim
    ·exact h.elim
   ·exact h.elim
  ·rename_i id path off k ix H hi;rw[H]at b;have b:den U st.rs (.obj id path off)=some (ev fr x):=b;split at h
   ·rename_i tt r s li n e d R M;split at h
    ·rename_i L B;simp only[den,PK.id,d,cl,Option.some.injEq]at b;split at h
     ·rename_i he;simp only[Bool.and_eq_true]at he;have Sa:aZ P e=(U.en L.t).size:=Nat.eq_of_beq_eq_true he.2;obtain⟨⟨hb,Vv⟩,I⟩:=h;unfold Uni.ix1 at R;rw[d]at R;have Q:=U.qi R B;have S:n9 P t (ev fr x) (ev fr i) (λv=>v=.pointer (some ((Addr.mk (r path) off none).add (ix.toNat *aZ P e)))):=by
       unfold n9;rw[M,<-b,hi];simp only[he.1];exact⟨⟨hb.1,Vv⟩,au _ rfl rfl⟩
      obtain⟨v,G,J⟩:=k8 S;have aa:elA U L.t L.A ix 0=(Addr.mk (r path) off none).add (ix.toNat *aZ P e):=by
       unfold elA;rw[Q,Sa];simp[Addr.add]
      refine⟨_,_,I,?_,λw' _=>?_⟩
      ·show den U st.rs (.el id li ix 0)=_;simp only[den,PK.id,d,cl,iu,B];rw[if_pos hb]
      ·rw[aa,<-G];simp[execOp,J]
     ·split at h
      ·rename_i he;simp only[Bool.and_eq_true]at he;have z:(U.en L.t).size=1:=Nat.eq_of_beq_eq_true he.2.1;have ah:0<aZ P e:=by have:=he.2.2;rwa[Nat.blt_eq]at this
       obtain⟨⟨hb,Vv⟩,I⟩:=h;unfold Uni.ix1 at R;rw[d]at R;have Q:=U.qi R B;have S:n9 P t (ev fr x) (ev fr i) (λv=>v=.pointer (some ((Addr.mk (r path) off none).add (ix.toNat *aZ P e)))):=by
        unfold n9;rw[M,<-b,hi];simp only[he.1];exact⟨hb,au _ rfl rfl⟩
       obtain⟨v,G,J⟩:=k8 S;obtain⟨k,rfl⟩:∃k:Nat,ix=(k:Int):=⟨ix.toNat,by omega⟩;rw[Int.toNat_natCast]at Vv;have hmul:(k+1)*aZ P e=k*aZ P e+aZ P e:=by rw[Nat.add_mul,Nat.one_mul]
       have S0:((k:Int)*(aZ P e:Nat)).toNat=k*aZ P e:=by rw[<-Int.natCast_mul,Int.toNat_natCast]
       have aa:elA U L.t L.A ((k:Int)*(aZ P e:Nat)) 0=(Addr.mk (r path) off none).add (k*aZ P e):=by
        unfold elA;rw[Q,S0,z];simp[Addr.add]
       refine⟨_,_,I,?_,λw' _=>?_⟩
       ·show den U st.rs (.el id li ((k:Int)*(aZ P e:Nat)) 0)=_;simp only[den,PK.id,d,cl,iu,B];rw[if_pos ⟨by rw[<-Int.natCast_mul];omega,by rw[<-Int.natCast_mul];omega⟩]
       ·rw[Int.toNat_natCast]at G;rw[aa,<-G];simp[execOp,J]
      ·exact h.elim
    ·exact h.elim
   ·exact h.elim
  ·rename_i id li i0 k ix H hi;rw[H]at b;have b:den U st.rs (.el id li i0 0)=some (ev fr x):=b;split at h
   ·rename_i r n e d M;split at h
    ·rename_i L B;simp only[den,PK.id,d,cl,B]at b;split at b
     case isFalse=>cases b
     rename_i h0;injection b with b
     split at h
     ·rename_i he;simp only[Bool.and_eq_true]at he;have z:(U.en L.t).size=1:=Nat.eq_of_beq_eq_true he.2.2;have C:aZ P e=1:=Nat.eq_of_beq_eq_true he.2.1;obtain⟨⟨hb,Vv⟩,I⟩:=h;have S:n9 P t (ev fr x) (ev fr i) (λv=>v=.pointer (some ((elA U L.t L.A i0 0).add (ix.toNat *aZ P e)))):=by
       unfold n9;rw[M,<-b,hi];simp only[he.1];exact⟨hb,au _ rfl rfl⟩
      obtain⟨v,G,J⟩:=k8 S;have aa:elA U L.t L.A (i0+ix) 0=(elA U L.t L.A i0 0).add (ix.toNat *aZ P e):=by
       unfold elA;rw[z,C,add_add,add_add,add_add];congr 1;omega
      refine⟨_,_,I,?_,λw' _=>?_⟩
      ·show den U st.rs (.el id li (i0+ix) 0)=_;simp only[den,PK.id,d,cl,B];rw[if_pos ⟨by omega,Vv⟩]
      ·rw[aa,<-G];simp[execOp,J]
     ·exact h.elim
    ·exact h.elim
   ·exact h.elim
  ·rename_i id off k ix H hi;rw[H]at b;have b:den U st.rs (.loc id off)=some (ev fr x):=b;unfold den at b;simp only[PK.id]at b;cases d:nth st.rs id with
   |none=>rw[d]at b;simp[cl]at b
   | some r=>
    rw[d]at b;cases r<;>simp only[cl,reduceCtorEq,Option.some.injEq]at b
    rename_i g cs T;rw[<-b]at h;obtain⟨n,e,k',an,z,C,h3,h4⟩:=Jk h;rw[hi]at C;injection C with C ae
    subst C;subst ae;refine⟨_,_,h3,?_,λw' _=>by simp[execOp,<-b,h4]⟩;show den U st.rs _=_;simp only[den,PK.id,d,cl,JB,z];rw[aY]
  ·exact h.elim
 case extract x i=>
  simp only[qe]at h;split at h
  ·rename_i vs b;obtain⟨v,G,I⟩:=dF h;have VX:vs[i]? =some v:=by rw[aM]at G;simpa using G
   refine⟨v,_,I,?_,λw' _=>?_⟩
   ·unfold Ja;split
    ·rename_i l H;split
     ·rename_i p W;have:=O.kf x;rw[H,b]at this;obtain⟨az,e,hh⟩:=this;injection e with e
      subst e;obtain⟨u,hu,hd⟩:=hh i p W;rw[VX]at hu;injection hu with hu
      subst hu;exact hd
     ·exact trivial
    ·exact trivial
   ·simp[execOp,Instr.extract,b,VX]
  ·exact h.elim
 case makeFunc f first cap=>
  refine⟨_,_,h,?_,λw' _=>by rw[AG,AG];rfl⟩;have key:∀(a:Array Operand)(j:Nat)(k:PK),nth (aK (λx=>kt (V.kf st.kn x)) a.toList) j=some (some k)->∃u,(⟨aK (ev fr) a.toList⟩:Array Value)[j]? =some u/\den U st.rs k=some u:=by
   intro a j k A;rw[bx]at A;cases d:nth a.toList j with
   |none=>rw[d]at A;cases A
   | some x=>
    rw[d]at A;injection A with A
    refine⟨ev fr x,?_,?_⟩
    ·rw[aM]at d;simp[iY,d]
    ·have:=O.kf x;unfold kt at A;dsimp only at A;split at A
     ·rename_i q hq;injection A with A
      subst A;rw[hq]at this;exact this
     ·cases A
  exact⟨_,_,_,rfl,by simp,key first,key cap⟩
 case binOp op t x y aA=>
  simp only[qe]at h;split at h
  ·exact h.elim
  ·exact ab (λ_ _ e=>by cases e) h
 case slice t x lo hi mx=>
  cases mx with
  |some _=>exact h.elim
  | none=>
   simp only[qe]at h;have b:=O.kf x;split at h
   ·rename_i id path off H;rw[H]at b;have b:den U st.rs (.obj id path off)=some (ev fr x):=b;split at h
    ·rename_i tt r s li n e d R M;split at h
     ·rename_i L B;simp only[den,PK.id,d,cl,Option.some.injEq]at b;split at h
      ·rename_i he;obtain⟨⟨⟨W,hc⟩,aC⟩,I⟩:=h;unfold Uni.ix1 at R;rw[d]at R;have Q:=U.qi R B;have S:oL P t (ev fr x) none none none (λv=>v=.slice L.A L.l.length L.c) False:=by
        unfold oL;rw[M,<-b];simp only[he,Option.isNone_none,Bool.true_or,Bool.and_self];refine au _ rfl ?_;unfold o9 sM sL;intro a' af n' V1 c' XG;subst af V1 XG;rw[if_neg (by omega),Q,W,hc];simp[Addr.add]
       rcases oK S with⟨v,G,J⟩|h
       ·refine⟨_,_,I,?_,λw' _=>?_⟩
        ·show den U st.rs (.sl id li)=_;simp only[den,PK.id,d,cl,iu,B]
        ·rw[<-G];simp[execOp,J]
       ·exact h.elim
      ·exact h.elim
     ·exact h.elim
    ·exact h.elim
   ·obtain⟨a,n,k,I,S0,S⟩:=HG b h;rcases oK S with⟨v,G,J⟩|h
    ·refine⟨_,_,I,S0,λw' _=>?_⟩;rw[<-G];simp[execOp,J]
    ·exact h.elim
end
end
end V
open Go Go.RowKit V
open Go.IntKind (i64 u32 u64 wrap_i64 wrap_u32)
def bL(a b:Int):Int:=u32.wrap (a+b)
def tO(a b:Int):Int:=u32.wrap (BitVec.ofInt u32.bits a ^^^ BitVec.ofInt u32.bits b).toNat
def Ke(a b:Int):Int:=u32.wrap (BitVec.ofInt u32.bits a &&& BitVec.ofInt u32.bits b).toNat
def QW(a:Int):Int:=u32.wrap (BitVec.ofInt u32.bits (if u32.signed then -1 else u32.max) ^^^ BitVec.ofInt u32.bits a).toNat
def pU(w n:Int):Int:=u32.wrap (BitVec.ofInt u32.bits (w.fdiv (2 ^ (min n.toNat u32.bits))) ||| BitVec.ofInt u32.bits (u32.wrap (w*2 ^ (min (32 - n).toNat u32.bits)))).toNat
theorem PM {k:Int}(h: -31<=k/\k<= -1):u64.wrap (BitVec.ofInt u64.bits (u64.wrap k) &&& BitVec.ofInt u64.bits 31).toNat=32+k:=by
 have:∀j:Fin 31,u64.wrap (BitVec.ofInt u64.bits (u64.wrap (-(j.val+1:Int))) &&& BitVec.ofInt u64.bits 31).toNat=32+ -(j.val+1:Int):=by decide+kernel
 have b:=this ⟨(-k - 1).toNat,by omega⟩;simp only[]at b
 rwa[show(-(((-k - 1).toNat:Nat)+1:Int))=k by omega]at b
theorem jg {x:Int}(h:0<=x/\x<18446744073709551616):u64.wrap x=x:=by rw[IntKind.wrap_u64];omega
theorem rot_eq {x k:Int}(h: -31<=k/\k<= -1):u32.wrap (BitVec.ofInt u32.bits (u32.wrap (x*2 ^ (min (32+k).toNat u32.bits))) ||| BitVec.ofInt u32.bits (x.fdiv (2 ^ (min (u64.wrap (32 - (32+k))).toNat u32.bits)))).toNat=pU x (-k):=by
 rw[jg (by omega),BitVec.or_comm,show 32 - (32+k)= -k by omega];unfold pU;rw[show 32 - -k=32+k by omega]
def sg0(a:Int):Int:=tO (tO (pU a 7) (pU a 18)) (a.fdiv (2 ^ 3))
def sg1(b:Int):Int:=tO (tO (pU b 17) (pU b 19)) (b.fdiv (2 ^ 10))
abbrev back(l:List Int)(t k:Int):Int:=l.getD (Int.toNat (i64.wrap (t - k))) 0
def Ie(l:List Int)(t:Int):Int:=bL (bL (bL (back l t 16) (sg0 (back l t 15))) (back l t 7)) (sg1 (back l t 2))
def aD(b:List Int):Nat->List Int
 |0=>b++List.replicate 48 0
 |k+1=>(aD b k).set (16+k) (Ie (aD b k) ((16+k:Nat):Int))
theorem dJ {b:List Int}(h:b.length=16):∀k,(aD b k).length=64
 |0=>by simp[aD,h]
 |k+1=>by simp[aD,dJ h k]
theorem Ai {b:List Int}{t:Int}(h:16<=t/\t<64):aD b ((i64.wrap (t+1)).toNat - 16)=(aD b (t.toNat - 16)).set t.toNat (Ie (aD b (t.toNat - 16)) t):=by
 rw[ay (by omega),show(t+1).toNat - 16=(t.toNat - 16)+1 by omega,aD,show 16+(t.toNat - 16)=t.toNat by omega,show((t.toNat:Nat):Int)=t by omega]
@[ext] structure S8 where
 (a b c d e f g h:Int)
deriving DecidableEq
abbrev g80(l:List U32):S8:=S8.mk (vG l 0) (vG l 1) (vG l 2) (vG l 3) (vG l 4) (vG l 5) (vG l 6) (vG l 7)
abbrev g81(l:List U32):S8:=S8.mk (vG l 1) (vG l 2) (vG l 3) (vG l 4) (vG l 5) (vG l 6) (vG l 7) (vG l 8)
abbrev v8(s:S8):List Value:= [O s.a,O s.b,O s.c,O s.d,O s.e,O s.f,O s.g,O s.h]
abbrev w8(s:S8):Array Value:= #[O s.a,O s.b,O s.c,O s.d,O s.e,O s.f,O s.g,O s.h]
def S8.T1(k w:Int)(s:S8):Int:=bL (bL (bL (bL s.h (tO (tO (pU s.e 6) (pU s.e 11)) (pU s.e 25))) (tO (Ke s.e s.f) (Ke (QW s.e) s.g))) k) w
def S8.T2(s:S8):Int:=bL (tO (tO (pU s.a 2) (pU s.a 13)) (pU s.a 22)) (tO (tO (Ke s.a s.b) (Ke s.a s.c)) (Ke s.b s.c))
def S8.rnd(k w:Int)(s:S8):S8:=⟨bL (s.T1 k w) s.T2,s.a,s.b,s.c,bL s.d (s.T1 k w),s.e,s.f,s.g⟩
def aS(K W:List Int)(s:S8):Nat->S8
 |0=>s
 |t+1=>S8.rnd (K.getD t 0) (W.getD t 0) (aS K W s t)
theorem gM {K W:List Int}{s:S8}{t:Int}(h:0<=t/\t<64):aS K W s (i64.wrap (t+1)).toNat=S8.rnd (K.getD t.toNat 0) (W.getD t.toNat 0) (aS K W s t.toNat):=by
 rw[ay (by omega),show(t+1).toNat=t.toNat+1 by omega,aS]
def S8.add(s v:S8):S8:=⟨bL v.a s.a,bL v.b s.b,bL v.c s.c,bL v.d s.d,bL v.e s.e,bL v.f s.f,bL v.g s.g,bL v.h s.h⟩
def oa(K:List Int)(s:S8)(b:List Int):S8:=s.add (aS K (aD b 48) s 64)
def S8.first:S8:=⟨1779033703,3144134277,1013904242,2773480762,1359893119,2600822924,528734635,1541459225⟩
def S8.ok(s:S8):Prop:=(0<=s.a/\s.a<4294967296)/\(0<=s.b/\s.b<4294967296)/\(0<=s.c/\s.c<4294967296)/\(0<=s.d/\s.d<4294967296)/\(0<=s.e/\s.e<4294967296)/\(0<=s.f/\s.f<4294967296)/\(0<=s.g/\s.g<4294967296)/\(0<=s.h/\s.h<4294967296)
theorem fM(a b:Int):0<=bL a b/\bL a b<4294967296:=by unfold bL;rw[u32_eq];omega
theorem S8.kz(s v:S8):(s.add v).ok:=⟨fM _ _,fM _ _,fM _ _,fM _ _,fM _ _,fM _ _,fM _ _,fM _ _⟩
namespace V
theorem qv:u32.bits=32:=rfl
theorem JY:u64.bits=64:=rfl
def nor(x y:Int):Int:=((x.toNat ||| y.toNat:Nat):Int)
def LA(x y:Int):Int:=((x.toNat &&& y.toNat:Nat):Int)
def Gp(x y:Int):Int:=((x.toNat ^^^ y.toNat:Nat):Int)
theorem dS {n:Nat}{x:Int}(b:0<=x)(h:x<2 ^ n):(BitVec.ofInt n x).toNat=x.toNat:=by
 rw[BitVec.toNat_ofInt,Int.emod_eq_of_lt b (by exact_mod_cast h)]
theorem oR {x y:Int}(b:0<=x/\x<4294967296)(d:0<=y/\y<4294967296):u32.wrap (BitVec.ofInt u32.bits x ||| BitVec.ofInt u32.bits y).toNat=nor x y:=by
 have h:=BitVec.isLt (BitVec.ofInt 32 x ||| BitVec.ofInt 32 y);rw[qv,dV (by omega),BitVec.toNat_or,dS b.1 b.2,dS d.1 d.2];rfl
theorem tE {x y:Int}(b:0<=x/\x<4294967296)(d:0<=y/\y<4294967296):u32.wrap (BitVec.ofInt u32.bits x &&& BitVec.ofInt u32.bits y).toNat=LA x y:=by
 have h:=BitVec.isLt (BitVec.ofInt 32 x &&& BitVec.ofInt 32 y);rw[qv,dV (by omega),BitVec.toNat_and,dS b.1 b.2,dS d.1 d.2];rfl
theorem KW {x y:Int}(b:0<=x/\x<4294967296)(d:0<=y/\y<4294967296):u32.wrap (BitVec.ofInt u32.bits x ^^^ BitVec.ofInt u32.bits y).toNat=Gp x y:=by
 have h:=BitVec.isLt (BitVec.ofInt 32 x ^^^ BitVec.ofInt 32 y);rw[qv,dV (by omega),BitVec.toNat_xor,dS b.1 b.2,dS d.1 d.2];rfl
theorem Gq {x y:Int}(b:0<=x/\x<4294967296)(d:0<=y/\y<4294967296):0<=nor x y/\nor x y<4294967296:=by
 have:x.toNat ||| y.toNat<2 ^ 32:=Nat.or_lt_two_pow (by omega) (by omega)
 unfold nor;omega
theorem oS {x y:Int}(b:0<=x/\x<4294967296)(d:0<=y/\y<4294967296):0<=Gp x y/\Gp x y<4294967296:=by
 have:x.toNat ^^^ y.toNat<2 ^ 32:=Nat.xor_lt_two_pow (by omega) (by omega);unfold Gp;omega
theorem iN(k:Nat){a y:Int}(b:0<=a)(d:0<=y)(h:y<2 ^ k):nor (2 ^ k*a) y=2 ^ k*a+y:=by
 obtain⟨a,rfl⟩:=Int.eq_ofNat_of_zero_le b;obtain⟨y,rfl⟩:=Int.eq_ofNat_of_zero_le d;have i:y<2 ^ k:=by exact_mod_cast h
 have e:((2:Int) ^ k*(a:Int)).toNat=2 ^ k*a:=by
  rw[show(2:Int) ^ k*(a:Int)=((2 ^ k*a:Nat):Int)by push_cast;rfl,Int.toNat_natCast]
 unfold nor;rw[e,Int.toNat_natCast,<-Nat.two_pow_add_eq_or_of_lt i]
 push_cast;rfl
theorem qc(x y:Int):nor x y=nor y x:=by unfold nor;rw[Nat.or_comm]
theorem ri(k:Nat){x:Int}(b:0<=x):LA x (2 ^ k - 1)=x % 2 ^ k:=by
 obtain⟨x,rfl⟩:=Int.eq_ofNat_of_zero_le b;have hp:0<2 ^ k:=Nat.two_pow_pos k;have e:((2:Int) ^ k - 1).toNat=2 ^ k - 1:=by
  have:((2:Int) ^ k)=((2 ^ k:Nat):Int):=by push_cast;rfl
  omega
 unfold LA;rw[e,Int.toNat_natCast,Nat.and_two_pow_sub_one_eq_mod]
 push_cast;rfl
theorem mW {x:Int}(n:Nat):x.fdiv (2 ^ n)=x / 2 ^ n:=Int.fdiv_eq_ediv_of_nonneg x (Int.pow_nonneg (by omega))
end V
section
def O8(K:List Int):Nat->S8->List U32->S8×List U32
 |0,s,l=>(s,l)
 |f+1,s,l=>if 16<=l.length then O8 K f (oa K s ((l.take 16).map U32.v)) (l.drop 16)else(s,l)
def dN(K:List Int)(s:S8)(l:List U32):S8×List U32:=O8 K (l.length / 16) s l
theorem gV {K:List Int}{s:S8}{l:List U32}(h:l.length<16):dN K s l=(s,l):=by
 unfold dN;rw[Nat.div_eq_of_lt h];rfl
theorem jd {K:List Int}{s:S8}{l:List U32}(h:16<=l.length):dN K s l=dN K (oa K s ((l.take 16).map U32.v)) (l.drop 16):=by
 unfold dN;rw[show l.length / 16=(l.drop 16).length / 16+1 by rw[List.length_drop];omega,O8,if_pos h]
theorem ph {K:List Int}{p:S8->List U32->Prop}(b:∀s l,l.length<16->p s l)(d:∀s l,16<=l.length->p (oa K s ((l.take 16).map U32.v)) (l.drop 16)->p s l):∀(n:Nat)(s:S8)(l:List U32),l.length=n->p s l:=by
 intro n
 induction n using Nat.strongRecOn with
 | ind n i=>
  intro s l j;by_cases h:l.length<16
  ·exact b s l h
  ·exact d s l (by omega) (i (l.drop 16).length (by rw[List.length_drop];omega) _ _ rfl)
theorem DF(K:List Int)(s:S8)(l:List U32):(dN K s l).2.length=l.length % 16:=by
 refine ph (K:=K) (p:=λs l=>(dN K s l).2.length=l.length % 16) (λs l h=>?_) (λs l h b=>?_) _ s l rfl
 ·simp only[gV h];rw[Nat.mod_eq_of_lt h]
 ·simp only[jd h];rw[b,List.length_drop];omega
theorem DE(K:List Int)(s:S8)(l:List U32):∀x∈(dN K s l).2,x∈l:=by
 refine ph (K:=K) (p:=λs l=>∀x∈(dN K s l).2,x∈l) (λs l h=>?_) (λs l h b=>?_) _ s l rfl
 ·simp only[gV h];exact λx h=>h
 ·simp only[jd h];exact λx d=>List.mem_of_mem_drop (b x d)
theorem yb(K:List Int)(s:S8)(l:List U32):s.ok->(dN K s l).1.ok:=by
 refine ph (K:=K) (p:=λs l=>s.ok->(dN K s l).1.ok) (λs l h=>?_) (λs l h b=>?_) _ s l rfl
 ·simp only[gV h];exact λh=>h
 ·simp only[jd h];exact λ_=>b (S8.kz _ _)
theorem lv {l:List U32}(h:16<=l.length):(l.take 16).map U32.v= [(l.getD 0 ⟨0⟩).v,(l.getD 1 ⟨0⟩).v,(l.getD 2 ⟨0⟩).v,(l.getD 3 ⟨0⟩).v,(l.getD 4 ⟨0⟩).v,(l.getD 5 ⟨0⟩).v,(l.getD 6 ⟨0⟩).v,(l.getD 7 ⟨0⟩).v,(l.getD 8 ⟨0⟩).v,(l.getD 9 ⟨0⟩).v,(l.getD 10 ⟨0⟩).v,(l.getD 11 ⟨0⟩).v,(l.getD 12 ⟨0⟩).v,(l.getD 13 ⟨0⟩).v,(l.getD 14 ⟨0⟩).v,(l.getD 15 ⟨0⟩).v]:=by
 rcases l with _|⟨a,_|⟨b,_|⟨c,_|⟨d,_|⟨e,_|⟨f,_|⟨g,_|⟨h,_|⟨i,_|⟨j,_|⟨k,_|⟨m,_|⟨n,_|⟨o,_|⟨p,_|⟨q,r⟩⟩⟩⟩⟩⟩⟩⟩⟩⟩⟩⟩⟩⟩⟩⟩
 all_goals first|rfl|(simp at h;done)
structure Dg where
 st:S8
 n:Int
 waits:List U32
namespace Dg
def new:Dg:=⟨S8.first,0,[]⟩
def add(K:List Int)(d:Dg)(l:List U32):Dg:=if(l.length:Int)>36028797018963968 - d.n then d else⟨(dN K d.st (d.waits++l)).1,d.n+l.length,(dN K d.st (d.waits++l)).2⟩
structure Ok(d:Dg):Prop where
 n:0<=d.n/\d.n<=36028797018963968
 len:d.waits.length=(d.n % 16).toNat
 st:d.st.ok
 words:∀x∈d.waits,0<=x.v/\x.v<4294967296
theorem lG:new.Ok:=⟨by decide,rfl,by unfold S8.ok new S8.first;decide,by simp[new]⟩
theorem kz {K:List Int}{d:Dg}{l:List U32}(h:d.Ok)(i:∀x∈l,0<=x.v/\x.v<4294967296):(d.add K l).Ok:=by
 unfold add;split
 ·exact h
 ·have k:=h.n;have hw:=h.len;refine⟨⟨by show 0<=d.n+_;omega,by show d.n+_<=_;omega⟩,?_,yb _ _ _ h.st,λx j=>?_⟩
  ·show(dN K d.st (d.waits++l)).2.length=((d.n+l.length) % 16).toNat;rw[DF,List.length_append,hw];omega
  ·rcases List.mem_append.1 (DE _ _ _ x j)with b|b
   ·exact h.words x b
   ·exact i x b
def save(d:Dg):List Int:= [d.st.a,d.st.b,d.st.c,d.st.d,d.st.e,d.st.f,d.st.g,d.st.h,d.n / 4294967296,d.n % 4294967296]++(d.waits.map U32.v++List.replicate (16 - d.waits.length) 0)
def lx(l:List U32):S8:=⟨(l.getD 0 ⟨0⟩).v,(l.getD 1 ⟨0⟩).v,(l.getD 2 ⟨0⟩).v,(l.getD 3 ⟨0⟩).v,(l.getD 4 ⟨0⟩).v,(l.getD 5 ⟨0⟩).v,(l.getD 6 ⟨0⟩).v,(l.getD 7 ⟨0⟩).v⟩
def nOf(l:List U32):Int:=(l.getD 8 ⟨0⟩).v*4294967296+(l.getD 9 ⟨0⟩).v
def load(l:List U32):Dg:=⟨lx l,nOf l,(l.drop 10).take (nOf l % 16).toNat⟩
theorem save_eq {d:Dg}(h:d.Ok){x y:Int}{n:Nat}(b:x=d.n / 4294967296)(i:y=d.n % 4294967296)(j:d.waits.length=n):
 ko (((ko (List.replicate 26 0) 0 (List.take (min 8 8) [d.st.a,d.st.b,d.st.c,d.st.d,d.st.e,d.st.f,d.st.g,d.st.h])).set 8 x).set 9 y) 10 ((List.map U32.v d.waits).take (min n 16))=d.save:=by
 have k:=h.len;have o:=h.n;subst b i j;rw[List.take_of_length_le (l:=List.map U32.v d.waits) (by simp;omega)];have e:(((ko (List.replicate 26 0) 0 (List.take (min 8 8) [d.st.a,d.st.b,d.st.c,d.st.d,d.st.e,d.st.f,d.st.g,d.st.h])).set 8 (d.n / 4294967296)).set 9 (d.n % 4294967296))= [d.st.a,d.st.b,d.st.c,d.st.d,d.st.e,d.st.f,d.st.g,d.st.h,d.n / 4294967296,d.n % 4294967296]++(List.replicate d.waits.length 0++List.replicate (16 - d.waits.length) 0):=by
  rw[List.replicate_append_replicate,show d.waits.length+(16 - d.waits.length)=16 by omega];rfl
 rw[e];exact uj [d.st.a,d.st.b,d.st.c,d.st.d,d.st.e,d.st.f,d.st.g,d.st.h,d.n / 4294967296,d.n % 4294967296] (d.waits.map U32.v) _ _ (by simp)
theorem ND {n:Int}(h:0<=n/\n<=36028797018963968):u32.wrap ((u64.wrap n:Int).fdiv (2 ^ 32))=n / 4294967296:=by
 rw[jg (by omega),mW,dV (by omega)];rfl
theorem nOf_eq {l:List U32}(h:∀x∈l,0<=x.v/\x.v<4294967296)(i:l.length=26):u64.wrap (BitVec.ofInt u64.bits (u64.wrap ((u64.wrap (l.getD 8 ⟨0⟩).v:Int)*2 ^ 32)) ||| BitVec.ofInt u64.bits (u64.wrap (l.getD 9 ⟨0⟩).v)).toNat=nOf l/\0<=nOf l/\nOf l<18446744073709551616:=by
 have o:=h _ (List.getElem_mem (show 8<l.length by omega));have p:=h _ (List.getElem_mem (show 9<l.length by omega));have j:(l.getD 8 ⟨0⟩)=l[8]:=by simp[List.getD_eq_getElem?_getD,i]
 have k:(l.getD 9 ⟨0⟩)=l[9]:=by simp[List.getD_eq_getElem?_getD,i]
 have d:nOf l=l[8].v*(4294967296:Int)+l[9].v:=by unfold nOf;rw[j,k]
 refine⟨?_,by rw[d];omega,by rw[d];omega⟩;rw[j,k,d];generalize l[8].v=a at *;generalize l[9].v=b at *;rw[jg (x:=a) (by omega),jg (x:=b) (by omega),jg (x:=a*2 ^ 32) (by omega)];rw[JY,BitVec.toNat_or,dS (by omega) (by omega),dS (by omega) (by omega)];have:=iN 32 (a:=a) (y:=b) (by omega) (by omega) (by omega);unfold nor at this;rw[show a*2 ^ 32=2 ^ 32*a by omega,this,jg (by omega)];omega
def aL(l:List U32):Int:=
 if l.length≠26 then 20 else if nOf l>36028797018963968\/(nOf l<16/\lx l≠S8.first)then 20
 else if(l.drop (10+(nOf l % 16).toNat)).all (λx=>x.v==0)then 0 else 20
def zero:Dg:=⟨⟨0,0,0,0,0,0,0,0⟩,0,[]⟩
def j8(l:List U32):Dg:=if aL l=0 then load l else zero
theorem qf {l:List U32}(h:¬l.length=26):aL l=20:=by unfold aL;rw[if_pos h]
theorem jz {l:List U32}(h:l.length=26)(b:nOf l>36028797018963968\/(nOf l<16/\lx l≠S8.first)):aL l=20:=by unfold aL;rw[if_neg (by simpa using h),if_pos b]
theorem oU {l:List U32}(h:l.length=26)(b:¬(nOf l>36028797018963968\/(nOf l<16/\lx l≠S8.first)))(d:∀(i:Nat)(x:U32),(l.drop (10+(nOf l % 16).toNat))[i]? =some x->x.v=0):aL l=0:=by
 unfold aL;rw[if_neg (by simpa using h),if_neg b,if_pos];rw[List.all_eq_true];intro x j;obtain⟨i,hi⟩:=List.getElem?_of_mem j;simpa using d i x hi
theorem iZ {l:List U32}(h:l.length=26)(b:¬(nOf l>36028797018963968\/(nOf l<16/\lx l≠S8.first))){i:Nat}{x:U32}(d:(l.drop (10+(nOf l % 16).toNat))[i]? =some x)(j:¬x.v=0):aL l=20:=by
 unfold aL;rw[if_neg (by simpa using h),if_neg b,if_neg];rw[List.all_eq_true];intro k;exact j (by simpa using k x (List.mem_of_getElem? d))
theorem lo_eq {l:List U32}:(i64.wrap (10+nOf l % 16)).toNat=10+(nOf l % 16).toNat:=by rw[ay (by omega)];omega
end Dg
structure DgL where
 Y:Nat->Prop
 a:Option Addr
 n:Nat
 c:Nat
def DgL.X(L:DgL)(g:Nat):Nat->Prop:=λk=>k=g\/L.Y k
structure kD(w:World)(g:Nat)(L:DgL)(D:Dg):Prop where
 blk:∃T,Blk w g #[.int .u32 D.st.a,.int .u32 D.st.b,.int .u32 D.st.c,.int .u32 D.st.d,.int .u32 D.st.e,.int .u32 D.st.f,.int .u32 D.st.g,.int .u32 D.st.h,.int .i64 D.n,.slice L.a L.n L.c] T
 rd:Rd w L.Y L.a L.n L.c D.waits
 off:¬L.Y g
variable {w w':World}{g:Nat}{L:DgL}{D:Dg}{X:Nat->Prop}
theorem kD.lt(h:kD w g L D):∀k,L.X g k->k<w.heap.size:=by
 rintro k (rfl|d)
 ·obtain⟨T,b⟩:=h.blk;exact b.lt
 ·exact h.rd.lt k d
theorem kD.ch(h:kD w g L D)(d:Ch X w w')(i:∀k,L.X g k->¬X k):kD w' g L D:=
 ⟨h.blk.imp λ_ b=>d.blk b (i g (.inl rfl)),h.rd.ch d λk d=>i k (.inr d),h.off⟩
theorem kD.pu(h:kD w g L D)(b:Pu w w'):kD w' g L D:=h.ch b (by simp)
end
structure Mem where
 S:Nat
 I:Nat
 pg:Bool->Nat->Nat->Int
namespace Mem
def cnt(m:Mem)(s:Bool):Nat:=match s with
 |true=>m.S
 |false=>m.I
def has(m:Mem)(s:Bool)(p:Int):Bool:=decide (0<=p/\p<(m.cnt s:Int))
def eA(o:Int):Bool:=decide (0<=o/\o<1024)
def aI(m:Mem)(s:Bool)(p o:Int):Int:=if m.has s p && eA o then m.pg s p.toNat o.toNat else 0
def tick(m:Mem)(_:Int):Mem:=m
def fill(m:Mem)(s:Bool)(p:Nat)(f:Nat->Int):Mem:= {m with pg:=λs' b d=>if s'=s/\b=p then f d else m.pg s' b d}
def put(m:Mem)(s:Bool)(p o:Nat)(v:Int):Mem:=m.fill s p λb=>if b=o then v else m.pg s p b
def err(m:Mem)(s:Bool)(p o:Int):Int:=if m.has s p then(if eA o then 0 else 70)else 5
def write(m:Mem)(s:Bool)(p o v:Int):Mem:=if m.has s p && eA o then(m.put s p.toNat o.toNat v).tick 1 else m
def gu(m:Mem)(s:Bool)(p:Int):Int:=if m.has s p then 0 else 5
def zero(m:Mem)(s:Bool)(p:Int):Mem:=if m.has s p then(m.fill s p.toNat λ_=>0).tick 1024 else m
def fresh(S I:Nat):Mem:= {S,I,pg:=λ_ _ _=>0}
@[simp] theorem Qo(m:Mem)(n:Int)(s:Bool):(m.tick n).cnt s=m.cnt s:=by cases s<;>rfl
@[simp] theorem JR(m:Mem)(s':Bool)(p:Nat)(f:Nat->Int)(s:Bool):(m.fill s' p f).cnt s=m.cnt s:=by cases s<;>rfl
@[simp] theorem Mh(m:Mem)(s':Bool)(p o:Nat)(v:Int)(s:Bool):(m.put s' p o v).cnt s=m.cnt s:=by cases s<;>rfl
theorem dC {m:Mem}{s:Bool}{p:Int}(h:m.has s p=true):0<=p/\p<(m.cnt s:Int):=by simpa[has]using h
theorem fy {m:Mem}{s:Bool}{p:Int}(h:m.has s p=true):p.toNat<m.cnt s:=by have:=dC h;omega
theorem kQ {o:Int}(h:eA o=true):0<=o/\o<1024:=by simpa[eA]using h
end Mem
def qu:List Nat:=(rgN 2 192++ [211,212,219])
theorem Dt:eO prog qu=true:=by kernel_rfl
theorem ak:prog.follows .mixedOrders=true:=by kernel_rfl
abbrev aq(a:Ann):Ann:=.node none .leaf a
abbrev bI(R:aV)(e:Ending)(w:World):Prop:=∃v,e=.returned v/\R v w
theorem rvc(N:List Nat)(b:Ann){f:FuncId}{fn:Func}{args:List Value}{R:aV}{w:World}{F:Prop}(d:prog.funcs[f]? =some fn)(h:F)(he:F=vcF prog qu N fn b args R none w:=by kernel_rfl):Calls prog f ⟨args⟩ w (bI R):=
 wy d Dt ak (he.mp h)
theorem zG(p:oA)(j v:Nat)(q:oA)(o x:Nat){R:aV}{w:World}(h:split ((((j:Nat):Int):Int) !=((o:Nat):Int)) (R (vB false) w) (∃I:Nat->Int->World->Prop,(∃m,I m 0 w)/\∀(m:Nat)(C:Nat->Value)(b:Int),∀d,I m b d->split (decide ((b:Int)<((j:Nat):Int))) ((0<=(b:Int)/\(b:Int)<((j:Nat):Int))/\aF p λy=>∃r:oA,d.drew.cell? (y.add (Int.toNat b*1))=some (.pointer r)/\aF r λz=>∃k:Array Value,(k.size=1024/\∀i u,k[i]? =some u->d.drew.cell? (z.add i)=some u)/\(0<=(b:Int)/\(b:Int)<((o:Nat):Int))/\aF q λA=>∃t:oA,d.drew.cell? (A.add (Int.toNat b*1))=some (.pointer t)/\aF t λB=>∃l:Array Value,(l.size=1024/\∀i u,l[i]? =some u->d.drew.cell? (B.add i)=some u)/\de (uA [.int .u32] 1024) (k:Array Value).toList=true/\de (uA [.int .u32] 1024) (l:Array Value).toList=true/\split (!(bG k l)) (R (vB false) d.drew) (∃m1,m1<m/\I m1 (i64.wrap (b+1)) d.drew)) (R (vB true) d))):Calls prog 87 #[(.slice p j v),(.slice q o x)] w (bI R):=rvc [] (aq (aq (.node none (aq (.node none (.node (some ⟨[(13,.one (.int .i64))],[4,5,13,14,15,16,17,18,19,20,21,22,23,24,25,26,27,28,29]⟩) .leaf .leaf) .leaf)) .leaf))) Tryz.func87 h
theorem He(m:oA)(v:Bool)(x:Int){R:aV}{w:World}(h:∀(j:Nat)(b:World),j=w.heap.size->b=w.alloc (.cells #[vB v,J x] 52)->aF m λB=>∃y:oA,∃r C:Nat,b.cell? (B.add 1)=some (.slice y r C)/\∃z:Bool,b.cell? ((vA j).add 0)=some (vB z)/\split z (aF m λF=>∃A:oA,∃t G:Nat,b.cell? (F.add 0)=some (.slice A t G)/\∃k:Bool->World->Prop,(∃l:Int,b.cell? ((vA j).add 1)=some (J l)/\split (decide ((l:Int)<0)) (k true b) (∃o:Int,b.cell? ((vA j).add 1)=some (J o)/\k (decide ((o:Int)>=((t:Nat):Int))) b))/\∀(H:Nat->Value)(p:Bool),∀d,k p d->split p (R (.pointer none) d) (∃i:Int,d.cell? ((vA j).add 1)=some (J i)/\(0<=(i:Int)/\(i:Int)<((t:Nat):Int))/\aF A λu=>∃q:oA,d.cell? (u.add (Int.toNat i*1))=some (.pointer q)/\R (.pointer q) d)) (∃k:Bool->World->Prop,(∃l:Int,b.cell? ((vA j).add 1)=some (J l)/\split (decide ((l:Int)<0)) (k true b) (∃o:Int,b.cell? ((vA j).add 1)=some (J o)/\k (decide ((o:Int)>=((r:Nat):Int))) b))/\∀(H:Nat->Value)(p:Bool),∀d,k p d->split p (R (.pointer none) d) (∃i:Int,d.cell? ((vA j).add 1)=some (J i)/\(0<=(i:Int)/\(i:Int)<((r:Nat):Int))/\aF y λu=>∃q:oA,d.cell? (u.add (Int.toNat i*1))=some (.pointer q)/\R (.pointer q) d))):Calls prog 49 #[(.pointer m),(.agg #[vB v,J x])] w (bI R):=rvc [] (aq (aq (aq (.node none (.node none (.node (some ⟨[(25,.one (.bool))],(rgN 16 10)⟩) .leaf .leaf) .leaf) .leaf)))) Tryz.func49 h
theorem zF(m:oA){R:aV}{w:World}(h:∃b:bP,aF m λo=>b 3 ((o.add 0).block)/\∃p:oA,∃q r:Nat,w.drew.cell? (o.add 0)=some (.slice p q r)/\aF m λt=>b 8 ((t.add 1).block)/\∃u:oA,∃v x:Nat,w.drew.cell? (t.add 1)=some (.slice u v x)/\aF m λp14=>b 13 ((p14.add 2).block)/\∃y:Int,w.drew.cell? (p14.add 2)=some (J y)/\Calls prog 75 #[(.slice p q r)] w.drew λe j=>∃z:oA,∃A B:Nat,e=.returned (.slice z A B)/\Kept (bY b [0,5,6,7,8,10,11,12,13]) w.drew j/\∃b1:bP,(∀i k,b i k->b1 i k)/\Calls prog 75 #[(.slice u v x)] j λe d=>∃C:oA,∃F G:Nat,e=.returned (.slice C F G)/\Kept (bY b1 [0,1,5,10,11,12,13]) j d/\∃b2:bP,(∀i k,b1 i k->b2 i k)/\∀(H:Nat)(l:World),H=d.heap.size->l=d.alloc (.cells #[(.slice z A B),(.slice C F G),J y] 105)->Kept (bY b2 [0,1,2,5,6,7,10,11]) d l/\∃b3:bP,(∀i k,b2 i k->b3 i k)/\R (.pointer (pvA H)) l):Calls prog 35 #[(.pointer m)] w (bI R):=rvc [] (.leaf) Tryz.func35 h
theorem B9(m:oA)(y:Bool)(z:Int)(A:Bool)(B:Int){R:aV}{w:World}(h:∀(l:Nat)(q:World),l=w.heap.size->q=w.alloc (.cells #[vB y,J z] 52)->∀(o:Nat)(d:World),o=q.heap.size->d=q.alloc (.cells #[vB A,J B] 52)->∃b:bP,b 1 ((vA l).block)/\∃C:Bool,∃F:Int,(d.drew.cell? ((vA l).add 0)=some (vB C)/\d.drew.cell? ((vA l).add 1)=some (J F))/\b 4 ((vA o).block)/\∃G:Bool,∃H:Int,(d.drew.cell? ((vA o).add 0)=some (vB G)/\d.drew.cell? ((vA o).add 1)=some (J H))/\Calls prog 49 #[(.pointer m),(.agg #[vB C,J F])] d.drew λe I=>∃r:oA,e=.returned (.pointer r)/\Kept (bY b [3,4]) d.drew I/\∃b1:bP,(∀i k,b i k->b1 i k)/\Calls prog 49 #[(.pointer m),(.agg #[vB G,J H])] I λe M=>∃t:oA,e=.returned (.pointer t)/\∃b2:bP,(∀i k,b1 i k->b2 i k)/\∃x:Bool->World->Prop,(split r.isNone (x true M) (x t.isNone M))/\∀(SQ:Nat->Value)(O:Bool),∀p,x O p->split O (R (J 5) p) (aF m λT=>∃Q:Int,p.cell? (T.add 2)=some (J Q)/\aF m λV=>aB p (V.add 2) [J (i64.wrap (Q+2048))] λS=>aF t λW=>∃j:Array Value,(j.size=1024/\∀i u,j[i]? =some u->S.cell? (W.add i)=some u)/\aF r λaa=>j.size=1024/\(∀v∈j.toList,one? v True)/\aB S aa j.toList λSb=>R (J 0) Sb)):Calls prog 69 #[(.pointer m),(.agg #[vB y,J z]),(.agg #[vB A,J B])] w (bI R):=rvc [] (aq (aq (.node none (.node none (.node (some ⟨[(20,.one (.bool))],(rgN 15 6)⟩) .leaf .leaf) .leaf) .leaf))) Tryz.func69 h
theorem B8(q:oA)(j z:Nat){R:aV}{w:World}(h:∃l:oA,∃o r:Nat,∃t,(Instr.makeSlice 102 (J ((j:Nat):Int)) (J ((j:Nat):Int)):Sem Value).run prog w=.ok (.slice l o r) t/\∃I:Nat->Int->World->Prop,(∃m,I m 0 t)/\∀(m:Nat)(H:Nat->Value)(b:Int),∀d,I m b d->split (decide ((b:Int)<((j:Nat):Int))) ((0<=(b:Int)/\(b:Int)<((j:Nat):Int))/\aF q λA=>∃x:oA,d.cell? (A.add (Int.toNat b*1))=some (.pointer x)/\aF x λB=>∃k:Array Value,(k.size=1024/\∀i u,k[i]? =some u->d.cell? (B.add i)=some u)/\∀(p:Nat)(y:World),p=d.heap.size->y=d.alloc (.cells (Array.replicate 1024 (O 0)) 162)->k.size=1024/\(∀v∈k.toList,one? v True)/\aB y (vA p) k.toList λC=>(0<=(b:Int)/\(b:Int)<((o:Nat):Int))/\aF l λF=>aB C (F.add (Int.toNat b*1)) [(.pointer (pvA p))] λG=>∃m1,m1<m/\I m1 (i64.wrap (b+1)) G) (R (.slice l o r) d)):Calls prog 75 #[(.slice q j z)] w (bI R):=rvc [] (aq (aq (.node none (aq (.node none (.node (some ⟨[(12,.one (.int .i64))],[4,5,6,12,13,14,15,16,17,18,19,20,21,22,23]⟩) .leaf .leaf) .leaf)) .leaf))) Tryz.func75 h
theorem Ed(m:oA)(i:Bool)(j:Int){R:aV}{w:World}(h:∀(d:Nat)(b:World),d=w.heap.size->b=w.alloc (.cells #[vB i,J j] 52)->∃k:Bool,∃l:Int,(b.cell? ((vA d).add 0)=some (vB k)/\b.cell? ((vA d).add 1)=some (J l))/\Calls prog 49 #[(.pointer m),(.agg #[vB k,J l])] b λe p=>∃o:oA,e=.returned (.pointer o)/\R (vB (!o.isNone)) p):Calls prog 169 #[(.pointer m),(.agg #[vB i,J j])] w (bI R):=rvc [] (.leaf) Tryz.func169 h
theorem tp(m:oA){R:aV}{w:World}(h:aF m λd=>∃i:oA,∃b j:Nat,w.cell? (d.add 1)=some (.slice i b j)/\R (J ((b:Nat):Int)) w):Calls prog 98 #[(.pointer m)] w (bI R):=rvc [] (.leaf) Tryz.func98 h
theorem B6(n:Int){R:aV}{w:World}(h:∃j:oA,∃d k:Nat,∃l,(Instr.makeSlice 102 (J n) (J n):Sem Value).run prog w=.ok (.slice j d k) l/\∃I:Nat->Int->World->Prop,(∃m,I m 0 l)/\∀(m:Nat)(t:Nat->Value)(b:Int),∀i,I m b i->split (decide ((b:Int)<((d:Nat):Int))) (∀(o:Nat)(p:World),o=i.heap.size->p=i.alloc (.cells (Array.replicate 1024 (O 0)) 162)->(0<=(b:Int)/\(b:Int)<((d:Nat):Int))/\aF j λq=>aB p (q.add (Int.toNat b*1)) [(.pointer (pvA o))] λr=>∃m1,m1<m/\I m1 (i64.wrap (b+1)) r) (R (.slice j d k) i)):Calls prog 50 #[J n] w (bI R):=rvc [] (aq (aq (.node none (aq (.node none (.node (some ⟨[(9,.one (.int .i64))],[4,9,10,11,12,13,14,15,16,17]⟩) .leaf .leaf) .leaf)) .leaf))) Tryz.func50 h
theorem Eb(cD d:Int){R:aV}{w:World}(h:∃b:Bool->World->Prop,(split (decide ((cD:Int)<1)) (b true w) (split (decide ((cD:Int)>64)) (b true w) (split (decide ((d:Int)<1)) (b true w) (b (decide ((d:Int)>64)) w))))/\∀(y:Nat->Value)(j:Bool),∀i,b j i->split j (R (.tuple #[(.pointer none),J 1]) i) (Calls prog 50 #[J cD] i λe x=>∃k:oA,∃l o:Nat,e=.returned (.slice k l o)/\Calls prog 50 #[J d] x λe p=>∃q:oA,∃r t:Nat,e=.returned (.slice q r t)/\∀(u:Nat)(v:World),u=p.heap.size->v=p.alloc (.cells #[(.slice k l o),(.slice q r t),J 0] 105)->R (.tuple #[(.pointer (pvA u)),J 0]) v)):Calls prog 25 #[J cD,J d] w (bI R):=rvc [] (aq (.node none (.node none (.node (some ⟨[(19,.one (.bool))],(rgN 6 14)⟩) .leaf .leaf) .leaf) .leaf)) Tryz.func25 h
theorem B5(m:oA)(o:Bool)(p:Int){R:aV}{w:World}(h:∀(d:Nat)(b:World),d=w.heap.size->b=w.alloc (.cells #[vB o,J p] 52)->∃q:Bool,∃r:Int,(b.cell? ((vA d).add 0)=some (vB q)/\b.cell? ((vA d).add 1)=some (J r))/\Calls prog 90 #[(.pointer m),(.agg #[vB q,J r]),J 1] b λe t=>∃u:oA,∃i:Int,e=.returned (.tuple #[(.pointer u),J i])/\split ((i:Int) !=0) (R (.tuple #[(.slice none 0 0),J i]) t) (∃j:oA,∃k l:Nat,∃v,(Instr.makeSlice 22 (J 1024) (J 1024):Sem Value).run prog t=.ok (.slice j k l) v/\aF u λx=>∀y:oA,y=(some (if 1024=0 then x else x.add (0*1)))->∀z:Nat,z=1024 - 0->∀A:Nat,A=1024 - 0->∃C:Int,∃B,(Builtin.copy_ #[22,22] 3 #[(.slice j k l),(.slice y z A)]:Sem Value).run prog v=.ok (J C) B/\R (.tuple #[(.slice j k l),J 0]) B)):Calls prog 71 #[(.pointer m),(.agg #[vB o,J p])] w (bI R):=rvc [] (.leaf) Tryz.func71 h
theorem B3(m:oA)(k:Bool)(l off:Int){R:aV}{w:World}(h:∀(d:Nat)(b:World),d=w.heap.size->b=w.alloc (.cells #[vB k,J l] 52)->∃o:Bool,∃p:Int,(b.cell? ((vA d).add 0)=some (vB o)/\b.cell? ((vA d).add 1)=some (J p))/\Calls prog 76 #[(.pointer m),(.agg #[vB o,J p]),J off] b λe i=>∃q:oA,∃j:Int,e=.returned (.tuple #[(.pointer q),J j])/\split ((j:Int) !=0) (R (.tuple #[O 0,J j]) i) (aF q λt=>∃r:Int,i.cell? t=some (O r)/\R (.tuple #[O r,J 0]) i)):Calls prog 39 #[(.pointer m),(.agg #[vB k,J l]),J off] w (bI R):=rvc [] (.leaf) Tryz.func39 h
theorem B0(m o:oA){R:aV}{w:World}(h:∃J:Bool->World->Prop,(∃b:bP,aF m λj=>b 3 ((j.add 0).block)/\∃l:oA,∃p q:Nat,w.drew.cell? (j.add 0)=some (.slice l p q)/\aF o λr=>b 7 ((r.add 0).block)/\∃t:oA,∃u v:Nat,w.drew.cell? (r.add 0)=some (.slice t u v)/\Calls prog 87 #[(.slice l p q),(.slice t u v)] w.drew λe d=>∃x:Bool,e=.returned (vB x)/\Kept (bY b [0,4]) w.drew d/\∃b1:bP,(∀i k,b i k->b1 i k)/\split x (aF m λy=>b1 13 ((y.add 1).block)/\∃z:oA,∃A B:Nat,d.cell? (y.add 1)=some (.slice z A B)/\aF o λC=>b1 17 ((C.add 1).block)/\∃F:oA,∃G H:Nat,d.cell? (C.add 1)=some (.slice F G H)/\Calls prog 87 #[(.slice z A B),(.slice F G H)] d λe I=>∃M:Bool,e=.returned (vB M)/\Kept (bY b1 [0,1,2,4,5,6,10,14]) d I/\∃b2:bP,(∀i k,b1 i k->b2 i k)/\J M I) (J false d))/\∀(Q:Nat->Value)(O:Bool),∀d,J O d->R (vB O) d):Calls prog 46 #[(.pointer m),(.pointer o)] w (bI R):=rvc [] (aq (.node none (.node (some ⟨[(4,.one (.bool))],(rgN 4 21)⟩) .leaf .leaf) .leaf)) Tryz.func46 h
theorem wL(m:oA){R:aV}{w:World}(h:aF m λd=>∃i:oA,∃b j:Nat,w.cell? (d.add 0)=some (.slice i b j)/\R (J ((b:Nat):Int)) w):Calls prog 51 #[(.pointer m)] w (bI R):=rvc [] (.leaf) Tryz.func51 h
theorem zB(m:oA)(k:Bool)(l times:Int){R:aV}{w:World}(h:∀(d:Nat)(b:World),d=w.heap.size->b=w.alloc (.cells #[vB k,J l] 52)->∃o:Bool,∃p:Int,(b.cell? ((vA d).add 0)=some (vB o)/\b.cell? ((vA d).add 1)=some (J p))/\Calls prog 49 #[(.pointer m),(.agg #[vB o,J p])] b λe i=>∃j:oA,e=.returned (.pointer j)/\split j.isNone (R (.tuple #[(.pointer none),J 5]) i) (aF m λr=>∃q:Int,i.cell? (r.add 2)=some (J q)/\aF m λt=>aB i (t.add 2) [J (i64.wrap (q+(i64.wrap (times*1024))))] λu=>R (.tuple #[(.pointer j),J 0]) u)):Calls prog 90 #[(.pointer m),(.agg #[vB k,J l]),J times] w (bI R):=rvc [] (.leaf) Tryz.func90 h
theorem BZ(m:oA)(o:Bool)(p off:Int){R:aV}{w:World}(h:∀(i:Nat)(b:World),i=w.heap.size->b=w.alloc (.cells #[vB o,J p] 52)->∃q:Bool,∃r:Int,(b.cell? ((vA i).add 0)=some (vB q)/\b.cell? ((vA i).add 1)=some (J r))/\Calls prog 49 #[(.pointer m),(.agg #[vB q,J r])] b λe j=>∃k:oA,e=.returned (.pointer k)/\split k.isNone (R (.tuple #[(.pointer none),J 5]) j) (∃l:Bool->World->Prop,(split (decide ((off:Int)<0)) (l true j) (l (decide ((off:Int)>=1024)) j))/\∀(A:Nat->Value)(t:Bool),∀d,l t d->split t (R (.tuple #[(.pointer none),J 70]) d) (aF m λv=>∃u:Int,d.cell? (v.add 2)=some (J u)/\aF m λx=>aB d (x.add 2) [J (i64.wrap (u+1))] λy=>aF k λz=>(0<=(off:Int)/\(off:Int)<((1024:Nat):Int))/\R (.tuple #[(.pointer (some (z.add (Int.toNat off*1)))),J 0]) y))):Calls prog 76 #[(.pointer m),(.agg #[vB o,J p]),J off] w (bI R):=rvc [] (aq (aq (aq (.node none (.node none (.node (some ⟨[(19,.one (.bool))],(rgN 14 6)⟩) .leaf .leaf) .leaf) .leaf)))) Tryz.func76 h
theorem zA(m:oA)(j:Bool)(k off v:Int){R:aV}{w:World}(h:∀(i:Nat)(b:World),i=w.heap.size->b=w.alloc (.cells #[vB j,J k] 52)->∃l:Bool,∃o:Int,(b.cell? ((vA i).add 0)=some (vB l)/\b.cell? ((vA i).add 1)=some (J o))/\Calls prog 76 #[(.pointer m),(.agg #[vB l,J o]),J off] b λe p=>∃q:oA,∃d:Int,e=.returned (.tuple #[(.pointer q),J d])/\split ((d:Int)==0) (aF q λr=>aB p r [O v] λt=>R (J d) t) (R (J d) p)):Calls prog 36 #[(.pointer m),(.agg #[vB j,J k]),J off,O v] w (bI R):=rvc [] (.leaf) Tryz.func36 h
theorem BY(m:oA)(j:Bool)(k:Int){R:aV}{w:World}(h:∀(i:Nat)(b:World),i=w.heap.size->b=w.alloc (.cells #[vB j,J k] 52)->∃l:Bool,∃o:Int,(b.cell? ((vA i).add 0)=some (vB l)/\b.cell? ((vA i).add 1)=some (J o))/\Calls prog 90 #[(.pointer m),(.agg #[vB l,J o]),J 1] b λe p=>∃q:oA,∃d:Int,e=.returned (.tuple #[(.pointer q),J d])/\split ((d:Int)==0) (aF q λr=>∀t:oA,t=(some (if 1024=0 then r else r.add (0*1)))->∀u:Nat,u=1024 - 0->∀v:Nat,v=1024 - 0->∃x,(Builtin.clear_ #[22] 0 #[(.slice t u v)]:Sem Value).run prog p=.ok (.tuple #[]) x/\R (J d) x) (R (J d) p)):Calls prog 52 #[(.pointer m),(.agg #[vB j,J k])] w (bI R):=rvc [] (.leaf) Tryz.func52 h
section
structure fO where
 g:Nat
 a:Nat
 b:Nat
 pg:Bool->Nat->Nat
 n:Bool->Nat
def fO.row(L:fO)(s:Bool):Nat:=match s with
 |true=>L.a
 |false=>L.b
def fO.X(L:fO):Nat->Prop:=λk=>k=L.g\/k=L.a\/k=L.b\/∃s i,i<L.n s/\k=L.pg s i
abbrev ptr(g:Nat):Value:=.pointer (pvA g)
abbrev fr(s:Bool)(p:Int):Value:=.agg #[.bool s,.int .i64 p]
structure cJ(w:World)(L:fO)(m:Mem):Prop where
 cnt:∀s,L.n s=m.cnt s
 hd:∃T:TypeId×Int,Blk w L.g #[.slice (some (Addr.mk L.a 0 none)) m.S m.S,.slice (some (Addr.mk L.b 0 none)) m.I m.I,.int .i64 T.2] T.1
 rows:∀s,∃T cs,Blk w (L.row s) cs T/\∀i,i<m.cnt s->cs[i]? =some (ptr (L.pg s i))
 pgs:∀s i,i<m.cnt s->∃T cs,Blk w (L.pg s i) cs T/\cs.size=1024/\∀o,o<1024->cs[o]? =some (O (m.pg s i o))
 inj:∀s i s' i',i<m.cnt s->i'<m.cnt s'->L.pg s i=L.pg s' i'->s=s'/\i=i'
 dis:L.a≠L.g/\L.b≠L.g/\∀s i,i<m.cnt s->L.pg s i≠L.g/\L.pg s i≠L.a/\L.pg s i≠L.b
 u32:∀s i o,0<=m.pg s i o/\m.pg s i o<4294967296
 ir:m.S<=64/\m.I<=64
theorem cJ.inX {w:World}{L:fO}{m:Mem}(h:cJ w L m){s:Bool}{i:Nat}(hi:i<m.cnt s):L.X (L.pg s i):=.inr (.inr (.inr ⟨s,i,by rw[h.cnt];exact hi,rfl⟩))
theorem cJ.kept {w w':World}{L:fO}{m:Mem}{B:Nat->Prop}(h:cJ w L m)(b:Kept B w w')(hb:∀k,L.X k->B k):cJ w' L m:=by
 refine⟨h.cnt,?_,λs=>?_,λs i hi=>?_,h.inj,h.dis,h.u32,h.ir⟩
 ·obtain⟨T,hd⟩:=h.hd;exact⟨T,hd.kept b (hb _ (.inl rfl))⟩
 ·obtain⟨T,cs,d,j⟩:=h.rows s;exact⟨T,cs,d.kept b (hb _ (by cases s<;>simp[fO.X,fO.row])),j⟩
 ·obtain⟨T,cs,d,j⟩:=h.pgs s i hi;exact⟨T,cs,d.kept b (hb _ (h.inX hi)),j⟩
theorem cJ.lt {w:World}{L:fO}{m:Mem}(h:cJ w L m):∀k,L.X k->k<w.heap.size:=by
 rintro k (rfl|rfl|rfl|⟨s,i,hi,rfl⟩)
 ·obtain⟨T,hd⟩:=h.hd;exact hd.lt
 ·obtain⟨T,cs,b,d⟩:=h.rows true;exact b.lt
 ·obtain⟨T,cs,b,d⟩:=h.rows false;exact b.lt
 ·obtain⟨T,cs,b,d⟩:=h.pgs s i (by rw[<-h.cnt];exact hi);exact b.lt
theorem cJ.ch {w w':World}{L:fO}{m:Mem}{Y:Nat->Prop}(h:cJ w L m)(d:Ch Y w w')(hb:∀k,L.X k->¬Y k):cJ w' L m:=
 h.kept d.kept λk b=>⟨h.lt k b,hb k b⟩
theorem cJ.pu {w w':World}{L:fO}{m:Mem}(h:cJ w L m)(b:Pu w w'):cJ w' L m:=h.ch b (by simp)
theorem cJ.IV {w w2:World}{L:fO}{m:Mem}(h:cJ w L m){T:TypeId}{x:Int}(hs:cp w L.g #[.slice (some (Addr.mk L.a 0 none)) m.S m.S,.slice (some (Addr.mk L.b 0 none)) m.I m.I,.int .i64 x] T w2):cJ w2 L m:=by
 have j:∀k,k≠L.g->(λk=>k≠L.g) k:=λ_ h=>h;refine⟨h.cnt,⟨(T,x),hs.blk⟩,λs=>?_,λs i hi=>?_,h.inj,h.dis,h.u32,h.ir⟩
 ·obtain⟨T,cs,b,d⟩:=h.rows s;exact⟨T,cs,hs.old b (by cases s<;>simp[fO.row,h.dis.1,h.dis.2.1]),d⟩
 ·obtain⟨T,cs,b,d⟩:=h.pgs s i hi;exact⟨T,cs,hs.old b (h.dis.2.2 s i hi).1,d⟩
theorem cJ.aH {w w2:World}{L:fO}{m:Mem}(h:cJ w L m){s:Bool}{i:Nat}(hi:i<m.cnt s){cs:Array Value}{T:TypeId}{f:Nat->Int}(hs:cp w (L.pg s i) cs T w2)(q:cs.size=1024)(r:∀o,o<1024->cs[o]? =some (O (f o)))
 (hu:∀o,0<=f o/\f o<4294967296):cJ w2 L (m.fill s i f):=by
 obtain⟨t,hd⟩:=h.hd;refine⟨λs=>by rw[h.cnt];simp,⟨t,hs.old hd (λe=>(h.dis.2.2 s i hi).1 e.symm)⟩,λs'=>?_,λs' d u=>?_,λs1 i1 s2 i2 j b=>h.inj s1 i1 s2 i2 (by simpa using j) (by simpa using b),⟨h.dis.1,h.dis.2.1,λs1 i1 j=>h.dis.2.2 s1 i1 (by simpa using j)⟩,λs' d o=>?_,h.ir⟩
 ·obtain⟨T,cs,k,b⟩:=h.rows s';refine⟨T,cs,hs.old k ?_,by simpa using b⟩;have:=(h.dis.2.2 s i hi).2;cases s'<;>simp only[fO.row]
  ·exact λe=>this.2 e.symm
  ·exact λe=>this.1 e.symm
 ·have p:d<m.cnt s':=by simpa using u
  by_cases hq:s'=s/\d=i
  ·obtain⟨rfl,rfl⟩:=hq;exact⟨T,cs,hs.blk,q,λo l=>by rw[r o l];simp[Mem.fill]⟩
  ·obtain⟨T,cs,k,b,v⟩:=h.pgs s' d p;refine⟨T,cs,hs.old k (λe=>hq (h.inj _ _ _ _ p hi e)),b,λo l=>?_⟩;rw[v o l];simp only[Mem.fill];rw[if_neg hq]
 ·simp only[Mem.fill];split
  ·exact hu o
  ·exact h.u32 _ _ _
theorem OE {w:World}{g i:Nat}{cs:Array Value}{T:TypeId}{k:IntKind}{x:Int}{K:Int->Prop}(hb:Blk w g cs T)(hi:cs[i]? =some (.int k x))(b:K x):
 aF (pvA g) λp=>∃x:Int,w.cell? (p.add i)=some (.int k x)/\K x:=au _ rfl ⟨_,hb.at hi,b⟩
theorem LY {w:World}{g i:Nat}{cs:Array Value}{T:TypeId}{A:Option Addr}{n c:Nat}{K:Option Addr->Nat->Nat->Prop}(hb:Blk w g cs T)(hi:cs[i]? =some (.slice A n c))(b:K A n c):
 aF (pvA g) λp=>∃(A:oA)(n c:Nat),w.cell? (p.add i)=some (.slice A n c)/\K A n c:=au _ rfl ⟨_,_,_,hb.at hi,b⟩
section
variable {w:World}{L:fO}{m:Mem}
theorem mAt(h:cJ w L m)(s:Bool)(p:Int):
 Calls prog 49 #[ptr L.g,fr s p] w λe w'=>∃v,e=.returned v/\v=.pointer (if m.has s p then some (Addr.mk (L.pg s p.toNat) 0 none)else none)/\Pu w w':=by
 refine He _ s p ?_;intro o w1 G hw;have d:=made G hw;have t:=h.pu d.pu;obtain⟨T,hd⟩:=t.hd;refine LY hd rfl ⟨_,d.blk.at rfl,?_⟩;have fin:∀(a n:Nat),n=m.cnt s->a=L.row s->
  ∃i:Bool->World->Prop,(
  ∃u:Int,w1.cell? ((vA o).add 1)=some (J u)/\
  split (decide ((u:Int)<0)) (
   i true w1) (
   ∃y:Int,w1.cell? ((vA o).add 1)=some (J y)/\
   i (decide ((y:Int)>=((n:Nat):Int))) w1))/\∀(O:Nat->Value)(z:Bool),∀j,i z j->
  split z (
   (∃v,v=(Value.pointer none)/\v=.pointer (if m.has s p then some (Addr.mk (L.pg s p.toNat) 0 none)else none)/\Pu w j)) (
   ∃l:Int,j.cell? ((vA o).add 1)=some (J l)/\
   (0<=(l:Int)/\(l:Int)<((n:Nat):Int))/\
   aF (pvA a) λH=>
   ∃A:oA,j.cell? (H.add (Int.toNat l*1))=some (.pointer A)/\
   (∃v,v=(Value.pointer A)/\v=.pointer (if m.has s p then some (Addr.mk (L.pg s p.toNat) 0 none)else none)/\Pu w j)):=by
  intro a n B I;refine⟨λb w'=>w1=w'/\b= !(m.has s p),⟨_,d.blk.at rfl,ao (λhb=>⟨rfl,?_⟩) (λhb=>⟨_,d.blk.at rfl,rfl,?_⟩)⟩,?_⟩
  ·simp at hb;simp[Mem.has];omega
  ·simp at hb;subst B;simp only[Mem.has,ge_iff_le];rw[Bool.eq_iff_iff];simp;omega
  ·rintro _ x _ ⟨rfl,rfl⟩;refine ao (λhb=>⟨_,rfl,?_,d.pu⟩) (λhb=>?_)
   ·simp at hb;simp[hb]
   ·have C:m.has s p=true:=by simpa using hb
    have hp:0<=p/\p<(n:Int):=by subst B;simpa[Mem.has]using C
    obtain⟨T2,cs,F,M⟩:=t.rows s;rw[<-I]at F;refine⟨_,d.blk.at rfl,hp,au _ rfl ⟨_,?_,_,rfl,by rw[if_pos C],d.pu⟩⟩;rw[Nat.mul_one];exact F.at (M _ (by omega))
 refine ao (λhb=>?_) (λhb=>?_)
 ·subst hb;exact LY hd rfl (by
   obtain⟨i,k⟩:=fin L.a m.S rfl rfl;refine⟨i,k.1,λg x q r=>?_⟩;have:=k.2 g x q r;simpa using this)
 ·subst hb;obtain⟨i,k⟩:=fin L.b m.I rfl rfl;refine⟨i,k.1,λg x q r=>?_⟩;have:=k.2 g x q r;simpa using this
theorem QY(h:cJ w L m)(s:Bool)(p:Int):
 Calls prog 169 #[ptr L.g,fr s p] w λe w'=>∃v,e=.returned v/\v=.bool (m.has s p)/\Pu w w':=by
 refine Ed _ s p ?_;intro i w1 d hw;have b:=made d hw;refine⟨_,_,⟨b.blk.at rfl,b.blk.at rfl⟩,(mAt (h.pu b.pu) s p).mono ?_⟩;rintro e w2 ⟨_,rfl,rfl,hp⟩;refine⟨_,rfl,?_,b.pu.trans hp⟩;cases m.has s p<;>rfl
theorem Fb(h:cJ w L m):Calls prog 51 #[ptr L.g] w λe w'=>∃v,e=.returned v/\v=.int .i64 m.S/\w'=w:=by
 obtain⟨T,hd⟩:=h.hd;exact wL _ (LY hd rfl ⟨rfl,rfl⟩)
theorem M4(h:cJ w L m)(s:Bool)(p o:Int):
 Calls prog 76 #[ptr L.g,fr s p,.int .i64 o] w λe w'=>∃v,e=.returned v/\
  ((m.has s p && Mem.eA o)=true/\v=.tuple #[.pointer (some (Addr.mk (L.pg s p.toNat) o.toNat none)),.int .i64 0]/\cJ w' L (m.tick 1)/\Ch L.X w w'\/
   (m.has s p && Mem.eA o)=false/\v=.tuple #[.pointer none,.int .i64 (m.err s p o)]/\m.err s p o≠0/\Pu w w'):=by
 refine BZ _ s p o ?_;intro t w1 q hw;have i:=made q hw;refine⟨_,_,⟨i.blk.at rfl,i.blk.at rfl⟩,(mAt (h.pu i.pu) s p).mono ?_⟩;rintro e w2 ⟨_,rfl,rfl,hp⟩;have j:=i.pu.trans hp;refine⟨_,rfl,?_⟩;cases k:m.has s p with
 | false=>
  refine ao (λ_=>.inr ⟨rfl,?_,?_,j⟩) (λhb=>by simp at hb)
  ·simp[Mem.err,k]
  ·simp[Mem.err,k]
 | true=>
  refine ao (λhb=>by simp at hb) (λ_=>?_);refine⟨λb w'=>w2=w'/\b= !(Mem.eA o),ao (λhb=>⟨rfl,?_⟩) (λhb=>⟨rfl,?_⟩),?_⟩
  ·simp at hb;simp[Mem.eA];omega
  ·simp at hb;simp only[Mem.eA,ge_iff_le];rw[Bool.eq_iff_iff];simp;omega
  ·rintro _ x _ ⟨rfl,rfl⟩;refine ao (λhb=>?_) (λhb=>?_)
   ·have d:Mem.eA o=false:=by simpa using hb
    exact .inr ⟨by simp[d],by simp[Mem.err,k,d],by simp[Mem.err,k,d],j⟩
   ·have d:Mem.eA o=true:=by simpa using hb
    have l:=h.pu j;obtain⟨T,hd⟩:=l.hd;refine OE hd rfl (au _ rfl (bB hd (by simp) λu hs=>?_));have r:=Mem.kQ d;refine au _ rfl ⟨r,.inl ⟨by simp[d],?_,l.IV hs,?_⟩⟩
    ·rw[aY,Nat.zero_add,Nat.mul_one]
    ·exact(j.mono (by simp)).stored hs (.inl (.inl rfl))
theorem Dc(h:cJ w L m)(s:Bool)(p o v:Int)(k:0<=v/\v<4294967296):
 Calls prog 36 #[ptr L.g,fr s p,.int .i64 o,.int .u32 v] w λe w'=>∃u,e=.returned u/\u=.int .i64 (m.err s p o)/\cJ w' L (m.write s p o v)/\Ch L.X w w':=by
 refine zA _ s p o v ?_;intro A w1 l hw;have d:=made l hw;refine⟨_,_,⟨d.blk.at rfl,d.blk.at rfl⟩,(M4 (h.pu d.pu) s p o).mono ?_⟩;rintro e w2 ⟨_,rfl,⟨b,rfl,j,q⟩|⟨b,rfl,he,hp⟩⟩
 ·refine⟨_,_,rfl,ao (λ_=>?_) (λhb=>by simp at hb)⟩;have r:Ch L.X w w2:=((Ch.refl _ w).made d).trans q;simp only[Bool.and_eq_true]at b;have hi:=Mem.fy b.1;have B:=Mem.kQ b.2;obtain⟨T,cs,t,x,y⟩:=j.pgs s p.toNat (by simpa using hi);refine au _ rfl (eJ t (by simp;omega) λC hs=>⟨?_,?_,?_⟩)
  ·simp[Mem.err,b.1,b.2]
  ·have:=j.aH (f:=λi=>if i=o.toNat then v else m.pg s p.toNat i) (by simpa using hi) hs (by simp[setAt,x]) (λi z=>?_) (λi=>?_)
   ·simp only[Mem.write,b.1,b.2,Bool.and_self,if_true];exact this
   ·simp only[kK,Array.getElem?_setIfInBounds];by_cases e:o.toNat=i
    ·rw[if_pos e,if_pos (by omega),if_pos e.symm]
    ·rw[if_neg e,if_neg (λh=>e h.symm)];exact y i z
   ·split
    ·exact k
    ·exact h.u32 _ _ _
  ·exact r.stored hs (.inl (h.inX hi))
 ·refine⟨_,_,rfl,ao (λhb=>absurd (by simpa using hb) he) (λ_=>⟨rfl,?_,?_⟩)⟩
  ·have:=(h.pu d.pu).pu hp;simpa[Mem.write,b]using this
  ·exact(d.pu.trans hp).mono (by simp)
end
end
section
theorem mw:S1 prog 22 23 (O 0) 4:=S1.of (by kernel_rfl) (by kernel_rfl) rfl
theorem Ik:S1 prog 102 100 (.pointer none) 8:=S1.of (by kernel_rfl) (by kernel_rfl) rfl
def jr(w:World)(g:Nat)(f:Nat->Int):Prop:=∃T cs,Blk w g cs T/\cs.size=1024/\∀o,o<1024->cs[o]? =some (O (f o))
structure kC(w:World)(g n k:Nat)(pg:Nat->Nat)(f:Nat->Nat->Int)(b:Nat):Prop where
 row:∃T cs,Blk w g cs T/\cs.size=n/\∀i,i<k->cs[i]? =some (ptr (pg i))
 pgs:∀i,i<k->jr w (pg i) (f i)
 inj:∀i j,i<k->j<k->pg i=pg j->i=j
 dis:∀i,i<k->pg i≠g
 low:b<=g/\∀i,i<k->b<=pg i
theorem jr.lt {w:World}{g:Nat}{f:Nat->Int}(h:jr w g f):g<w.heap.size:=by obtain⟨T,cs,hb,_⟩:=h;exact hb.lt
theorem jr.pu {w w':World}{g:Nat}{f:Nat->Int}(h:jr w g f)(b:Pu w w'):jr w' g f:=by obtain⟨T,cs,hb,d⟩:=h;exact⟨T,cs,b.blk hb,d⟩
theorem jr.old {w w':World}{g b:Nat}{f:Nat->Int}{cs:Array Value}{T:TypeId}(h:jr w g f)(hs:cp w b cs T w')(d:g≠b):jr w' g f:=by obtain⟨T,cs,hb,i⟩:=h;exact⟨T,cs,hs.old hb d,i⟩
theorem kC.pu {w w':World}{g n k b:Nat}{pg:Nat->Nat}{f:Nat->Nat->Int}(h:kC w g n k pg f b)(d:Pu w w'):kC w' g n k pg f b:=by
 obtain⟨⟨T,cs,j,l⟩,o,p,q,r⟩:=h;exact⟨⟨T,cs,d.blk j,l⟩,λi hi=>(o i hi).pu d,p,q,r⟩
theorem kC.more {w w1 w2:World}{g n k b p:Nat}{pg:Nat->Nat}{f:Nat->Nat->Int}(h:kC w g n k pg f b)(o:Pu w w1)(hp:jr w1 p (f k))(z:w.heap.size<=p)(A:k<n)(hb:b<=w.heap.size):
 ∃T cs,Blk w1 g cs T/\k+1<=cs.size/\∀w2,cp w1 g (setAt cs k [ptr p]) T w2->kC w2 g n (k+1) (λi=>if i=k then p else pg i) f b:=by
 obtain⟨⟨T,cs,q,v,x⟩,r,y,t,u⟩:=h;have B:=q.lt;have hold:∀i,i<k->pg i≠p:=λi hi=>by have:=(r i hi).lt;omega
 refine⟨T,cs,o.blk q,by omega,λw2 hs=>⟨⟨T,_,hs.blk,by rw[jO];exact v,λi hi=>?_⟩,λi hi=>?_,λi j hi C=>?_,λi hi=>?_,u.1,λi hi=>?_⟩⟩
 ·rw[eW _ _ _ _ (by simp;omega)];by_cases e:i=k
  ·subst e;simp
  ·rw[if_neg (by simp;omega),if_neg e];exact x i (by omega)
 ·by_cases e:i=k
  ·subst e;rw[if_pos rfl];exact hp.old hs (by omega)
  ·rw[if_neg e];exact((r i (by omega)).pu o).old hs (t i (by omega))
 ·by_cases e:i=k<;>by_cases d:j=k
  ·intro _;omega
  ·rw[if_pos e,if_neg d];intro l;exact absurd l.symm (hold j (by omega))
  ·rw[if_neg e,if_pos d];intro l;exact absurd l (hold i (by omega))
  ·rw[if_neg e,if_neg d];exact y i j (by omega) (by omega)
 ·split
  ·omega
  ·exact t i (by omega)
 ·split
  ·omega
  ·exact u.2 i (by omega)
section
variable {w:World}{L:fO}{m:Mem}
theorem M6(n:Nat)(B:n<=64):
 Calls prog 50 #[.int .i64 n] w λe w'=>∃v,e=.returned v/\∃g pg,v=.slice (pvA g) n n/\kC w' g n n pg (λ_ _=>0) w.heap.size/\Pu w w':=by
 refine B6 _ ?_;refine j7 Ik (by omega) (by omega) (by omega) λg w1 b=>?_;rw[Int.toNat_natCast]at b ⊢;refine⟨λk x w'=>∃i:Nat,x=(i:Int)/\i<=n/\k=n - i/\(∃pg,kC w' g n i pg (λ_ _=>0) w.heap.size)/\Pu w w',⟨n,0,rfl,by omega,by omega,⟨λ_=>0,⟨_,_,b.blk,by simp,by simp⟩,by simp,by simp,by simp,by have:=b.num;omega,by simp⟩,b.pu⟩,?_⟩;rintro k _ x w2 ⟨i,rfl,hi,rfl,⟨pg,h⟩,j⟩;refine ao (λhb=>?_) (λhb=>?_)
 ·have l:i<n:=by simpa using hb
  intro p q hp r;have d:=made hp r;obtain⟨T,cs,t,u,y⟩:=h.more (w2:=q) d.pu ⟨_,_,d.blk,by simp,λo z=>by simp[z]⟩ (by rw[d.num];omega) l j.size;refine⟨⟨by omega,by omega⟩,au _ rfl ?_⟩;rw[Nat.mul_one,Int.toNat_natCast];refine bB t u λC hs=>⟨n - (i+1),by omega,i+1,?_,l,rfl,⟨_,y _ hs⟩,?_⟩
  ·rw[ay (by omega)];omega
  ·have A:w.heap.size<=g:=h.low.1;exact((j.made d).mono (by simp):Ch (λ_=>False) w q).stored hs (.inr A)
 ·have:i=n:=by simp at hb;omega
  subst this;exact⟨g,pg,rfl,h,j⟩
theorem QX(s i:Int)(hs:1<=s/\s<=64)(hi:1<=i/\i<=64):
 Calls prog 25 #[.int .i64 s,.int .i64 i] w λe w'=>∃v,e=.returned v/\∃L:fO,v=.tuple #[ptr L.g,.int .i64 0]/\cJ w' L (Mem.fresh s.toNat i.toNat)/\(∀k,L.X k->w.heap.size<=k)/\Pu w w':=by
 refine Eb s i ?_;refine⟨λb w'=>w=w'/\b=false,?_,?_⟩
 ·refine ao (λhb=>by simp at hb;omega) (λ_=>ao (λhb=>by simp at hb;omega) (λ_=>ao (λhb=>by simp at hb;omega) (λ_=>⟨rfl,by simp;omega⟩)))
 rintro _ x _ ⟨rfl,rfl⟩;refine ao (λhb=>by cases hb) (λ_=>?_);obtain⟨S,rfl⟩:=Int.eq_ofNat_of_zero_le (show 0<=s by omega);obtain⟨I,rfl⟩:=Int.eq_ofNat_of_zero_le (show 0<=i by omega);refine(M6 S (by omega)).mono ?_;rintro e w1 ⟨_,rfl,a,y,rfl,h,z⟩;refine⟨_,_,_,rfl,(M6 I (by omega)).mono ?_⟩;rintro e w2 ⟨_,rfl,b,A,rfl,d,q⟩;refine⟨_,_,_,rfl,?_⟩;intro g O G H;have o:=made G H;have B:=(h.pu q).pu o.pu;have C:=d.pu o.pu;have r:∀j,j<S->y j<w1.heap.size:=λj t=>(h.pgs j t).lt;have Q:a<w1.heap.size:=by obtain⟨T,cs,l,_⟩:=h.row;exact l.lt
 have J:∀j,j<I->A j<w2.heap.size:=λj t=>(d.pgs j t).lt;have R:b<w2.heap.size:=by obtain⟨T,cs,l,_⟩:=d.row;exact l.lt
 have V:=q.size;have W:=z.size;have aa:=o.num;refine⟨⟨g,a,b,λs=>match s with|true=>y|false=>A,λs=>match s with|true=>S|false=>I⟩,rfl,⟨λs=>by cases s<;>rfl,⟨(_,_),o.blk⟩,λs=>?_,λs i hi=>?_,λs i s' F hi p e=>?_,⟨by show a≠g;omega,by show b≠g;omega,λs i hi=>?_⟩,λ_ _ _=>by simp[Mem.fresh],by simp[Mem.fresh];omega⟩,?_,(z.trans q).made o⟩
 ·cases s
  ·obtain⟨T,cs,l,_,u⟩:=C.row;exact⟨T,cs,l,u⟩
  ·obtain⟨T,cs,l,_,u⟩:=B.row;exact⟨T,cs,l,u⟩
 ·cases s
  ·exact C.pgs i hi
  ·exact B.pgs i hi
 ·cases s<;>cases s'<;>simp only[Mem.cnt,Mem.fresh,Int.toNat_natCast]at hi p<;>simp only at e
  ·exact⟨rfl,d.inj _ _ hi p e⟩
  ·have:=d.low.2 i hi;have:=r F p;omega
  ·have:=d.low.2 F p;have:=r i hi;omega
  ·exact⟨rfl,h.inj _ _ hi p e⟩
 ·cases s<;>simp only[Mem.cnt,Mem.fresh,Int.toNat_natCast]at hi<;>simp only
  ·have:=d.low.2 i hi;have:=J i hi;have:=d.dis i hi;refine⟨?_,?_,this⟩<;>omega
  ·have:=h.low.2 i hi;have:=r i hi;have M:=h.dis i hi;have:=d.low.1;refine⟨?_,M,?_⟩<;>omega
 ·rintro k (rfl|rfl|rfl|⟨s,i,hi,rfl⟩)
  ·omega
  ·exact h.low.1
  ·have:=d.low.1;omega
  ·cases s<;>simp only[Mem.cnt,Mem.fresh,Int.toNat_natCast]at hi<;>simp only
   ·have:=d.low.2 i hi;omega
   ·exact h.low.2 i hi
theorem I3(h:cJ w L m)(s:Bool)(p t:Int):
 Calls prog 90 #[ptr L.g,fr s p,.int .i64 t] w λe w'=>∃v,e=.returned v/\
  (m.has s p=true/\v=.tuple #[ptr (L.pg s p.toNat),.int .i64 0]/\cJ w' L (m.tick (i64.wrap (t*1024)))/\Ch L.X w w'\/
   m.has s p=false/\v=.tuple #[.pointer none,.int .i64 5]/\Pu w w'):=by
 refine zB _ s p t ?_;intro k w1 j hw;have b:=made j hw;refine⟨_,_,⟨b.blk.at rfl,b.blk.at rfl⟩,(mAt (h.pu b.pu) s p).mono ?_⟩;rintro e w2 ⟨_,rfl,rfl,hp⟩;have d:=b.pu.trans hp;refine⟨_,rfl,?_⟩;cases l:m.has s p with
 |false=>exact ao (λ_=>.inr ⟨rfl,rfl,d⟩) (λhb=>by simp at hb)
 | true=>
  refine ao (λhb=>by simp at hb) (λ_=>?_);have i:=h.pu d;obtain⟨T,hd⟩:=i.hd;refine OE hd rfl (au _ rfl (bB hd (by simp) λo hs=>.inl ⟨rfl,rfl,i.IV hs,?_⟩));exact(d.mono (by simp)).stored hs (.inl (.inl rfl))
theorem I0(h:cJ w L m)(s:Bool)(p:Int):
 Calls prog 52 #[ptr L.g,fr s p] w λe w'=>∃v,e=.returned v/\v=.int .i64 (m.gu s p)/\cJ w' L (m.zero s p)/\Ch L.X w w':=by
 refine BY _ s p ?_;intro t w1 k hw;have b:=made k hw;refine⟨_,_,⟨b.blk.at rfl,b.blk.at rfl⟩,(I3 (h.pu b.pu) s p 1).mono ?_⟩;rintro e w2 ⟨_,rfl,⟨d,rfl,i,l⟩|⟨d,rfl,hp⟩⟩
 ·refine⟨_,_,rfl,ao (λ_=>au _ rfl ?_) (λhb=>by simp at hb)⟩;rintro A rfl N rfl C rfl;have hi:=Mem.fy d;obtain⟨T,cs,q,r,u⟩:=i.pgs s p.toNat (by simpa using hi);refine JU (o:=0) mw rfl q (by omega) (by omega) λx hs=>⟨?_,?_,?_⟩
  ·simp[Mem.gu,d]
  ·have:=i.aH (f:=λ_=>0) (by simpa using hi) hs (by rw[jO];exact r) (λo y=>?_) (λo=>by simp)
   ·simp only[Mem.zero,d,if_true];exact this
   ·have j:(List.replicate (1024 - 0) (O 0)).length=1024:=List.length_replicate ..;rw[eW _ _ _ _ (by rw[j];omega),if_pos (by rw[j];omega),List.getElem?_replicate,if_pos (by omega)]
  ·exact(((Ch.refl _ w).made b).trans l).stored hs (.inl (h.inX hi))
 ·refine⟨_,_,rfl,ao (λhb=>by simp at hb) (λ_=>⟨?_,?_,?_⟩)⟩
  ·simp[Mem.gu,d]
  ·simpa[Mem.zero,d]using (h.pu b.pu).pu hp
  ·exact(b.pu.trans hp).mono (by simp)
end
end
structure Ent where
 typ:Int
 owner:Int
 refs:Int
 state:Int
 bq:Bool
deriving DecidableEq
namespace Ent
abbrev free:Ent:=⟨0,0,0,0,false⟩
def ok(e:Ent):Bool:=
 decide (0<=e.typ/\e.typ<=6/\0<=e.owner/\e.owner<=63/\0<=e.refs/\e.refs<=63/\(e.typ=0->e.owner=0)/\(e.typ≠1->e.refs=0/\e.state=0)/\(e.typ=1->1<=e.state/\e.state<=3)/\(e.typ≠2->e.bq=false))
def w0(e:Ent):Int:=e.typ+16*e.state+65536*e.owner+(if e.bq then 256 else 0)
def w1(e:Ent):Int:=e.refs
def parts(a b:Int):Ent:=⟨a % 8,a / 65536 % 64,b % 64,a / 16 % 4,decide (a / 256 % 2=1)⟩
def dec(a b:Int):Ent:=if(parts a b).ok && decide ((parts a b).w0=a) && decide ((parts a b).w1=b)then parts a b else free
def jo(a b:Int):Int:=if(parts a b).ok && decide ((parts a b).w0=a) && decide ((parts a b).w1=b)then 0 else 110
theorem hY {e:Ent}(h:e.ok=true):0<=e.typ/\e.typ<=6/\0<=e.owner/\e.owner<=63/\0<=e.refs/\e.refs<=63/\(e.typ=0->e.owner=0)/\(e.typ≠1->e.refs=0/\e.state=0)/\(e.typ=1->1<=e.state/\e.state<=3)/\(e.typ≠2->e.bq=false):=by
 simpa only[ok,decide_eq_true_eq]using h
theorem mO {e:Ent}(h:e.ok=true):0<=e.state/\e.state<=3:=by
 have:=hY h;by_cases b:e.typ=1<;>omega
theorem Gj {e:Ent}(h:e.ok=true):parts e.w0 e.w1=e:=by
 have b:=hY h;have d:=mO h;obtain⟨t,o,r,s,n⟩:=e;simp only at b d;cases n<;>simp only[parts,w0,w1,Ent.mk.injEq,decide_eq_true_eq,decide_eq_false_iff_not,if_true,Bool.false_eq_true,if_false]<;>omega
theorem Fy {e:Ent}(h:e.ok=true):dec e.w0 e.w1=e/\jo e.w0 e.w1=0:=by
 unfold dec jo;rw[Gj h];simp[h]
theorem HL {e:Ent}(h:e.ok=true):0<=e.w0/\e.w0<4294967296:=by
 have b:=hY h;have d:=mO h;unfold w0;split<;>omega
theorem HK {e:Ent}(h:e.ok=true):0<=e.w1/\e.w1<4294967296:=by
 have b:=hY h;unfold w1;omega
theorem LX:free.ok=true:=by decide
theorem jn {a b:Int}(h:jo a b=0):(dec a b).ok=true/\(dec a b).w0=a/\(dec a b).w1=b:=by
 unfold jo at h;unfold dec;split at h
 ·rename_i d;rw[if_pos d];simp only[Bool.and_eq_true,decide_eq_true_eq]at d;exact⟨d.1.1,d.1.2,d.2⟩
 ·omega
end Ent
structure DB where
 mem:Mem
 bn:Int
 ent:Nat->Ent
namespace DB
def S(d:DB):Nat:=d.mem.S
def has(d:DB)(p:Int):Bool:=decide (0<=p/\p<(d.S:Int))
def at_(d:DB)(p:Int):Ent:=d.ent p.toNat
def set(d:DB)(p:Int)(e:Ent):DB:= {d with ent:=λq=>if q=p.toNat then e else d.ent q}
def entry(d:DB)(p:Int):Ent:=if d.has p then d.at_ p else .free
def bo(d:DB)(p:Int):Int:=if d.has p then 0 else 5
def ka(d:DB)(p:Int):Bool:=d.has p && (d.at_ p).typ==1
def aT(d:DB)(m:Mem):DB:=⟨m,d.bn,d.ent⟩
def ml(d:DB)(b:Int):DB:=⟨d.mem,b,d.ent⟩
def bH(d:DB)(f:Mem->Mem):DB:=d.aT (f d.mem)
def free(d:DB):Int:=(((List.range d.S).filter λp=>(d.ent p).typ==0).length:Int)
def Lr(d:DB)(s:Int)(p:Nat):Bool:=(p:Int) !=s && (d.ent p).typ !=0 && (d.ent p).owner==s
def bp(d:DB)(s f:Int):Int:=
 if !d.has s || !d.has f then 5 else if s=f then 1 else if(d.at_ s).typ !=0 || (d.at_ f).typ !=0 then 120 else if d.bn>=64 then 240 else 0
def bu(d:DB)(s f:Int):DB:=
 let d1:=(d.set s ⟨1,s,1,1,false⟩).set f ⟨3,s,0,0,false⟩
 (d1.aT (((d.mem.write true s 0 f).write true s 1 d.bn).write true s 2 0)).ml (d.bn+1)
def bw(d:DB)(s f:Int):DB:=if d.bp s f=0 then d.bu s f else d
def turns(t:Int):Bool:=t==4 || t==5 || t==6
def cX(d:DB)(p t s:Int):Int:=
 if !d.has p then 5 else if t !=2 && !turns t then 124 else if !d.ka s || decide ((d.at_ s).refs>=63)then 122 else if(d.at_ p).typ !=0 then 120 else 0
def more(d:DB)(s k:Int):DB:=d.set s {d.at_ s with refs:=(d.at_ s).refs+k}
def iA(d:DB)(p t s:Int):DB:=(d.set p ⟨t,s,0,0,false⟩).more s 1
def take(d:DB)(p t s:Int):DB:=if d.cX p t s=0 then d.iA p t s else d
def iL(d:DB)(p t:Int):Int:=if !d.has p then 5 else if !turns (d.at_ p).typ || !turns t then 124 else 0
def oE(d:DB)(p t:Int):DB:=(d.set p {d.at_ p with typ:=t}).bH (·.zero true p)
def iz(d:DB)(p t:Int):DB:=if d.iL p t=0 then d.oE p t else d
def cz(d:DB)(p s:Int):Int:=
 if !d.has p then 5 else if(d.at_ p).typ≠1 then 124 else if s !=3 && ((d.at_ p).state !=1 || s !=2)then 3 else 0
def setState(d:DB)(p s:Int):DB:=if d.cz p s=0 then d.set p {d.at_ p with state:=s}else d
def bS(d:DB)(p:Int):Int:=if !d.has p then 5 else if(d.at_ p).typ≠2 then 124 else 0
def aQ(d:DB)(p:Int)(on:Bool):DB:=if d.bS p=0 then d.set p {d.at_ p with bq:=on}else d
def words(d:DB):List Int:=d.bn::(List.range d.S).flatMap λp=>[(d.ent p).w0,(d.ent p).w1]
structure Ok(d:DB):Prop where
 ent:∀p,p<d.S->(d.ent p).ok=true/\(d.ent p).owner<d.S
 bn:0<=d.bn/\d.bn<=64
@[simp] theorem Rh(d:DB)(p:Int)(e:Ent):(d.set p e).S=d.S:=rfl
@[simp] theorem nL(d:DB)(p q:Int)(e:Ent):(d.set p e).has q=d.has q:=rfl
@[simp] theorem mem_set(d:DB)(p:Int)(e:Ent):(d.set p e).mem=d.mem:=rfl
@[simp] theorem O1(d:DB)(p:Int)(e:Ent):(d.set p e).bn=d.bn:=rfl
@[simp] theorem gP(d:DB)(m:Mem):(d.aT m).mem=m:=rfl
@[simp] theorem JZ(d:DB)(m:Mem):(d.aT m).bn=d.bn:=rfl
@[simp] theorem pf(d:DB)(m:Mem)(p:Int):(d.aT m).at_ p=d.at_ p:=rfl
@[simp] theorem Pq(d:DB)(m:Mem):(d.aT m).S=m.S:=rfl
@[simp] theorem Po(d:DB)(b:Int):(d.ml b).mem=d.mem:=rfl
@[simp] theorem Mk(d:DB)(b:Int):(d.ml b).bn=b:=rfl
@[simp] theorem Qv(d:DB)(b p:Int):(d.ml b).at_ p=d.at_ p:=rfl
@[simp] theorem QK(d:DB)(b:Int):(d.ml b).S=d.S:=rfl
@[simp] theorem HB(d:DB)(m b:Mem):(d.aT m).aT b=d.aT b:=rfl
theorem AR(d:DB)(m:Mem)(p:Int):(d.aT m).has p=m.has true p:=rfl
theorem GD(m:Mem)(s s':Bool)(p o v q:Int):(m.write s p o v).has s' q=m.has s' q:=by
 unfold Mem.has Mem.write;split<;>cases s'<;>rfl
theorem nJ(d:DB)(p:Int):d.mem.has true p=d.has p:=rfl
theorem dC {d:DB}{p:Int}(h:d.has p=true):0<=p/\p<(d.S:Int):=by simpa[has]using h
theorem fy {d:DB}{p:Int}(h:d.has p=true):p.toNat<d.S:=by have:=dC h;omega
theorem na {d:DB}{p q:Int}{e:Ent}(hp:0<=p)(hq:0<=q):(d.set p e).at_ q=if q=p then e else d.at_ q:=by
 unfold at_ set;by_cases h:q=p
 ·simp[h]
 ·simp only[h,if_false];rw[if_neg (by omega)]
theorem Qw {d:DB}{p q:Int}{e:Ent}(hp:d.has p=true)(hq:d.has q=true)(b:¬(d.at_ p).typ=(d.at_ q).typ):(d.set p e).at_ q=d.at_ q:=by
 have h:=dC hp;have i:=dC hq;rw[na h.1 i.1,if_neg (by rintro rfl;exact b rfl)]
theorem j9 {d:DB}{p:Int}(h:d.ka p=true):d.has p=true/\(d.at_ p).typ=1:=by simpa[ka]using h
theorem Ob {t s:Int}(b:t=2\/turns t=true)(hs:0<=s/\s<=63):(Ent.mk t s 0 0 false).ok=true:=by
 have:t=2\/t=4\/t=5\/t=6:=by simpa[turns,or_assoc]using b
 simp only[Ent.ok,decide_eq_true_eq];simp;omega
theorem Oa {e:Ent}{t:Int}(h:e.ok=true)(he:turns e.typ=true)(b:turns t=true):(Ent.mk t e.owner e.refs e.state e.bq).ok=true:=by
 have d:=Ent.hY h;have i:e.typ=4\/e.typ=5\/e.typ=6:=by simpa[turns,or_assoc]using he
 have j:t=4\/t=5\/t=6:=by simpa[turns,or_assoc]using b
 simp only[Ent.ok,decide_eq_true_eq];refine⟨by omega,by omega,by omega,by omega,by omega,by omega,by omega,by omega,by omega,λ_=>d.2.2.2.2.2.2.2.2.2 (by omega)⟩
theorem Lv {e:Ent}{k:Int}(h:e.ok=true)(he:e.typ=1)(d:0<=e.refs+k/\e.refs+k<=63):(Ent.mk e.typ e.owner (e.refs+k) e.state e.bq).ok=true:=by
 have b:=Ent.hY h;simp only[Ent.ok,decide_eq_true_eq];refine⟨by omega,by omega,by omega,by omega,by omega,by omega,by omega,by omega,by omega,λ_=>b.2.2.2.2.2.2.2.2.2 (by omega)⟩
theorem PV {e:Ent}{s:Int}(h:e.ok=true)(he:e.typ=1)(hs:1<=s/\s<=3):(Ent.mk e.typ e.owner e.refs s e.bq).ok=true:=by
 have b:=Ent.hY h;simp only[Ent.ok,decide_eq_true_eq];refine⟨by omega,by omega,by omega,by omega,by omega,by omega,by omega,by omega,by omega,λ_=>b.2.2.2.2.2.2.2.2.2 (by omega)⟩
theorem CZ {e:Ent}{b:Bool}(h:e.ok=true)(he:e.typ=2):(Ent.mk e.typ e.owner e.refs e.state b).ok=true:=by
 have d:=Ent.hY h;simp only[Ent.ok,decide_eq_true_eq];refine⟨by omega,by omega,by omega,by omega,by omega,by omega,by omega,by omega,by omega,λh=>absurd he h⟩
theorem Ok.at_ {d:DB}(h:d.Ok){p:Int}(hp:d.has p=true):(d.at_ p).ok=true/\(d.at_ p).owner<d.S/\0<=(d.at_ p).owner:=
 ⟨(h.ent _ (fy hp)).1,(h.ent _ (fy hp)).2,(Ent.hY (h.ent _ (fy hp)).1).2.2.1⟩
end DB
section
structure iI where
 g:Nat
 a:Nat
 M:fO
def iI.X(L:iI):Nat->Prop:=λk=>k=L.g\/k=L.a\/L.M.X k
abbrev DB.n2(D:DB):Nat:=2*D.mem.S
structure DBP(w:World)(L:iI)(D:DB):Prop where
 hd:∃T,Blk w L.g #[.pointer (some (Addr.mk L.M.g 0 none)),.int .i64 D.bn,.slice (some (Addr.mk L.a 0 none)) D.n2 D.n2] T
 ws:∃T cs,Blk w L.a cs T/\cs.size=D.n2/\∀p,p<D.S->cs[2*p]? =some (O (D.ent p).w0)/\cs[2*p+1]? =some (O (D.ent p).w1)
 mem:cJ w L.M D.mem
 ok:D.Ok
 dis:L.a≠L.g/\¬L.M.X L.g/\¬L.M.X L.a
section
variable {w w' w2:World}{L:iI}{D:DB}{Y:Nat->Prop}
theorem DBP.lt(h:DBP w L D):∀k,L.X k->k<w.heap.size:=by
 rintro k (rfl|rfl|b)
 ·obtain⟨T,hd⟩:=h.hd;exact hd.lt
 ·obtain⟨T,cs,d,_⟩:=h.ws;exact d.lt
 ·exact h.mem.lt k b
theorem DBP.ch(h:DBP w L D)(b:Ch Y w w')(hb:∀k,L.X k->¬Y k):DBP w' L D:=by
 refine⟨?_,?_,h.mem.ch b λk d=>hb k (.inr (.inr d)),h.ok,h.dis⟩
 ·obtain⟨T,hd⟩:=h.hd;exact⟨T,b.blk hd (hb _ (.inl rfl))⟩
 ·obtain⟨T,cs,i,j⟩:=h.ws;exact⟨T,cs,b.blk i (hb _ (.inr (.inl rfl))),j⟩
theorem DBP.pu(h:DBP w L D)(b:Pu w w'):DBP w' L D:=h.ch b (by simp)
theorem DBP.S64(h:DBP w L D):D.S<=64:=h.mem.ir.1
theorem DBP.bH(h:DBP w L D){m:Mem}(hm:cJ w' L.M m)(b:Ch L.M.X w w')(hs:m.S=D.mem.S):DBP w' L (D.aT m):=by
 refine⟨?_,?_,hm,⟨λp hp=>?_,h.ok.bn⟩,h.dis⟩
 ·obtain⟨T,hd⟩:=h.hd;refine⟨T,?_⟩;show Blk w' L.g #[_,_,.slice _ (2*m.S) (2*m.S)] T;rw[hs];exact b.blk hd h.dis.2.1
 ·obtain⟨T,cs,i,j⟩:=h.ws;refine⟨T,cs,b.blk i h.dis.2.2,?_⟩;show cs.size=2*m.S/\∀p,p<m.S->_;rw[hs];exact j
 ·have d:p<m.S:=hp;rw[hs]at d;have:=h.ok.ent p d;refine⟨this.1,?_⟩;show _<(m.S:Int);rw[hs];exact this.2
theorem DBP.NL(h:DBP w L D){x:Int}{T:TypeId}(hs:cp w L.g #[.pointer (some (Addr.mk L.M.g 0 none)),.int .i64 x,.slice (some (Addr.mk L.a 0 none)) D.n2 D.n2] T w2)(b:0<=x/\x<=64):DBP w2 L (D.ml x):=by
 refine⟨⟨T,hs.blk⟩,?_,h.mem.ch hs.ch λk d e=>h.dis.2.1 (e▸d),⟨h.ok.ent,b⟩,h.dis⟩;obtain⟨T,cs,i,j⟩:=h.ws;exact⟨T,cs,hs.old i h.dis.1,j⟩
theorem DBP.QM(h:DBP w L D){p:Int}{e:Ent}(hp:D.has p=true)(he:e.ok=true)(j:e.owner<D.S){cs:Array Value}{T:TypeId}(hb:Blk w L.a cs T)(hs:cp w L.a (setAt cs (2*p.toNat) [.int .u32 e.w0,.int .u32 e.w1]) T w2):DBP w2 L (D.set p e):=by
 obtain⟨u,v,l,b,o⟩:=h.ws;obtain⟨rfl,rfl⟩:=hb.inj l;have x:=DB.fy hp;refine⟨?_,⟨T,_,hs.blk,by rw[jO];exact b,λq hq=>?_⟩,h.mem.ch hs.ch λk r e=>h.dis.2.2 (e▸r),⟨λq hq=>?_,h.ok.bn⟩,h.dis⟩
 ·obtain⟨T,hd⟩:=h.hd;exact⟨T,hs.old hd h.dis.1.symm⟩
 ·have d:2*p.toNat+ [Value.int .u32 e.w0,Value.int .u32 e.w1].length<=cs.size:=by
   have t:D.n2=2*D.S:=rfl;rw[b,t];simp only[List.length_cons,List.length_nil];omega
  rw[eW _ _ _ _ d,eW _ _ _ _ d];simp only[DB.set,List.length_cons,List.length_nil];by_cases i:q=p.toNat
  ·subst i;simp
  ·rw[if_neg (by omega),if_neg (by omega:¬(2*p.toNat<=2*q+1/\2*q+1<2*p.toNat+(0+1+1)))];simp only[i,if_false];exact o q hq
 ·simp only[DB.set];split
  ·exact⟨he,j⟩
  ·exact h.ok.ent q hq
theorem Mem.dD(m:Mem)(s:Bool)(p o v:Int):(m.write s p o v).S=m.S:=by unfold Mem.write;split<;>rfl
theorem Mem.Kx(m:Mem)(s:Bool)(p:Int):(m.zero s p).S=m.S:=by unfold Mem.zero;split<;>rfl
theorem iI.inM(L:iI)(k:Nat)(h:L.M.X k):L.X k:=.inr (.inr h)
theorem za(h:DBP w L D)(s:Bool)(p o v:Int)(d:0<=v/\v<4294967296):
 Calls prog 36 #[ptr L.M.g,fr s p,.int .i64 o,.int .u32 v] w λe w'=>∃u,e=.returned u/\u=.int .i64 (D.mem.err s p o)/\DBP w' L (D.aT (D.mem.write s p o v))/\Ch L.M.X w w':=
 (Dc h.mem s p o v d).mono λe w' ⟨u,he,hu,hm,b⟩=>⟨u,he,hu,h.bH hm b (Mem.dD ..),b⟩
theorem OO(h:DBP w L D)(s:Bool)(p:Int):
 Calls prog 52 #[ptr L.M.g,fr s p] w λe w'=>∃u,e=.returned u/\u=.int .i64 (D.mem.gu s p)/\DBP w' L (D.aT (D.mem.zero s p))/\Ch L.M.X w w':=
 (I0 h.mem s p).mono λe w' ⟨u,he,hu,hm,b⟩=>⟨u,he,hu,h.bH hm b (Mem.Kx ..),b⟩
theorem gH(x:Int):0<=u32.wrap x/\u32.wrap x<4294967296:=by rw[u32_eq];omega
end
end
open Enc (enc)
instance:Enc Ent:=⟨λe=>[.int .i64 e.typ,.int .i64 e.owner,.int .i64 e.refs,.int .i64 e.state,.bool e.bq],5,λ_=>rfl,by simp[Value.oneCell'],by omega⟩
section
structure Fl where
 rs:List U32
 pc:Int
 z:Bool
 n:Bool
 l:Bool
namespace Fl
def Ok(s:Fl):Prop:=s.rs.length=15
def gZ(s:Fl)(i:Nat)(x:U32):Fl:= {s with rs:=List.set s.rs i x}
def zero:Fl:=⟨[U32.mk 0,U32.mk 0,U32.mk 0,U32.mk 0,U32.mk 0,U32.mk 0,U32.mk 0,U32.mk 0,U32.mk 0,U32.mk 0,U32.mk 0,U32.mk 0,U32.mk 0,U32.mk 0,U32.mk 0],0,false,false,false⟩
def norm(s:Fl):Fl:= {s with rs:=aK (λj=>U32.mk (s.rs.getD j (U32.mk 0)).v) (upN 0 15)}
theorem norm_eq {s:Fl}(h:s.Ok):s.norm=s:=by
 obtain⟨rs,pc,z,n,l⟩:=s
 match rs,h with
 | [_,_,_,_,_,_,_,_,_,_,_,_,_,_,_],_=>rfl
theorem Lx(s:Fl):s.norm.Ok:=rfl
def words(s:Fl):List Value:=aK (λj=>.int .u32 (s.rs.getD j (U32.mk 0)).v) (upN 0 15)
def cells(s:Fl):List Value:=s.words++ [.int .u32 s.pc,.bool s.z,.bool s.n,.bool s.l]
theorem words_eq {s:Fl}(h:s.Ok):s.words=s.rs.map λx=>.int .u32 x.v:=by
 obtain⟨rs,pc,z,n,l⟩:=s
 match rs,h with
 | [_,_,_,_,_,_,_,_,_,_,_,_,_,_,_],_=>rfl
theorem fR(s:Fl):s.words.length=15:=rfl
theorem rA {s:Fl}(h:s.Ok){i:Nat}{x:U32}(b:s.rs[i]? =some x):s.cells[i]? =some (.int .u32 x.v):=by
 have hi:i<15:=by have:=(List.getElem?_eq_some_iff.1 b).1;rw[h]at this;exact this
 rw[cells,List.getElem?_append_left (by rw[fR];exact hi),words_eq h,List.getElem?_map,b];rfl
theorem rz {s:Fl}(h:s.Ok){i:Nat}(hi:i<15)(x:U32):(s.gZ i x).cells=s.cells.set i (.int .u32 x.v):=by
 have b:(s.gZ i x).Ok:=by show(List.set s.rs i x).length=15;rw[List.length_set];exact h
 rw[cells,words_eq b,cells,words_eq h,List.set_append_left _ _ (by rw[List.length_map,h];exact hi)];show(List.set s.rs i x).map _++_=_;rw[List.map_set];rfl
end Fl
theorem flE {s t:Fl}(h:s=t):Value.agg ⟨Fl.cells s⟩=Value.agg ⟨Fl.cells t⟩:=h▸rfl
theorem uN {α β:Type}{f:α->β}{u:β}:∀ {l:List α},u∈aK f l->∃a,u=f a
 | a::l,h=>by
  rcases List.mem_cons.1 h with e|h
  ·exact⟨a,e⟩
  ·exact uN (l:=l) h
instance:Enc Fl:=⟨Fl.cells,19,λ_=>rfl,λx u h=>by
 rcases List.mem_append.1 h with h|h
 ·obtain⟨a,rfl⟩:=uN h
  rfl
 ·simp only[List.mem_cons,List.not_mem_nil,or_false]at h
  rcases h with rfl|rfl|rfl|rfl<;>rfl,by omega⟩
structure FlP(w:World)(g:Nat)(s:Fl):Prop where
 len:s.Ok
 blk:∃T,Blk w g ⟨s.cells⟩ T
section
variable {w:World}{g:Nat}{s:Fl}{K:World->Prop}
theorem FlP.st(h:FlP w g s){i:Nat}{v:Value}{s':Fl}(hi:i<19)(b:s'.Ok)(d:s'.cells=s.cells.set i v)(j:∀w',FlP w' g s'->Ch (λk=>k=g) w w'->K w'):aB w ⟨g,i,none⟩ [v] K:=by
 obtain⟨T,hb⟩:=h.blk;exact eJ hb (by show i+1<=s.cells.length;show i+1<=19;omega) λw2 st=>j w2 ⟨b,T,by rw[d];exact st.blk.cast (by rw[kK];simp)⟩ st.ch
theorem FlP.li(h:FlP w g s){X:Nat->Prop}(b:∀k,k=g↔X k):Rd w X (some (Addr.mk g 0 none)) s.rs.length s.rs.length s.rs:=by
 obtain⟨T,hb⟩:=h.blk;refine⟨rfl,Nat.le_refl _,λk l=>by rw[(b k).2 l];exact hb.lt,λi x hi=>⟨_,rfl,(b _).1 rfl,λj d=>?_⟩⟩;have d:j=0:=by have:Enc.size U32=1:=rfl;omega
 subst d;rw[aY,Nat.zero_add,show Enc.size U32=1 from rfl,Nat.mul_one];show w.cell? ⟨g,i,none⟩=some (.int .u32 x.v);exact hb.cell (by simpa using Fl.rA h.len hi)
theorem FlP.stR(h:FlP w g s){X:Nat->Prop}(d:∀k,k=g↔X k){i:Nat}{x y:U32}(r:s.rs[i]? =some x){o:Nat}{vs:List Value}(u:o+vs.length<=1)(b:enc y=(enc x).take o++vs++(enc x).drop (o+vs.length))(p:∀w',(∀k,k=g↔X k)/\FlP w' g (s.gZ i y)->Ch X w w'->K w'):
 aB w (((Addr.mk g 0 none).add (i*1)).add o) vs K:=by
 have hi:i<15:=by have:=(List.getElem?_eq_some_iff.1 r).1;rw[h.len]at this;exact this
 have hlen:(s.gZ i y).Ok:=by show(List.set s.rs i y).length=15;rw[List.length_set];exact h.len
 obtain⟨T,hb⟩:=h.blk;rw[aY,Nat.zero_add,Nat.mul_one];have ex:enc x= [.int .u32 x.v]:=rfl;have z:enc y= [.int .u32 y.v]:=rfl;rw[ex,z]at b;have t:∀j,j<=19->j<=(⟨s.cells⟩:Array Value).size:=λj A=>A;have same:x=y->s.gZ i y=s:=λe=>by
  subst e;have:s.rs.set i x=s.rs:=by
   apply List.ext_getElem?;intro j;rw[List.getElem?_set];split
   ·rename_i e;subst e;rw[if_pos (by rw[h.len];exact hi),r]
   ·rfl
  unfold Fl.gZ;rw[this]
 match vs,o,u with
 | [v],0,_=>
  simp at b;subst b;exact(FlP.st h (i:=i) (by omega) hlen (Fl.rz h.len hi y) λw' B q=>p w' ⟨d,B⟩ (q.mono λk l=>(d k).1 l))
 | [],0,_=>
  simp at b;refine⟨g,i,_,T,rfl,hb,by simpa using t i (by omega),λw2 st=>p w2 ⟨d,by rw[same (by cases x;cases y;simp at b;rw[b])];exact⟨h.len,T,st.blk⟩⟩ (st.ch.mono λk l=>(d k).1 l)⟩
 | [],1,_=>
  simp at b;refine⟨g,i+1,_,T,rfl,hb,by simpa using t (i+1) (by omega),λw2 st=>p w2 ⟨d,by rw[same (by cases x;cases y;simp at b;rw[b])];exact⟨h.len,T,st.blk⟩⟩ (st.ch.mono λk l=>(d k).1 l)⟩
theorem FlP.all(h:FlP w g s){s':Fl}(b:s'.Ok)(d:∀w',FlP w' g s'->Ch (λk=>k=g) w w'->K w'):aB w ⟨g,0,none⟩ s'.cells K:=by
 obtain⟨T,hb⟩:=h.blk;exact di hb rfl λw2 st=>d w2 ⟨b,T,st.blk.cast (by simp)⟩ st.ch
end
theorem Fl.L7 {s:Fl}(h:s.Ok)(he:bG ⟨s.cells⟩ ⟨Fl.zero.cells⟩=true):s=Fl.zero:=by
 obtain⟨rs,pc,z,n,l⟩:=s
 match rs,h with
 | [⟨a0⟩,⟨b⟩,⟨d⟩,⟨i⟩,⟨j⟩,⟨k⟩,⟨o⟩,⟨p⟩,⟨q⟩,⟨r⟩,⟨b0⟩,⟨b1⟩,⟨b2⟩,⟨b3⟩,⟨b4⟩],_=>
  simp[bG,eqL,kG,Fl.cells,Fl.words,aK,upN,Fl.zero]at he ⊢;simp[he]
def qn:List Value->Option Fl
 | [.int .u32 a0,.int .u32 b,.int .u32 d,.int .u32 h,.int .u32 i,.int .u32 j,.int .u32 k,.int .u32 o,.int .u32 p,.int .u32 q,.int .u32 b0,.int .u32 b1,.int .u32 b2,.int .u32 b3,.int .u32 b4,.int .u32 pc,.bool z,.bool n,.bool l]=>
  some ⟨[⟨a0⟩,⟨b⟩,⟨d⟩,⟨h⟩,⟨i⟩,⟨j⟩,⟨k⟩,⟨o⟩,⟨p⟩,⟨q⟩,⟨b0⟩,⟨b1⟩,⟨b2⟩,⟨b3⟩,⟨b4⟩],pc,z,n,l⟩
 |_=>none
theorem iB {cs:List Value}{s:Fl}(h:qn cs=some s):cs=s.cells/\s.Ok:=by
 unfold qn at h;split at h
 ·injection h with h
  subst h;exact⟨rfl,rfl⟩
 ·cases h
end
section
structure Pd where
 n:Nat
 bn:Int
 ent:Nat->Ent
namespace Pd
def on(E:Pd)(m:Mem):DB:=⟨m,E.bn,E.ent⟩
def GJ(E:Pd):List Ent:=(List.range E.n).map E.ent
end Pd
abbrev eG(E:Pd)(p:Int):Ent:=(Pd.GJ E).getD p.toNat Ent.free
namespace Pd
def set(E:Pd)(i:Nat)(e:Ent):Pd:= {E with ent:=λq=>if q=i then e else E.ent q}
def ml(E:Pd)(x:Int):Pd:= {E with bn:=x}
structure Ok(E:Pd):Prop where
 ent:∀p,p<E.n->(E.ent p).ok=true/\(E.ent p).owner<E.n
 bn:0<=E.bn/\E.bn<=64
 ir:E.n<=64
@[simp] theorem jb(E:Pd):E.GJ.length=E.n:=by simp[GJ]
theorem Jv {E:Pd}{i:Nat}(h:i<E.n):E.GJ[i]? =some (E.ent i):=by simp[GJ,h]
theorem gQ {E:Pd}{p:Int}{d:Ent}(h:0<=p/\p<((E.n:Nat):Int)):E.GJ.getD p.toNat d=E.ent p.toNat:=by
 rw[List.getD_eq_getElem?_getD,Jv (by omega)];rfl
end Pd
def DB.pd(D:DB):Pd:=⟨D.S,D.bn,D.ent⟩
theorem Pd.bT(E:Pd)(m:Mem)(h:E.n=m.S):(E.on m).pd=E:=by
 cases E;simp only[on]at *;simp[DB.pd,DB.S,<-h]
theorem Pd.ku(E:Pd)(m:Mem):(E.on m).mem=m:=rfl
theorem Pd.yP(E:Pd)(m:Mem)(h:E.n=m.S):(E.on m).S=E.n:=h.symm
theorem Pd.mM(E:Pd)(m:Mem)(p:Int)(h:E.n=m.S):(E.on m).has p=decide (0<=p/\p<((E.n:Nat):Int)):=by unfold DB.has;rw[yP E m h]
theorem Pd.sw(E:Pd)(m:Mem)(p:Int):(E.on m).at_ p=E.ent p.toNat:=rfl
theorem Pd.mL(E:Pd)(m:Mem)(p:Int)(e:Ent):(E.on m).set p e=(E.set p.toNat e).on m:=rfl
theorem Pd.pZ(E:Pd)(m:Mem)(f:Mem->Mem):(E.on m).bH f=E.on (f m):=rfl
theorem Pd.sj(E:Pd)(i:Nat)(e:Ent):(E.set i e).n=E.n:=rfl
theorem Pd.j5(E:Pd)(i j:Nat)(e:Ent):(E.set i e).ent j=if j=i then e else E.ent j:=rfl
structure PdP(w:World)(g a mg:Nat)(E:Pd):Prop where
 hd:∃T,Blk w g #[.pointer (pvA mg),.int .i64 E.bn,.slice (pvA a) (2*E.n) (2*E.n)] T
 ws:∃T cs,Blk w a cs T/\cs.size=2*E.n/\∀p,p<E.n->cs[2*p]? =some (O (E.ent p).w0)/\cs[2*p+1]? =some (O (E.ent p).w1)
 ok:E.Ok
 ne:a≠g
section
variable {w w':World}{g a mg e c:Nat}{E:Pd}{Y:Nat->Prop}
theorem PdP.ch(h:PdP w g a mg E)(q:Ch Y w w')(b:¬Y g)(d:¬Y a):PdP w' g a mg E:=by
 obtain⟨T,hd⟩:=h.hd;obtain⟨T2,cs,i,j⟩:=h.ws;exact⟨⟨T,q.blk hd b⟩,⟨T2,cs,q.blk i d,j⟩,h.ok,h.ne⟩
theorem PdP.lt(h:PdP w g a mg E):g<w.heap.size/\a<w.heap.size:=by
 obtain⟨T,hd⟩:=h.hd;obtain⟨T2,cs,b,d⟩:=h.ws;exact⟨hd.lt,b.lt⟩
theorem PdP.db {L:fO}{m:Mem}(h:PdP w g a L.g E)(hm:cJ w L m)(b:E.n=m.S)(d:¬L.X g/\¬L.X a):DBP w ⟨g,a,L⟩ (E.on m):=by
 have hS:(E.on m).S=E.n:=b.symm;refine⟨?_,?_,hm,⟨λp hp=>?_,h.ok.bn⟩,h.ne,d.1,d.2⟩
 ·show ∃T,Blk w g #[_,_,.slice _ (2*m.S) (2*m.S)] T;rw[<-b];exact h.hd
 ·show ∃T cs,Blk w a cs T/\cs.size=2*m.S/\∀p,p<m.S->_;rw[<-b];exact h.ws
 ·rw[hS]at hp ⊢;exact h.ok.ent p hp
theorem DBP.pd {L:iI}{D:DB}(h:DBP w L D):PdP w L.g L.a L.M.g D.pd:=⟨h.hd,h.ws,⟨h.ok.ent,h.ok.bn,h.mem.ir.1⟩,h.dis.1⟩
theorem PdP.NL(h:PdP w g a mg E){x:Int}(b:0<=x/\x<=64){K:World->Prop}(d:∀w',PdP w' g a mg (E.ml x)->Ch (λk=>k=g) w w'->K w'):aB w ⟨g,1,none⟩ [.int .i64 x] K:=by
 obtain⟨T,hd⟩:=h.hd;obtain⟨T2,cs,i,j⟩:=h.ws;exact eJ hd (by simp) λw2 s=>d w2 ⟨⟨T,s.blk⟩,⟨T2,cs,s.old i h.ne,j⟩,⟨h.ok.ent,b,h.ok.ir⟩,h.ne⟩ s.ch
end
def Dg.sv(d:Dg):List Value:=aK (λj=>.int .u32 (d.save.getD j 0)) (upN 0 26)
def Dg.svL(d:Dg):List U32:=aK (λj=>uM (d.save.getD j 0)) (upN 0 26)
def vK(w:World)(g:Nat)(s:List U32):Prop:=∃T,Blk w g (bW (s.map U32.v)) T
def vc:List Value->Option (List U32)
 | []=>some []
 | .int .u32 x::r=>(match vc r with
  |some l=>some (uM x::l)
  |none=>none)
 |_=>none
theorem jW:∀ {cs:List Value}{l:List U32},vc cs=some l->cs=(l.map U32.v).map (Value.int .u32)
 | [],l,h=>by simp only[vc,Option.some.injEq]at h;subst h;rfl
 | v::r,l,h=>by
  unfold vc at h;split at h
  ·rename_i e;cases e
  ·rename_i x r' e;injection e with e1 b
   subst e1;subst b;split at h
   ·rename_i l' d;injection h with h
    subst h;rw[jW d];rfl
   ·cases h
  ·cases h
theorem PS {w:World}{g a mg:Nat}{E:Pd}(h:PdP w g a mg E):w.cell? ⟨g,0,none⟩=some (.pointer (some ⟨mg,0,none⟩))/\w.cell? ⟨g,1,none⟩=some (J E.bn):=by
 obtain⟨T,hd⟩:=h.hd;exact⟨hd.cell rfl,hd.cell rfl⟩
theorem ES {w:World}{g:Nat}{s:List U32}{X:Nat->Prop}(b:∀k,k=g↔X k)(h:vK w g s):Rd w X (pvA g) s.length s.length s:=by
 obtain⟨T,hb⟩:=h;refine⟨rfl,Nat.le_refl _,λk l=>by rw[(b k).2 l];exact hb.lt,λi x hi=>⟨_,rfl,(b _).1 rfl,λj d=>?_⟩⟩;have d:j=0:=by have:Enc.size U32=1:=rfl;omega
 subst d;have o:i<s.length:=(List.getElem?_eq_some_iff.1 hi).1;rw[aY,Nat.zero_add,show Enc.size U32=1 from rfl,Nat.mul_one];show w.cell? ⟨g,i,none⟩=some (O x.v);refine hb.cell ?_;rw[jR (by simpa using o),List.getD_eq_getElem?_getD,List.getElem?_map,hi];rfl
theorem Lj {w:World}{g i:Nat}{s:List U32}{X:Nat->Prop}(p:∀k,k=g↔X k)(h:vK w g s){x y:U32}(d:s[i]? =some x){o:Nat}{vs:List Value}(r:o+vs.length<=1)(b:enc y=(enc x).take o++vs++(enc x).drop (o+vs.length)){K:World->Prop}(t:∀w',(∀k,k=g↔X k)/\vK w' g (s.set i y)->Ch X w w'->K w'):
 aB w (((vA g).add (i*1)).add o) vs K:=by
 obtain⟨T,hb⟩:=h;have q:i<s.length:=(List.getElem?_eq_some_iff.1 d).1;have l:∀w2,cp w g (bW ((s.set i y).map U32.v)) T w2->K w2:=λw2 st=>t w2 ⟨p,T,st.blk⟩ (st.ch.mono λk u=>(p k).1 u);rw[aY,Nat.zero_add,Nat.mul_one];have ex:enc x= [.int .u32 x.v]:=rfl;have z:enc y= [.int .u32 y.v]:=rfl;rw[ex,z]at b
 match vs,o,r with
 | [v],0,_=>
  simp at b;subst b;refine⟨g,i,_,T,rfl,hb,by simp;omega,λw2 st=>l w2 ?_⟩;rw[List.map_set,<-uv];exact st
 | [],0,_=>
  simp at b;refine⟨g,i,_,T,rfl,hb,by simp;omega,λw2 st=>l w2 ?_⟩;have:s.set i y=s:=by
   have:y=x:=by cases x;cases y;simp at b;rw[b]
   rw[this];exact List.ext_getElem? λj=>by rw[List.getElem?_set];split;(rename_i e;subst e;(try rw[if_pos q]);rw[d]);rfl
  rw[this];exact st
 | [],1,_=>
  simp at b;refine⟨g,i+1,_,T,rfl,hb,by simp;omega,λw2 st=>l w2 ?_⟩;have:s.set i y=s:=by
   have:y=x:=by cases x;cases y;simp at b;rw[b]
   rw[this];exact List.ext_getElem? λj=>by rw[List.getElem?_set];split;(rename_i e;subst e;(try rw[if_pos q]);rw[d]);rfl
  rw[this];exact st
theorem Lh {w:World}{g:Nat}{s l:List U32}{vs:List Value}{X:Nat->Prop}(b:∀k,k=g↔X k)(h:vK w g s)(d:vc vs=some l)(p:s.length=l.length){K:World->Prop}(i:∀w',(∀k,k=g↔X k)/\vK w' g l->Ch X w w'->K w'):aB w ⟨g,0,none⟩ vs K:=by
 obtain⟨T,hb⟩:=h;have e:=jW d;have j:vs=(bW (l.map U32.v)).toList:=by rw[e];simp[bW]
 rw[j];exact qS hb (by simp;omega) λw2 st=>i w2 ⟨b,T,st.blk⟩ (st.ch.mono λk o=>(b k).1 o)
def Mem.Wf(m:Mem):Prop:=(∀s i o,0<=m.pg s i o/\m.pg s i o<4294967296)/\m.S<=64/\m.I<=64
end
section
structure Hd where
 A:Option Addr
 n:Nat
 c:Nat
instance:Enc Hd:=⟨λx=>[.slice x.A x.n x.c],1,λ_=>rfl,by simp[Value.oneCell'],by omega⟩
structure Nst where
 A:Option Addr
 c:Nat
 hs:List Hd
 ls:List (List U32)
 own:Bool
namespace Nst
def hd(s:Nst)(k:Nat):Hd:=s.hs.getD k ⟨none,0,0⟩
def l(s:Nst)(k:Nat):List U32:=s.ls.getD k []
def set(s:Nst)(k i:Nat)(x:U32):Nst:= {s with ls:=s.ls.set k ((s.l k).set i x)}
structure Ok(s:Nst):Prop where
 len:s.ls.length=s.hs.length
 n:∀k,k<s.hs.length->(s.hd k).n=(s.l k).length
theorem Ok.n_eq {s:Nst}(h:s.Ok)(k:Nat):(s.hs.getD k ⟨none,0,0⟩).n=(s.l k).length:=by
 by_cases b:k<s.hs.length
 ·exact h.n k b
 ·unfold l;rw[List.getD_eq_getElem?_getD,List.getElem?_eq_none (by omega),List.getD_eq_getElem?_getD,List.getElem?_eq_none (by rw[h.len];omega)];rfl
theorem M8(s:Nst){k i j:Nat}{x:U32}(b:k<s.ls.length):(s.set k i x).l j=if j=k then(s.l k).set i x else s.l j:=by
 unfold l set;simp only;rw[List.getD_eq_getElem?_getD,List.getElem?_set];by_cases h:j=k
 ·subst h;rw[if_pos rfl,if_pos b,if_pos rfl];rfl
 ·rw[if_neg (λe=>h e.symm),if_neg h,List.getD_eq_getElem?_getD]
end Nst
structure Ea(w:World)(s:Nst)(X Z:Nat->Prop)(g:Nat->Nat)(f:Nat->List U32):Prop where
 out:Rd w Z s.A s.hs.length s.c s.hs
 z:∀k,Z k->X k
 inn:∀k,k<s.hs.length->¬Z (g k)/\X (g k)/\(s.hd k).A=some ⟨g k,0,none⟩/\(∃c,Own w (λi=>i=g k) 23 (some ⟨g k,0,none⟩) (f k).length c (f k))/\(s.hd k).n<=(f k).length/\s.l k=(f k).take (s.hd k).n
 ne:∀j k,j<s.hs.length->k<s.hs.length->j≠k->g j≠g k
structure nr(w:World)(s:Nst)(X:Nat->Prop):Prop where
 ok:s.Ok
 lt:∀k,X k->k<w.heap.size
 out:Rd w X s.A s.hs.length s.c s.hs
 inn:∀k,k<s.hs.length->Rd w X (s.hd k).A (s.hd k).n (s.hd k).c (s.l k)
 own:s.own=true->∃Z g f,Ea w s X Z g f
section
variable {w w':World}{s:Nst}{X Y Z:Nat->Prop}{g:Nat->Nat}{f:Nat->List U32}
theorem Ea.ch(h:Ea w s X Z g f)(q:Ch Y w w')(hb:∀k,X k->¬Y k):Ea w' s X Z g f:=
 ⟨h.out.ch q λk b=>hb k (h.z k b),h.z,λk b=>by
  obtain⟨j,d,l,⟨c,o⟩,p⟩:=h.inn k b;exact⟨j,d,l,⟨c,o.ch q λi hi=>hi▸hb _ d⟩,p⟩,h.ne⟩
theorem nr.ch(h:nr w s X)(q:Ch Y w w')(hb:∀k,X k->¬Y k):nr w' s X:=
 ⟨h.ok,λk b=>Nat.lt_of_lt_of_le (h.lt k b) q.size,h.out.ch q hb,λk b=>(h.inn k b).ch q hb,λe=>by
  obtain⟨Z,g,f,d⟩:=h.own e;exact⟨Z,g,f,d.ch q hb⟩⟩
theorem Rd.take {A:Option Addr}{n m c:Nat}{l:List U32}(h:Rd w X A n c l)(hm:m<=n):Rd w X A m c (l.take m):=
 ⟨by rw[List.length_take,h.len];omega,Nat.le_trans hm h.cap,h.lt,λi x b=>by
  rw[List.getElem?_take]at b;split at b
  ·exact h.cell i x b
  ·cases b⟩
theorem Ea.rd(h:Ea w s X Z g f)(d:∀k,X k->k<w.heap.size){k:Nat}(j:k<s.hs.length)(l:(s.hd k).n<=(s.hd k).c):Rd w X (s.hd k).A (s.hd k).n (s.hd k).c (s.l k):=by
 obtain⟨A,o,q,⟨c,r⟩,t,u⟩:=h.inn k j;have b:=Rd.take r.rd t;rw[<-q,<-u]at b;exact⟨b.len,l,d,λi x v=>by
  obtain⟨p,e1,y,z⟩:=b.cell i x v;exact⟨p,e1,by rw[y.1];exact o,z⟩⟩
def Nst.li(s:Nst)(i:Nat):List U32:=s.l i
theorem nr.ne(h:nr w s X){i:Nat}{x:Hd}(b:s.hs[i]? =some x):enc x= [.slice (s.hd i).A (s.l i).length (s.hd i).c]:=by
 have hi:=(List.getElem?_eq_some_iff.1 b).1;have e:s.hd i=x:=by unfold Nst.hd;rw[List.getD_eq_getElem?_getD,b];rfl
 rw[<-h.ok.n i hi,e];rfl
theorem nr.st(h:nr w s X)(I:s.own=true){k i:Nat}(r:k<s.hs.length){x y:U32}(t:(s.l k)[i]? =some x){off:Nat}{vs:List Value}(J:off+vs.length<=1)(M:enc y=(enc x).take off++vs++(enc x).drop (off+vs.length)){K:World->Prop}(O:∀w',nr w' (s.set k i y) X->Ch X w w'->K w'):
 aB w ((((s.hd k).A.getD ⟨0,0,none⟩).add (i*1)).add off) vs K:=by
 obtain⟨Z,g,f,l⟩:=h.own I;obtain⟨z,Q,R,⟨c,S⟩,h5,A⟩:=l.inn k r;have T:i<(s.hd k).n:=by
  have:=(List.getElem?_eq_some_iff.1 t).1;rw[<-h.ok.n k r]at this;exact this
 have V:(f k)[i]? =some x:=by rw[A,List.getElem?_take,if_pos T]at t;exact t
 have W:s.ls.length=s.hs.length:=h.ok.len;rw[R];refine S.st rfl (i:=i) (by omega) V (o:=off) (vs:=vs) (y:=y) J M λw2 XS q=>?_;have q2:Ch X w w2:=q.mono λj d=>d▸Q;have u:∀j,X j->j<w2.heap.size:=λj d=>Nat.lt_of_lt_of_le (h.lt j d) q.size;have B:Ea w2 (s.set k i y) X Z g (λj=>if j=k then(f k).set i y else f j):=by
  refine⟨l.out.ch q λj d e=>z (e▸d),l.z,λj d=>?_,l.ne⟩;obtain⟨C,F,G,⟨c',a4⟩,H,a6⟩:=l.inn j d;rw[s.M8 (by omega:k<s.ls.length)];by_cases e:j=k
  ·subst e;simp only[if_true];refine⟨C,F,G,⟨c,by rw[List.length_set];exact XS⟩,by rw[List.length_set];exact H,?_⟩;show(s.l j).set i y=_;rw[A,List.take_set];rfl
  ·simp only[if_neg e];exact⟨C,F,G,⟨c',a4.ch q λb hb v=>l.ne j k d r e (by rw[<-hb,<-v])⟩,H,a6⟩
 have SK:(s.set k i y).Ok:=⟨by show(s.ls.set k _).length=_;rw[List.length_set];exact W,λj d=>by
  rw[s.M8 (by omega:k<s.ls.length)];by_cases e:j=k
  ·subst e;rw[if_pos rfl,List.length_set];exact h.ok.n j d
  ·rw[if_neg e];exact h.ok.n j d⟩
 have aa:Rd w2 X s.A s.hs.length s.c s.hs:=by
  have:=l.out.ch q λj d e=>z (e▸d);exact⟨this.len,this.cap,u,λa b Z8=>by
   obtain⟨p,e1,v,e3⟩:=this.cell a b Z8;exact⟨p,e1,l.z _ v,e3⟩⟩
 exact O w2 ⟨SK,u,aa,λj d=>B.rd u d (h.inn j d).cap,λ_=>⟨Z,g,_,B⟩⟩ q2
end
end
namespace V
section
section
variable {U:Uni}{P:Program}{tbl:Tb U}{may:List Nat}{k0:Nat}
def Ext(θ b:Th):Prop:=∀j i,dx θ j=some i->dx b j=some i
theorem Ext.refl(θ:Th):Ext θ θ:=λ_ _ h=>h
theorem Ext.trans {a b c:Th}(h:Ext a b)(k:Ext b c):Ext a c:=λj i d=>k j i (h j i d)
theorem jM {j id:Nat}{θ:Th}{F:Th->Prop}(h:oF j id θ F):∃b,F b/\Ext θ b/\dx b j=some id:=by
 unfold oF at h;split at h
 ·rename_i k;refine⟨_,h,λl i d=>?_,?_⟩
  ·unfold dx;split
   ·rename_i he;rw[<-Nat.eq_of_beq_eq_true he,k]at d;cases d
   ·exact d
  ·simp[dx]
 ·rename_i i hi;split at h
  ·rename_i he;exact⟨θ,h,Ext.refl θ,by rw[hi,Nat.eq_of_beq_eq_true he]⟩
  ·exact h.elim
theorem nB {j i:Nat}:∀ {θ:Th},dx θ j=some i->(j,i)∈θ
 | [],h=>by cases h
 | (a,b)::r,h=>by
  unfold dx at h;split at h
  ·rename_i he;injection h with h
   rw[<-h,Nat.eq_of_beq_eq_true he];exact List.mem_cons_self ..
  ·exact List.mem_cons_of_mem _ (nB h)
theorem NF {θ:Th}(p:rh (aK (·.2) θ)=true){a b i:Nat}(q:dx θ a=some i)(hb:dx θ b=some i):a=b:=by
 have j:=nB q;have d:=nB hb;have o:=oT p;rw[iY]at o;have key:∀(l:Th),(l.map (·.2)).Nodup->(a,i)∈l->(b,i)∈l->a=b:=by
  intro l
  induction l with
  |nil=>intro _ h;cases h
  | cons x r t=>
   intro hd j d;rw[List.map_cons,List.nodup_cons]at hd;rcases List.mem_cons.1 j with e1|j
   ·rcases List.mem_cons.1 d with k|d
    ·rw[<-e1]at k;injection k with k;exact k.symm
    ·exact absurd (List.mem_map.2 ⟨(b,i),d,by rw[<-e1]⟩) hd.1
   ·rcases List.mem_cons.1 d with k|d
    ·exact absurd (List.mem_map.2 ⟨(a,i),j,by rw[<-k]⟩) hd.1
    ·exact t hd.2 j d
 exact key θ o j d
theorem PK.yF {f:Nat->Option Nat}{p q:PK}(h:p.ren f=some q):f p.id=some q.id:=by
 cases p<;>simp only[PK.ren,Option.map_eq_some_iff]at h<;>obtain⟨i,hi,rfl⟩:=h<;>exact hi
theorem PK.Iu {f g:Nat->Option Nat}(h:∀j i,f j=some i->g j=some i){p q:PK}(hp:p.ren f=some q):p.ren g=some q:=by
 cases p<;>simp only[PK.ren,Option.map_eq_some_iff]at hp ⊢ <;>obtain⟨i,hi,rfl⟩:=hp<;>exact⟨i,h _ _ hi,rfl⟩
def Rel(r r':Res U):Prop:=r=r'\/∃(t:Nat)(own:Bool)(T b:TypeId)(A:Option Addr)(c:Nat)(l:List (U.el t)),r=.lst t false T A c l/\r'=.lst t own b A c l
theorem Rel.den {r r':Res U}(h:Rel r r'){f:Nat->Option Nat}{p q:PK}(hp:p.ren f=some q):cl U p (some r)=cl U q (some r'):=by
 rcases h with rfl|⟨t,own,T,b,A,c,l,rfl,rfl⟩
 ·cases p<;>simp only[PK.ren,Option.map_eq_some_iff]at hp<;>obtain⟨i,hi,rfl⟩:=hp<;>cases r<;>rfl
 ·cases p<;>simp only[PK.ren,Option.map_eq_some_iff]at hp<;>obtain⟨i,hi,rfl⟩:=hp<;>rfl
def Emb(f:Nat->Option Nat)(L G:List (Res U)):Prop:=∀j r,nth L j=some r->∃i r',f j=some i/\nth G i=some r'/\Rel r r'
theorem Emb.dn {f:Nat->Option Nat}{L G:List (Res U)}(h:Emb f L G){p q:PK}(hp:p.ren f=some q){v:Value}(hd:den U L p=some v):den U G q=some v:=by
 unfold V.den at hd ⊢;cases d:nth L p.id with
 |none=>rw[d]at hd;cases p<;>simp[cl]at hd
 | some r=>
  rw[d]at hd;obtain⟨i,r',b,j,k⟩:=h _ _ d;rw[PK.yF hp]at b;injection b with b
  subst b;rw[j,<-k.den hp];exact hd
theorem ez {f:Nat->Option Nat}{l:List (Option PK)}{j:Nat}{q:PK}(h:nth (aK (uF f) l) j=some (some q)):∃p,nth l j=some (some p)/\p.ren f=some q:=by
 rw[bx]at h;cases b:nth l j with
 |none=>rw[b]at h;cases h
 | some o=>
  rw[b]at h;injection h with h
  cases o with
  |none=>cases h
  |some p=>exact⟨p,rfl,h⟩
theorem Emb.kn {f:Nat->Option Nat}{L G:List (Res U)}(h:Emb f L G){k z:Kn}(d:k.ren f=some z){v:Value}(o:jD L v k):jD G v z:=by
 cases k with
 |pan=>exact o.elim
 | p p=>
  simp only[Kn.ren,Option.map_eq_some_iff]at d;obtain⟨q,hq,rfl⟩:=d;exact h.dn hq o
 | w p n=>
  simp only[Kn.ren,Option.map_eq_some_iff]at d;obtain⟨q,hq,rfl⟩:=d;obtain⟨a,c,r,x⟩:=o;exact⟨a,c,h.dn hq r,x⟩
 | t l=>
  simp only[Kn.ren,Option.some.injEq]at d;subst d;obtain⟨vs,e,y⟩:=o;refine⟨vs,e,λj q i=>?_⟩;obtain⟨p,hp,hq⟩:=ez i;obtain⟨u,hu,hd⟩:=y j p hp;exact⟨u,hu,h.dn hq hd⟩
 | ag l=>
  simp only[Kn.ren,Option.some.injEq]at d;subst d;obtain⟨vs,e,y⟩:=o;refine⟨vs,e,λj q i=>?_⟩;obtain⟨p,hp,hq⟩:=ez i;obtain⟨u,hu,hd⟩:=y j p hp;exact⟨u,hu,h.dn hq hd⟩
 | f a b=>
  simp only[Kn.ren,Option.some.injEq]at d;subst d;obtain⟨fn,fs,cs,e,A,r,x⟩:=o;refine⟨fn,fs,cs,e,by simpa using A,λj q i=>?_,λj q i=>?_⟩
  ·obtain⟨p,hp,hq⟩:=ez i;obtain⟨u,hu,hd⟩:=r j p hp;exact⟨u,hu,h.dn hq hd⟩
  ·obtain⟨p,hp,hq⟩:=ez i;obtain⟨u,hu,hd⟩:=x j p hp;exact⟨u,hu,h.dn hq hd⟩
theorem Emb.knO {f:Nat->Option Nat}{L G:List (Res U)}(h:Emb f L G){k:Option Kn}{v:Value}(b:KnO L v k):KnO G v (Fg f k):=by
 cases k with
 |none=>exact trivial
 | some k=>
  show KnO G v (k.ren f);cases d:k.ren f with
  |none=>exact trivial
  |some i=>exact h.kn d b
theorem kX {f:Nat->Option Nat}{key:Key}{j:Kn}:∀ {l:List (Key×Kn)},(key,j)∈mf f l->∃i b o k,((key=.c b o/\(Key.c i o,k)∈l)\/(key=.l b o/\(Key.l i o,k)∈l))/\f i=some b/\k.ren f=some j
 | [],h=>by cases h
 | (.s _,_)::r,h=>by
  obtain⟨i,b,o,k,p,q⟩:=kX (l:=r) h;exact⟨i,b,o,k,p.imp (λh=>⟨h.1,List.mem_cons_of_mem _ h.2⟩) (λh=>⟨h.1,List.mem_cons_of_mem _ h.2⟩),q⟩
 | (.c i o,k)::r,h=>by
  have tail:(key,j)∈mf f r->∃i1 b d k1,((key=.c b d/\(Key.c i1 d,k1)∈(Key.c i o,k)::r)\/(key=.l b d/\(Key.l i1 d,k1)∈(Key.c i o,k)::r))/\f i1=some b/\k1.ren f=some j:=λh=>by
   obtain⟨i,b,o,k,p,q⟩:=kX (l:=r) h;exact⟨i,b,o,k,p.imp (λh=>⟨h.1,List.mem_cons_of_mem _ h.2⟩) (λh=>⟨h.1,List.mem_cons_of_mem _ h.2⟩),q⟩
  simp only[mf]at h;split at h
  ·rename_i b v hi t;rcases List.mem_cons.1 h with e|h
   ·injection e with e1 u
    subst e1;subst u;exact⟨i,b,o,k,.inl ⟨rfl,List.mem_cons_self ..⟩,hi,t⟩
   ·exact tail h
  ·exact tail h
 | (.l i o,k)::r,h=>by
  have tail:(key,j)∈mf f r->∃i1 b d k1,((key=.c b d/\(Key.c i1 d,k1)∈(Key.l i o,k)::r)\/(key=.l b d/\(Key.l i1 d,k1)∈(Key.l i o,k)::r))/\f i1=some b/\k1.ren f=some j:=λh=>by
   obtain⟨i,b,o,k,p,q⟩:=kX (l:=r) h;exact⟨i,b,o,k,p.imp (λh=>⟨h.1,List.mem_cons_of_mem _ h.2⟩) (λh=>⟨h.1,List.mem_cons_of_mem _ h.2⟩),q⟩
  simp only[mf]at h;split at h
  ·rename_i b v hi t;rcases List.mem_cons.1 h with e|h
   ·injection e with e1 u
    subst e1;subst u;exact⟨i,b,o,k,.inr ⟨rfl,List.mem_cons_self ..⟩,hi,t⟩
   ·exact tail h
  ·exact tail h
def AvD(θ:Th)(v:Value)(k:Option PK):AV->Prop
 |.v x=>x=v
 |.k p=>∃q,k=some q/\p.ren (dx θ)=some q
theorem AvD.mono {θ b:Th}(h:Ext θ b){v:Value}{k:Option PK}{a:AV}(d:AvD θ v k a):AvD b v k a:=by
 cases a with
 |v x=>exact d
 |k p=>obtain⟨q,i,j⟩:=d;exact⟨q,i,PK.Iu h j⟩
def Ew(θ:Th)(vs:List Value)(kc:Nat->Option PK)(i:Nat)(b:List AV):Prop:=b.length=vs.length/\∀j a v,nth b j=some a->nth vs j=some v->AvD θ v (kc (i+j)) a
theorem Ew.mono {θ b:Th}(h:Ext θ b){vs:List Value}{kc:Nat->Option PK}{i:Nat}{d:List AV}(k:Ew θ vs kc i d):Ew b vs kc i d:=⟨k.1,λj a v l o=>(k.2 j a v l o).mono h⟩
theorem FD {T:Type}{c:CP}{J:c.T T}{v:Value}{k:Option PK}{θ:Th}{F:T->Th->Prop}(h:apC c J v k θ F):∃q d a,F q d/\Ext θ d/\(∀G:T->AV->Prop,alC c J G->G q a)/\AvD d v k a:=by
 cases c with
 | int kk=>
  cases v<;>simp only[apC]at h<;>skip
  rename_i r x;split at h
  ·rename_i he;obtain rfl:=qh he;exact⟨_,θ,.v (.int kk x),h,Ext.refl θ,λG b=>b x,rfl⟩
  ·exact h.elim
 | bool=>
  cases v<;>simp only[apC]at h<;>skip
  exact⟨_,θ,_,h,Ext.refl θ,λG b=>b _,rfl⟩
 | str=>
  cases v<;>simp only[apC]at h<;>skip
  exact⟨_,θ,_,h,Ext.refl θ,λG b=>b _,rfl⟩
 |any=>exact⟨_,θ,.v v,h,Ext.refl θ,λG b=>b _,rfl⟩
 | hdr=>
  cases v<;>simp only[apC]at h<;>skip
  exact⟨_,θ,_,h,Ext.refl θ,λG b=>b _ _ _,rfl⟩
 | nsl=>
  simp only[apC]at h;split at h
  ·exact⟨_,θ,_,h,Ext.refl θ,λG b=>b,rfl⟩
  ·exact h.elim
 | nil=>
  simp only[apC]at h;split at h
  ·exact⟨_,θ,_,h,Ext.refl θ,λG b=>b,rfl⟩
  ·exact h.elim
 | fn f=>
  simp only[apC]at h;split at h
  ·split at h
   ·rename_i he;obtain rfl:=Nat.eq_of_beq_eq_true he;exact⟨_,θ,_,h,Ext.refl θ,λG b=>b,rfl⟩
   ·exact h.elim
  ·exact h.elim
 | ptr j=>
  simp only[apC]at h;split at h
  ·rename_i id;obtain⟨d,i,l,o⟩:=jM h;exact⟨_,d,_,i,l,λG b=>b,_,rfl,by simp[PK.ren,o]⟩
  ·exact h.elim
 | obj j path=>
  simp only[apC]at h;split at h
  ·rename_i id p;split at h
   ·rename_i he;obtain⟨d,i,l,o⟩:=jM h;exact⟨_,d,_,i,l,λG b=>b,_,rfl,by simp[PK.ren,o,Nat.eq_of_beq_eq_true he]⟩
   ·exact h.elim
  ·exact h.elim
 | sl j=>
  simp only[apC]at h;split at h
  ·rename_i id;obtain⟨d,i,l,o⟩:=jM h;exact⟨_,d,_,i,l,λG b=>b,_,rfl,by simp[PK.ren,o]⟩
  ·exact h.elim
theorem vl {T:Type}:∀ {l:List CP}{J:Es l T}{vs:List Value}{kc:Nat->Option PK}{i:Nat}{θ:Th}{F:T->Th->Prop},Mr l J vs kc i θ F->∃d o k,F d o/\Ext θ o/\(∀G:T->List AV->Prop,DD l J G->G d k)/\Ew o vs kc i k
 | [],J,[],kc,i,θ,F,h=>⟨J,θ,[],h,Ext.refl θ,λG p=>p,rfl,λj a v t=>by simp[nth]at t⟩
 | [],_,_::_,_,_,_,_,h=>h.elim
 |c::l,J,[],_,_,_,_,h=>h.elim
 | c::l,J,v::vs,kc,i,θ,F,h=>by
  obtain⟨H,I,a,x,e1,y,d1⟩:=FD h;obtain⟨z,A,k,B,r,C,d2⟩:=vl x;refine⟨z,A,a::k,B,e1.trans r,λG p=>C (λq vs=>G q (a::vs)) (y (λd a'=>DD l d λq vs=>G q (a'::vs)) p),?_,λj b u hb hu=>?_⟩
  ·simp[d2.1]
  ·cases j with
   | zero=>
    simp only[nth,Option.some.injEq]at hb hu;subst hb;subst hu;exact d1.mono r
   | succ j=>
    have:=d2.2 j b u hb hu
    rwa[show i+1+j=i+(j+1)by omega]at this
def AaD(θ:Th)(v:Value)(k:Option Kn):AA->Prop
 |.one a=>AvD θ v (kt k) a
 |.agg b=>∃cs,v=.agg cs/\Ew θ cs.toList (O7 k) 0 b
theorem AaD.mono {θ b:Th}(h:Ext θ b){v:Value}{k:Option Kn}{a:AA}(d:AaD θ v k a):AaD b v k a:=by
 cases a with
 |one a=>exact AvD.mono h d
 |agg j=>obtain⟨cs,e,i⟩:=d;exact⟨cs,e,i.mono h⟩
theorem Bz {T:Type}:∀ {l:List AP}{J:Ey U l T}{vs:List Value}{q:List (Option Kn)}{θ:Th}{F:T->Th->Prop},BA l J vs q θ F->∃d o r,F d o/\Ext θ o/\(∀G:T->List AA->Prop,vo l J G->G d r)/\r.length=vs.length/\∀j a v,nth r j=some a->nth vs j=some v->∃k,nth q j=some k/\AaD o v k a
 | [],J,[],q,θ,F,h=>⟨J,θ,[],h,Ext.refl θ,λG i=>i,rfl,λj a v p=>by simp[nth]at p⟩
 | [],_,_::_,_,_,_,h=>by simp[BA]at h
 |_::_,_,[],_,_,_,h=>by simp[BA]at h
 |_::_,_,_::_,[],_,_,h=>by simp[BA]at h
 | a::l,J,v::vs,k::q,θ,F,h=>by
  simp only[BA]at h;have one:∃d o x,BA l d vs q o F/\Ext θ o/\(∀G:Ey U l T->AA->Prop,alA a J G->G d x)/\AaD o v k x:=by
   cases a with
   | one c=>
    obtain⟨A,B,x,t,e1,z,d1⟩:=FD (show apC c J v (kt k) θ _ from h);exact⟨A,B,.one x,t,e1,λG i=>z (λd y=>G d (.one y)) i,d1⟩
   | agg cs=>
    simp only[apA]at h;split at h
    ·rename_i I;obtain⟨A,B,x,t,e1,z,d1⟩:=vl h;exact⟨A,B,.agg x,t,e1,λG i=>z (λd y=>G d (.agg y)) i,I,rfl,d1⟩
    ·exact h.elim
   | enc tt=>
    simp only[apA]at h;split at h
    ·rename_i cs;split at h
     ·rename_i x M;have e:=U.jn M;refine⟨_,θ,.agg (aK .v ((U.en tt).enc x)),h,Ext.refl θ,λG i=>i x,cs,rfl,?_,λj a v p O=>?_⟩
      ·rw[e,iY,List.length_map]
      ·rw[e,bx,O]at p;injection p with p
       subst p;rfl
     ·exact h.elim
    ·exact h.elim
  obtain⟨A,B,x,t,e1,z,d1⟩:=one;obtain⟨Q,R,r,S,H,V,l2,d2⟩:=Bz t;refine⟨Q,R,x::r,S,e1.trans H,λG i=>V (λC vs=>G C (x::vs)) (z (λd a'=>vo l d λC vs=>G C (a'::vs)) i),by simp[l2],λj b u hb hu=>?_⟩;cases j with
  | zero=>
   simp only[nth,Option.some.injEq]at hb hu;subst hb;subst hu;exact⟨k,rfl,d1.mono H⟩
  |succ j=>exact d2 j b u hb hu
def LkD(θ:Th)(b:Nat->Option PK)(lk:List (Nat×Nat×Nat)):Prop:=∀p j q,(p,j,q)∈lk->∃i,b p=some (.obj i q 0)/\dx θ j=some i
def PrD(θ:Th)(kc h:Nat->Option PK):PR U->Res U->Prop
 |.ob t r s lk,x=>x=.ob t r s/\LkD θ h lk
 |.blk g i T,x=>∃cs,x=.blk g cs T/\Ew θ cs kc 0 i
 |.lst t own T A c l,x=>∃b d,x=.lst t b d A c l/\(own=true->b=true/\d=T)
theorem PrD.mono {θ b:Th}(h:Ext θ b){kc d:Nat->Option PK}{p:PR U}{x:Res U}(hp:PrD θ kc d p x):PrD b kc d p x:=by
 cases p with
 |ob t r s lk=>exact⟨hp.1,λp j q hm=>by obtain⟨i,k,o⟩:=hp.2 p j q hm;exact⟨i,k,h _ _ o⟩⟩
 |blk g v T=>obtain⟨cs,e,u⟩:=hp;exact⟨cs,e,u.mono h⟩
 |lst t own T A c l=>exact hp
def NS:RP->Bool
 |.lst _ own _=>!own
 |_=>false
def NX:PR U->Bool
 |.lst _ own _ _ _ _=>!own
 |_=>false
theorem By:∀ {l:List (Nat×Nat×Nat)}{b:Nat->Option PK}{θ:Th}{F:Th->Prop},Mq l b θ F->∃d,F d/\Ext θ d/\LkD d b l
 | [],b,θ,F,h=>⟨θ,h,Ext.refl θ,λ_ _ _ hm=>by cases hm⟩
 | (p,j,q)::l,b,θ,F,h=>by
  simp only[Mq]at h;split at h
  ·rename_i i q' r;split at h
   ·rename_i hq;have hq:=Nat.eq_of_beq_eq_true hq;subst hq;obtain⟨B,t,e1,u⟩:=jM h;obtain⟨v,x,o,y⟩:=By t;refine⟨v,x,e1.trans o,λC G H hm=>?_⟩;rcases List.mem_cons.1 hm with e|hm
    ·injection e with z k
     injection k with k A
     subst z;subst k;subst A;exact⟨i,r,o _ _ u⟩
    ·exact y _ _ _ hm
   ·exact h.elim
  ·exact h.elim
theorem Mo {T:Type}{p:RP}{J:p.T U T}{r:Option (Res U)}{kc z:Nat->Option PK}{θ:Th}{F:T->Th->Prop}(h:apR p J r kc z θ F):∃i k x y,r=some x/\F i k/\Ext θ k/\(∀G:T->PR U->Prop,alR p J G->G i y)/\PrD k kc z y x/\NX y=NS p:=by
 cases p with
 | ob t lk=>
  cases r with
  |none=>exact h.elim
  | some x=>
   cases x<;>simp only[apR]at h<;>skip
   rename_i o r s;split at h
   ·rename_i b;subst b;obtain⟨q,u,e1,v⟩:=By h;exact⟨_,q,_,.ob o r s lk,rfl,u,e1,λG d=>d r s,⟨rfl,v⟩,rfl⟩
   ·exact h.elim
 | blk l j=>
  cases r with
  |none=>exact h.elim
  | some x=>
   cases x<;>simp only[apR]at h<;>skip
   rename_i g cs B;split at h
   ·rename_i b;obtain⟨C,q,H,u,e1,v,d1⟩:=vl h;exact⟨C,q,_,.blk g H j,rfl,u,e1,λG d=>v (λi cs=>G i (.blk g cs j)) (d g),⟨cs,by rw[Nat.eq_of_beq_eq_true b],d1⟩,rfl⟩
   ·exact h.elim
 | lst t own j=>
  cases r with
  |none=>exact h.elim
  | some x=>
   cases x<;>simp only[apR]at h<;>skip
   rename_i o I B A c l;split at h
   ·rename_i hb;split at h
    ·rename_i b;subst b;refine⟨_,θ,_,.lst o own j A c l,rfl,h,Ext.refl θ,λG d=>d A c l,⟨I,B,rfl,λM=>?_⟩,rfl⟩;subst M;simp only[Bool.not_true,Bool.false_or,Bool.and_eq_true]at hb;exact⟨hb.1,Nat.eq_of_beq_eq_true hb.2⟩
    ·exact h.elim
   ·exact h.elim
theorem Bx {T:Type}{rs:List (Res U)}{kn:List (Key×Kn)}:∀ {l:List RP}{J:G5 U l T}{b:Nat}{θ:Th}{F:T->Th->Prop},Mn rs kn l J b θ F->∃i k d,F i k/\Ext θ k/\(∀G:T->List (PR U)->Prop,vn l J G->G i d)/\d.length=l.length/\
 ∀j p,nth d j=some p->∃id x,dx k (b+j)=some id/\nth rs id=some x/\PrD k (λo=>kt (cP (.c id o) kn)) (λq=>kt (cP (.l id q) kn)) p x/\∃q,nth l j=some q/\NX p=NS q
 | [],J,b,θ,F,h=>⟨J,θ,[],h,Ext.refl θ,λG r=>r,rfl,λj p hp=>by simp[nth]at hp⟩
 | p::l,J,b,θ,F,h=>by
  simp only[Mn]at h;split at h
  ·rename_i id v;obtain⟨J1,θ1,x,y,e0,z,e1,A,d1,B⟩:=Mo h;obtain⟨C,H,d,I,t,M,l2,d2⟩:=Bx z;refine⟨C,H,y::d,I,e1.trans t,λG r=>M (λu xs=>G u (y::xs)) (A (λi O=>vn l i λu xs=>G u (O::xs)) r),by simp[l2],λj q hq=>?_⟩;cases j with
   | zero=>
    simp only[nth,Option.some.injEq]at hq;subst hq;exact⟨id,x,t _ _ (e1 _ _ v),e0,d1.mono t,p,rfl,B⟩
   | succ j=>
    obtain⟨Q,R,S,V,W,h6⟩:=d2 j q hq;exact⟨Q,R,by rw[show b+(j+1)=b+1+j by omega];exact S,V,W,h6⟩
  ·exact h.elim
theorem xT {rs:List (Res U)}:∀ {l:List (Nat×Nat)}{θ:Th}{F:Th->Prop},FC rs l θ F->∃b,F b/\Ext θ b
 | [],θ,F,h=>⟨θ,h,Ext.refl θ⟩
 | (j,t)::l,θ,F,h=>by
  simp only[FC]at h;split at h
  ·obtain⟨p,d,e1,_⟩:=jM h;obtain⟨i,k,o⟩:=xT d;exact⟨i,k,e1.trans o⟩
  ·exact h.elim
structure eg(w0:World)(k0:Nat)(X0:Nat->Nat->Prop)(may:List Nat)(fr:Fr)(st:St U)(X:Nat->Nat->Prop)(w:World)(st':St U)(X':Nat->Nat->Prop)(w':World)(M:List Nat):Prop where
 inv:Inv w0 k0 X0 may st'.rs X' w'
 kn:aG st'.rs fr st'.kn
 md:st'.md=M++st.md
 mlt:∀i,i∈M->i<st.rs.length
 can:∀i,i∈M->i∈may\/k0<=i
 len:st.rs.length<=st'.rs.length
 same:∀i,i<st.rs.length->i ∉ M->nth st'.rs i=nth st.rs i/\X' i=X i
 grow:∀i,i∈M->∀k,X' i k->X i k\/w.heap.size<=k
 new:∀i,st.rs.length<=i->i<st'.rs.length->∀k,X' i k->w.heap.size<=k
 ch:Ch (λk=>∃j,j∈M/\X j k) w w'
 root:∀i a,nth st.rs i=some a->∃b,nth st'.rs i=some b/\dH a b
 rwm:∀i,i∈M->rwB st.rs i=true
theorem jc {rs:List (Res U)}{i:Nat}(h:lq may k0 rs i=true):i∈may\/k0<=i:=by
 unfold lq at h;split at h
 ·split at h
  ·rename_i hb;exact .inr (Nat.le_of_ble_eq_true hb)
  ·exact .inl (gh.1 h)
 ·cases h
theorem nO {rs:List (Res U)}{i:Nat}(h:lq may k0 rs i=true):rwB rs i=true:=by
 unfold lq at h;split at h
 ·assumption
 ·cases h
theorem gU:∀ {M:List Nat}{us:List (Upd U)}{rs rs':List (Res U)},br rs M us=some rs'->rs'.length=rs.length/\(∀i,i ∉ M->nth rs' i=nth rs i)/\∀i,i∈M->i<rs.length/\∀a,nth rs i=some a->∃b,nth rs' i=some b/\dH a b
 | [],[],rs,rs',h=>by
  simp only[br,Option.some.injEq]at h;subst h;exact⟨rfl,λ_ _=>rfl,λi hi=>by cases hi⟩
 | [],_::_,_,_,h=>by simp[br]at h
 |_::_,[],_,_,h=>by simp[br]at h
 | i::M,u::us,rs,rs',h=>by
  simp only[br]at h;split at h
  ·rename_i r p;split at h
   ·rename_i r' x;obtain⟨q,t,l⟩:=gU h;have hi:=aX p;simp only[pQ]at q l;have e:∀j,nth (cf rs i r') j=if j=i then some r' else nth rs j:=λj=>by
     rw[bD];by_cases d:j=i
     ·rw[if_pos ⟨d,hi⟩,if_pos d]
     ·rw[if_neg (λy=>d y.1),if_neg d]
    refine⟨q,λj d=>?_,λj d=>?_⟩
    ·rw[List.mem_cons,not_or]at d;rw[t j d.2,e,if_neg d.1]
    ·refine⟨?_,λa k=>?_⟩
     ·rcases List.mem_cons.1 d with rfl|d
      ·exact hi
      ·exact(l j d).1
     ·by_cases o:j=i
      ·subst o;rw[p]at k;injection k with k
       subst k;have v:=Bv x;by_cases hm:j∈M
       ·obtain⟨b,hb,z⟩:=(l j hm).2 r' (by rw[e,if_pos rfl]);exact⟨b,hb,v.trans z⟩
       ·exact⟨r',by rw[t j hm,e,if_pos rfl],v⟩
      ·have hm:j∈M:=(List.mem_cons.1 d).resolve_left o;exact(l j hm).2 a (by rw[e,if_neg o];exact k)
   ·cases h
  ·cases h
theorem sQ {f:Nat->Option Nat}(C:∀a b i,f a=some i->f b=some i->a=b):∀ {ms M:List Nat}{us:List (Upd U)}{L y G z:List (Res U)},jT f ms=some M->br L ms us=some y->br G M us=some z->Emb f L G->(∀j,j∈ms->∀r,nth L j=some r->∃i,f j=some i/\nth G i=some r)->
 Emb f y z/\∀j,j∈ms->∀r,nth y j=some r->∃i,f j=some i/\nth z i=some r
 | [],M,us,L,y,G,z,q,o,t,hE,J=>by
  simp only[jT,Option.some.injEq]at q;subst q;cases us with
  |cons u us=>simp[br]at o
  | nil=>
   simp only[br,Option.some.injEq]at o t;subst o;subst t;exact⟨hE,λj k=>by cases k⟩
 | m::ms,M,us,L,y,G,z,q,o,t,hE,J=>by
  simp only[jT]at q;split at q
  ·rename_i i v hi Q;injection q with q
   subst q;cases us with
   |nil=>simp[br]at o
   | cons u us=>
    simp only[br]at o t;split at o
    ·rename_i r R;split at o
     ·rename_i r1 W;obtain⟨i',F,S⟩:=J m (List.mem_cons_self ..) r R;rw[hi]at F;injection F with F
      subst F;rw[S]at t;simp only[W]at t;have T:=aX R;have aa:=aX S;have key:∀j x,nth (cf L m r1) j=some x->(j=m/\x=r1)\/(j≠m/\nth L j=some x):=by
       intro j x d;rw[bD]at d;by_cases k:j=m
       ·rw[if_pos ⟨k,T⟩]at d;injection d with d
        exact .inl ⟨k,d.symm⟩
       ·rw[if_neg (λp=>k p.1)]at d;exact .inr ⟨k,d⟩
      have A:∀j,nth (cf G i r1) j=if j=i then some r1 else nth G j:=λj=>by
       rw[bD];by_cases k:j=i
       ·rw[if_pos ⟨k,aa⟩,if_pos k]
       ·rw[if_neg (λp=>k p.1),if_neg k]
      have V:=sQ C Q o t (λj x d=>by
       rcases key j x d with⟨rfl,rfl⟩|⟨k,d⟩
       ·exact⟨i,_,hi,by rw[A,if_pos rfl],.inl rfl⟩
       ·obtain⟨a,b,B,O,h5⟩:=hE j x d;exact⟨a,b,B,by rw[A,if_neg (by rintro rfl;exact k (C _ _ _ B hi))];exact O,h5⟩) (λj k x d=>by
       rcases key j x d with⟨rfl,rfl⟩|⟨WZ,d⟩
       ·exact⟨i,hi,by rw[A,if_pos rfl]⟩
       ·obtain⟨a,B,O⟩:=J j (List.mem_cons_of_mem _ k) x d;exact⟨a,B,by rw[A,if_neg (by rintro rfl;exact WZ (C _ _ _ B hi))];exact O⟩)
      refine⟨V.1,λj k x d=>?_⟩;by_cases H:j∈ms
      ·exact V.2 j H x d
      ·have ab:j=m:=(List.mem_cons.1 k).resolve_right H;subst ab;have I:=(gU o).2.1 j H;rw[d,bD,if_pos ⟨rfl,T⟩]at I;injection I with I
       subst I;have ae:i ∉ v:=by
        intro p;have:∀ {l v:List Nat},jT f l=some v->i∈v->∃a∈l,f a=some i:=by
         intro l
         induction l with
         |nil=>intro v h p;simp only[jT,Option.some.injEq]at h;subst h;cases p
         | cons a l ih=>
          intro v h p;simp only[jT]at h;split at h
          ·rename_i b bs hb af;injection h with h
           subst h;rcases List.mem_cons.1 p with rfl|p
           ·exact⟨a,List.mem_cons_self ..,hb⟩
           ·obtain⟨c,hc,ah⟩:=ih af p;exact⟨c,List.mem_cons_of_mem _ hc,ah⟩
          ·cases h
        obtain⟨a,ha,an⟩:=this Q p;exact H (C _ _ _ an hi▸ha)
       refine⟨i,hi,?_⟩;rw[(gU t).2.1 i ae,A,if_pos rfl]
     ·cases o
    ·cases o
  ·cases q
theorem AF {α β:Type}{f:α->Option β}:∀ {l:List α}{r:List β},jT f l=some r->∀b,b∈r->∃a,a∈l/\f a=some b
 | [],r,h,b,hb=>by
  simp only[jT,Option.some.injEq]at h;subst h;cases hb
 | a::l,r,h,b,hb=>by
  simp only[jT]at h;split at h
  ·rename_i c cs d i;injection h with h
   subst h;rcases List.mem_cons.1 hb with rfl|hb
   ·exact⟨a,List.mem_cons_self ..,d⟩
   ·obtain⟨x,j,k⟩:=AF i b hb;exact⟨x,List.mem_cons_of_mem _ j,k⟩
  ·cases h
theorem nK {α β:Type}{f:α->Option β}:∀ {l:List α}{r:List β},jT f l=some r->∀a,a∈l->∃b,b∈r/\f a=some b
 | [],r,h,a,i=>by cases i
 | a::l,r,h,x,d=>by
  simp only[jT]at h;split at h
  ·rename_i c cs j k;injection h with h
   subst h;rcases List.mem_cons.1 d with rfl|d
   ·exact⟨c,List.mem_cons_self ..,j⟩
   ·obtain⟨b,hb,o⟩:=nK k x d;exact⟨b,List.mem_cons_of_mem _ hb,o⟩
  ·cases h
theorem lh {b:List (PR U)}{j:Nat}:nth (dU b) j=(nth b j).map (PR.fin (aK PR.j2 b)):=by
 unfold dU;exact bx _ _ _
@[simp] theorem Pp(b:List (PR U)):(dU b).length=b.length:=by unfold dU;simp
theorem tD(b:List (PR U))(p:PK):den U (dU b) p=den U (aK PR.j2 b) p:=by
 unfold den;rw[lh,bx];cases nth b p.id with
 |none=>rfl
 |some y=>cases y<;>cases p<;>rfl
theorem Fe {i:Nat}{key:Key}{k:Kn}:∀ {l:List (Nat×Nat×Nat)},(key,k)∈lkK i l->∃p j q,(p,j,q)∈l/\key=.l i p/\k=.p (.obj j q 0)
 | (p,j,q)::l,h=>by
  rcases List.mem_cons.1 h with e|h
  ·injection e with e1 b
   exact⟨p,j,q,List.mem_cons_self ..,e1,b⟩
  ·obtain⟨d,o,q',r,t⟩:=Fe (l:=l) h;exact⟨d,o,q',List.mem_cons_of_mem _ r,t⟩
theorem kV {key:Key}{k:Kn}:∀ {l:List (PR U)}{i:Nat},(key,k)∈uS i l->∃j t r s lk p b q,nth l j=some (.ob t r s lk)/\(p,b,q)∈lk/\key=.l (i+j) p/\k=.p (.obj b q 0)
 | [],_,h=>by cases h
 | .ob t r s lk::l,i,h=>by
  rcases List.mem_append.1 h with h|h
  ·obtain⟨p,b,q,d,o,u⟩:=Fe h;exact⟨0,t,r,s,lk,p,b,q,rfl,d,o,u⟩
  ·obtain⟨j,t,r,s,lk,p,b,q,d,o,u,v⟩:=kV (l:=l) h;exact⟨j+1,t,r,s,lk,p,b,q,d,o,by rw[u];congr 1;omega,v⟩
 | .blk _ _ _::l,i,h=>by
  obtain⟨j,t,r,s,lk,p,b,q,d,o,u,v⟩:=kV (l:=l) h;exact⟨j+1,t,r,s,lk,p,b,q,d,o,by rw[u];congr 1;omega,v⟩
 | .lst _ _ _ _ _ _::l,i,h=>by
  obtain⟨j,t,r,s,lk,p,b,q,d,o,u,v⟩:=kV (l:=l) h;exact⟨j+1,t,r,s,lk,p,b,q,d,o,by rw[u];congr 1;omega,v⟩
theorem xI(f:Nat->Option Nat)(k:Option Kn)(v:Value):ln (Fg f k) v=ln k v:=by
 cases k with
 |none=>rfl
 | some k=>
  cases k with
  |p p=>show ln ((p.ren f).map .p) v=_;cases p.ren f<;>rfl
  |w p n=>show ln ((p.ren f).map (.w · n)) v=_;cases p.ren f<;>rfl
  |_=>rfl
theorem fJ {rs:List (Res U)}{v:Value}{k:Option Kn}(h:KnO rs v k):Ending.returned v=ln k v:=by
 cases k with
 |none=>rfl
 |some k=>cases k<;>first|rfl|exact h.elim
theorem xQ {R:Array Value->World->(Ending->World->Prop)->Prop}(hR:∀ {args w}{E E':Ending->World->Prop},R args w E->(∀e w',E e w'->E' e w')->R args w E'){f:Nat}{args:List Value}{ks:List (Option Kn)}{st:St U}{K:eF U}{w0:World}{X0 X:Nat->Nat->Prop}{w:World}{fr:Fr}(SS:∀c,tbl.c f=some c->LVg U R c)(hI:Inv w0 k0 X0 may st.rs X w)(I:aG st.rs fr st.kn)
 (a8:∀j v k,nth args j=some v->nth ks j=some k->KnO st.rs v k)(h:call2 U tbl may k0 f args ks st K):
 R ⟨args⟩ w λe w'=>∃v k st' S M,e=ln k v/\K v k st'/\(k=some .pan\/KnO st'.rs v k)/\eg w0 k0 X0 may fr st X w st' S w' M:=by
 unfold call2 at h;split at h
 ·exact h.elim
 rename_i c hc;have a9:=SS c hc;obtain⟨B1,θ1,az,h,e1,g1,la,da⟩:=Bz h;obtain⟨θ2,h,V⟩:=xT h;obtain⟨B2,θ,H,h,e3,g3,lp,dp⟩:=Bx h;split at h
 case h_2=>exact h.elim
 rename_i M hb hM;simp only[Bool.and_eq_true]at hb;obtain⟨UQ,ba,Sy⟩:=hb;split at h
 case h_2=>exact h.elim
 rename_i Sq;have WB:∀a b i,dx θ a=some i->dx θ b=some i->a=b:=λa b i=>NF UQ;have RV:∀j i,dx θ j=some i->j<H.length:=λj i z=>by
  have:=cx.1 ba _ (nB z);rw[lp];simpa[Nat.blt_eq]using this
 have To:∀ {p q v},p.ren (dx θ)=some q->den U st.rs q=some v->den U (aK PR.j2 H) p=some v:=by
  intro p q v hp hd;obtain⟨y,J⟩:=cj (RV _ _ (PK.yF hp));obtain⟨id,x,B,C,G,_⟩:=dp _ y J;rw[Nat.zero_add,PK.yF hp]at B;injection B with B
  subst B;unfold den at hd ⊢;rw[C]at hd;rw[bx,J,<-hd];simp only[Option.map_some];cases y with
  | ob t r s lk=>
   cases G.1;cases p<;>simp only[PK.ren,Option.map_eq_some_iff]at hp<;>obtain⟨i,hi,rfl⟩:=hp<;>rfl
  | blk g ab T=>
   obtain⟨cs,rfl,_⟩:=G;cases p<;>simp only[PK.ren,Option.map_eq_some_iff]at hp<;>obtain⟨i,hi,rfl⟩:=hp<;>rfl
  | lst t own T A c' l=>
   obtain⟨aN,T',rfl,_⟩:=G;cases p<;>simp only[PK.ren,Option.map_eq_some_iff]at hp<;>obtain⟨i,hi,rfl⟩:=hp<;>rfl
 have a0:∀ {v:Value}{k:Option PK}{a:AV},AvD θ v k a->(∀p,k=some p->den U st.rs p=some v)->lr (aK PR.j2 H) a=v:=by
  intro v k a F ZH;cases a with
  |v x=>exact F
  | k p=>
   obtain⟨q,hq,d⟩:=F;show(den U _ p).getD undef=v;rw[To d (ZH q hq)];rfl
 have a1:∀ {vs:List Value}{kc:Nat->Option PK}{az:List AV},Ew θ vs kc 0 az->(∀j v p,nth vs j=some v->kc j=some p->den U st.rs p=some v)->aK (lr (aK PR.j2 H)) az=vs:=by
  intro vs kc az hd ZH;apply List.ext_getElem?;intro j;rw[<-aM,<-aM,bx];cases F:nth az j with
  | none=>
   have:vs.length<=j:=by
    rw[<-hd.1];apply Nat.le_of_not_lt;intro W;obtain⟨x,hx⟩:=cj W;rw[hx]at F;cases F
   rw[uI this];rfl
  | some a=>
   obtain⟨v,O⟩:=cj (l:=vs) (i:=j) (by rw[<-hd.1];exact aX F);rw[O];have a2:=hd.2 j a v F O;rw[Nat.zero_add]at a2;exact congrArg some (a0 a2 (λp hp=>ZH j v p O hp))
 have Vj:aK (qz (aK PR.j2 H)) az=args:=by
  apply List.ext_getElem?;intro j;rw[<-aM,<-aM,bx];cases F:nth az j with
  | none=>
   have:args.length<=j:=by
    rw[<-la];apply Nat.le_of_not_lt;intro W;obtain⟨x,hx⟩:=cj W;rw[hx]at F;cases F
   rw[uI this];rfl
  | some a=>
   obtain⟨v,O⟩:=cj (l:=args) (i:=j) (by rw[<-la];exact aX F);rw[O];obtain⟨k,SD,hd⟩:=da j a v F O;have hd:=hd.mono (V.trans e3);have S0:=a8 j v k O SD;cases a with
   | one a=>
    refine congrArg some (a0 hd λp hp=>?_);unfold kt at hp;split at hp
    ·injection hp with hp;subst hp;exact S0
    ·cases hp
   | agg ab=>
    obtain⟨cs,rfl,bb⟩:=hd;have h9:=a1 bb (λj v p O hp=>by
     unfold O7 at hp;split at hp
     ·rename_i l _;obtain⟨bc,e,W⟩:=S0;injection e with e
      subst e;split at hp
      ·rename_i o ho;subst hp;obtain⟨u,hu,hd⟩:=W _ _ ho;rw[aM]at O;have:some v=some u:=by rw[<-O,<-hu];simp
       injection this with this
       rw[this];exact hd
      ·cases hp
     ·cases hp)
    show some (Value.agg ⟨aK _ ab⟩)=_;rw[h9]
 have W2:Emb (dx θ) (dU H) st.rs:=by
  intro j r d;rw[lh]at d;cases J:nth H j with
  |none=>rw[J]at d;cases d
  | some y=>
   rw[J]at d;injection d with d
   obtain⟨id,x,B,C,G,_⟩:=dp _ y J;rw[Nat.zero_add]at B;refine⟨id,x,B,C,?_⟩;cases y with
   |ob t r' s lk=>exact .inl (by rw[<-d,G.1];rfl)
   | blk g ab T=>
    obtain⟨cs,rfl,hd⟩:=G;left;rw[<-d];show Res.blk g (aK _ ab) T=_;rw[a1 hd λo v p O hp=>?_];unfold kt at hp;split at hp
    ·rename_i q hq;injection hp with hp
     subst hp;obtain⟨g',bc,T',u,e4,e5,e6⟩:=I.get hq;rw[C]at e4;injection e4 with e4
     injection e4 with _ e4 _
     subst e4;rw[O]at e5;injection e5 with e5
     subst e5;exact e6
    ·cases hp
   | lst t own T A c' l=>
    obtain⟨aN,T',rfl,ho⟩:=G;cases own with
    |false=>exact .inr ⟨t,aN,T,T',A,c',l,d.symm,rfl⟩
    | true=>
     obtain⟨bd,XS⟩:=ho rfl;left;rw[<-d,bd,XS];rfl
 have bf:∀j,j∈c.aW->∀r,nth (dU H) j=some r->∃i,dx θ j=some i/\nth st.rs i=some r:=by
  intro j z r d;obtain⟨i,r',B,C,G⟩:=W2 j r d;refine⟨i,B,?_⟩;rcases G with rfl|⟨t,own,T,T',A,c',l,rfl,rfl⟩
  ·exact C
  ·exfalso;have hm:=cx.1 Sy j z;rw[lh]at d;cases J:nth H j with
   |none=>rw[J]at d;cases d
   | some y=>
    rw[J]at d;injection d with d
    obtain⟨_,_,_,_,_,q,hq,af⟩:=dp j y J;rw[hq]at hm;have bh:NX y=true:=by
     cases y<;>simp only[PR.fin,reduceCtorEq]at d
     injection d with e1 V
     subst V;rfl
    rw[bh]at af;cases q<;>simp[NS]at af
    subst af;simp at hm
 have XW:∀j i,dx θ j=some i->X ((dx θ j).getD 0)=X i:=λj i z=>by simp[z]
 have bk:Sat (dU H) (λj=>X ((dx θ j).getD 0)) w:=by
  refine⟨λj r d=>?_,λi j hi z Sl TN k SI=>?_⟩
  ·obtain⟨i,r',B,C,G⟩:=W2 j r d;rw[XW j i B];have:=hI.sat.res i r' C;rcases G with rfl|⟨t,own,T,T',A,c',l,rfl,rfl⟩
   ·exact this
   ·exact this.rd
  ·obtain⟨x,hx⟩:=cj hi;obtain⟨y,J⟩:=cj z;obtain⟨a,_,B,C,h5⟩:=W2 i x hx;obtain⟨b,_,G,h4,h6⟩:=W2 j y J;rw[XW i a B]at SI;rw[XW j b G];refine hI.sat.gX a b (aX C) (aX h4) (λe=>Sl (WB i j a B (e▸G))) (MY TN ?_ ?_) k SI
   ·unfold rwB;rw[hx,C];rcases h5 with rfl|⟨_,_,_,_,_,_,_,rfl,rfl⟩
    ·exact id
    ·intro e;cases e
   ·unfold rwB;rw[J,h4];rcases h6 with rfl|⟨_,_,_,_,_,_,_,rfl,rfl⟩
    ·exact id
    ·intro e;cases e
 have bl:=g3 _ (g1 _ a9);have bm:aG (dU H) fr0 (uS 0 H):=by
  intro key k hm;obtain⟨j,t,r,s,lk,p,j',q,e1,V,rfl,rfl⟩:=kV hm;rw[Nat.zero_add];obtain⟨id,x,B,C,G,_⟩:=dp _ _ e1;rw[Nat.zero_add]at B;obtain⟨G,h4⟩:=G;obtain⟨i,h5,h6⟩:=h4 _ _ _ V;refine⟨t,r,s,by rw[lh,e1];rfl,?_⟩;dsimp only at h5;unfold kt at h5;split at h5
  ·rename_i k' Vt;injection h5 with h5
   subst h5;obtain⟨t',r',s',g1,g2⟩:=I.get Vt;rw[C,G]at g1;injection g1 with g1
   cases g1;show den U (dU H) (.obj j' q 0)=_;rw[tD];exact To (p:=.obj j' q 0) (q:=.obj i q 0) (by simp[PK.ren,h6]) g2
  ·cases h5
 have Us:=bl _ h _ w bk bm;rw[Vj]at Us;refine hR Us λe w' hp=>?_;obtain⟨out,Q,Xl,rfl,hQ,RL,Ui⟩:=hp;split at hQ
 case h_2=>exact hQ.elim
 rename_i rs' Zz;obtain⟨bs,bA⟩:=sQ WB hM RL Zz W2 bf;obtain⟨u1,u2,u3⟩:=gU Zz;obtain⟨v1,v2,v3⟩:=gU RL;have ZP:∀i,i∈M->i<st.rs.length:=λi hi=>(u3 i hi).1;have bN:c.res.length=H.length:=lp.symm;have UO:Q.length=H.length:=by rw[v1];simp
 have Vh:Emb (EF θ c.res.length st.rs.length) (Q++out.news) (rs'++out.news):=by
  intro j r d;rw[aP]at d;unfold EF;by_cases z:j<Q.length
  ·rw[if_pos z]at d;obtain⟨i,r',B,C,G⟩:=bs j r d;have hb:Nat.blt j c.res.length=true:=by rw[Nat.blt_eq];omega
   rw[hb];exact⟨i,r',B,by rw[aP,if_pos (aX C)];exact C,G⟩
  ·rw[if_neg z]at d;have hb:Nat.blt j c.res.length=false:=by
    cases hb:Nat.blt j c.res.length
    ·rfl
    ·rw[Nat.blt_eq]at hb;omega
   rw[hb];refine⟨_,r,rfl,?_,.inl rfl⟩;rw[aP,if_neg (by omega),u1];rw[show st.rs.length+(j - c.res.length) - st.rs.length=j - Q.length by omega];exact d
 let S:Nat->Nat->Prop:=λi=>open Classical in if h:∃j,j∈c.aW/\dx θ j=some i then Xl h.choose else if i<st.rs.length then X i else Xl (c.res.length+(i - st.rs.length))
 have ah:∀j i,j∈c.aW->dx θ j=some i->S i=Xl j:=by
  intro j i z hi;have hex:∃j,j∈c.aW/\dx θ j=some i:=⟨j,z,hi⟩;show(open Classical in if h:_ then _ else _)=_;rw[dif_pos hex,WB _ _ _ hex.choose_spec.2 hi]
 have an:∀i,i∈M->∃j,j∈c.aW/\dx θ j=some i:=λi hi=>AF hM i hi;have a3:∀j i,j∈c.aW->dx θ j=some i->i∈M:=by
  intro j i z hi;obtain⟨b,hb,Vv⟩:=nK hM j z;rw[hi]at Vv;injection Vv with Vv
  exact Vv▸hb
 have bC:∀i,i<st.rs.length->i ∉ M->S i=X i:=by
  intro i hi hm;show(open Classical in if h:_ then _ else _)=_;rw[dif_neg (fun⟨j,z,S5⟩=>hm (a3 j i z S5)),if_pos hi]
 have aA:∀i,st.rs.length<=i->S i=Xl (c.res.length+(i - st.rs.length)):=by
  intro i hi;show(open Classical in if h:_ then _ else _)=_;rw[dif_neg (fun⟨j,z,S5⟩=>by have:=ZP i (a3 j i z S5);omega),if_neg (by omega)]
 have ae:∀j,j∈c.aW->j<H.length:=by
  intro j z;obtain⟨b,_,hb⟩:=nK hM j z;exact RV j b hb
 have a4:∀j r,j∈c.aW->nth Q j=some r->nth (Q++out.news) j=some r:=λj r z d=>by rw[aP,if_pos (aX d)];exact d
 have a5:∀j i r,j∈c.aW->dx θ j=some i->nth rs' i=some r->nth Q j=some r:=by
  intro j i r z hi d;obtain⟨r0,ZC⟩:=cj (l:=Q) (i:=j) (by rw[UO];exact ae j z);obtain⟨i',B,C⟩:=bA j z r0 ZC;rw[hi]at B;injection B with B
  subst B;rw[d]at C;injection C with C
  rw[ZC,C]
 have hq:Ch (λk=>∃j,j∈M/\X j k) w w':=Ui.ch.mono λk ⟨j,z,I⟩=>by
  obtain⟨b,hb,Vv⟩:=nK hM j z;exact⟨b,hb,by rw[XW j b Vv]at I;exact I⟩
 have a6:∀i,i∈M->∀k,S i k->X i k\/w.heap.size<=k:=by
  intro i hi k I;obtain⟨j,z,S5⟩:=an i hi;rw[ah j i z S5]at I;have:=Ui.grow j z k I
  rwa[XW j i S5]at this
 have cc:(rs'++out.news).length=st.rs.length+out.news.length:=by rw[List.length_append,u1]
 have a7:∀i,st.rs.length<=i->i<(rs'++out.news).length->∀k,S i k->w.heap.size<=k:=by
  intro i B C k I;rw[aA i B]at I;exact Ui.new _ (by simp;omega) (by simp;omega) k I
 have TY:∀i,i<st.rs.length->i ∉ M->nth (rs'++out.news) i=nth st.rs i/\S i=X i:=λi hi hm=>⟨by rw[aP,if_pos (by omega)];exact u2 i hm,bC i hi hm⟩;have hinv:Inv w0 k0 X0 may (rs'++out.news) S w':=by
  refine hI.step M hq (λj z=>⟨⟨ZP j z,nO (cx.1 Sq j z)⟩,jc (cx.1 Sq j z)⟩) (by omega) TY ?_ a6 a7 ?_
  ·intro i hi r d;by_cases aa:i∈M
   ·obtain⟨j,z,S5⟩:=an i aa;rw[aP,if_pos (by have:=ZP i aa;omega)]at d;have B:=a5 j i r z S5 d;rw[ah j i z S5];exact Ui.sat.res j r (a4 j r z B)
   ·have hi:=hi.resolve_left aa;rw[aP,if_neg (by omega)]at d;rw[aA i hi];refine Ui.sat.res _ r ?_;rw[aP,if_neg (by omega)];rw[show c.res.length+(i - st.rs.length) - Q.length=i - rs'.length by omega];exact d
  ·intro i j hi z Sl B C TN k I;have key:∀i,(i∈M\/st.rs.length<=i)->i<(rs'++out.news).length->∃a,S i=Xl a/\a<(Q++out.news).length/\((i∈M/\a∈c.aW/\dx θ a=some i)\/(st.rs.length<=i/\a=c.res.length+(i - st.rs.length)))/\rwB (rs'++out.news) i=rwB (Q++out.news) a:=by
    intro i hi ck;by_cases aa:i∈M
    ·obtain⟨a,F,aC⟩:=an i aa;refine⟨a,ah a i F aC,by have:=ae a F;simp;omega,.inl ⟨aa,F,aC⟩,dW ?_⟩;obtain⟨r,d⟩:=cj (l:=rs') (i:=i) (by have:=ZP i aa;omega);rw[a4 a r F (a5 a i r F aC d),aP,if_pos (aX d),d]
    ·have hi:=hi.resolve_left aa;refine⟨_,aA i hi,by simp;omega,.inr ⟨hi,rfl⟩,dW ?_⟩;rw[aP,aP,if_neg (by omega),if_neg (by omega),show c.res.length+(i - st.rs.length) - Q.length=i - rs'.length by omega]
   obtain⟨a,ea,bF,ca,ra⟩:=key i hi B;obtain⟨b,eb,lb,cb,rb⟩:=key j z C;rw[ea]at I;rw[eb];refine Ui.sat.gX a b bF lb (λZ8=>?_) (by rw[<-ra,<-rb];exact TN) k I;subst Z8;rcases ca with⟨m1,m2,m3⟩|⟨m1,m2⟩<;>rcases cb with⟨n1,n2,n3⟩|⟨n1,n2⟩
   ·rw[m3]at n3;injection n3 with n3;exact Sl n3
   ·have:=ae a m2;omega
   ·have:=ae a n2;omega
   ·omega
 have hQ:=nI (λi r d=>⟨_,_,hinv.sat.res i r d⟩) hQ;refine⟨out.res,_,_,S,M,(xI ..).symm,hQ,Ui.kr.imp (λe=>by rw[e];rfl) Vh.knO,hinv,?_,rfl,ZP,λi hi=>jc (cx.1 Sq i hi),by simp only[];omega,TY,a6,a7,hq,λi a F=>by
  by_cases hi:i∈M
  ·obtain⟨b,hb,d⟩:=(u3 i hi).2 a F;exact⟨b,by rw[aP,if_pos (aX hb)];exact hb,d⟩
  ·exact⟨a,by rw[(TY i (aX F) hi).1];exact F,dH.refl a⟩,λi hi=>nO (cx.1 Sq i hi)⟩
 refine aG.app ?_ (aG.fE I (λi hi hm=>(TY i hi hm).1) λi hi a F=>?_)
 ·intro key k' Sk;obtain⟨i,i',o,k,⟨rfl,B⟩|⟨rfl,B⟩,C,G⟩:=kX Sk
  ·obtain⟨g,cs,T,v,e1,V,e3⟩:=Ui.kc _ k B (λ_ e=>by cases e);obtain⟨i2,r',f1,f2,f3⟩:=Vh i _ e1;rw[C]at f1;injection f1 with f1
   subst f1;rcases f3 with rfl|⟨_,_,_,_,_,_,_,W,_⟩
   ·exact⟨g,cs,T,v,f2,V,Vh.kn G e3⟩
   ·cases W
  ·obtain⟨t,r,s,e1,V⟩:=Ui.kc _ k B (λ_ e=>by cases e);obtain⟨i2,r',f1,f2,f3⟩:=Vh i _ e1;rw[C]at f1;injection f1 with f1
   subst f1;rcases f3 with rfl|⟨_,_,_,_,_,_,_,W,_⟩
   ·exact⟨t,r,s,f2,Vh.kn G V⟩
   ·cases W
 ·obtain⟨b,hb,d⟩:=(u3 i hi).2 a F;exact⟨b,by rw[aP,if_pos (aX hb)];exact hb,d⟩
theorem xP {f:Nat}{args:List Value}{b:List (Option Kn)}{st:St U}{K:eF U}{w0:World}{X0 X:Nat->Nat->Prop}{w:World}{fr:Fr}(d:∀f c,tbl.c f=some c->LV U P f c)(hI:Inv w0 k0 X0 may st.rs X w)(i:aG st.rs fr st.kn)
 (l:∀j v k,nth args j=some v->nth b j=some k->KnO st.rs v k)(h:call2 U tbl may k0 f args b st K):
 Calls P f ⟨args⟩ w λe w'=>∃v k st' o M,e=ln k v/\K v k st'/\(k=some .pan\/KnO st'.rs v k)/\eg w0 k0 X0 may fr st X w st' o w' M:=xQ (R:=Calls P f) (λh k=>h.mono k) (λc p=>d f c p) hI i l h
end
end
section
section
variable {U:Uni}{P:Program}{tbl:Tb U}{may:List Nat}{k0:Nat}
variable {w0:World}{X0 X:Nat->Nat->Prop}{w:World}{fr:Fr}{st:St U}{Qp:Option (List PanicEntry->World->Prop)}
theorem yO:∀ {vs:List Value}{F:Prop},(∀v,v∈vs->one? v True)->F->n8 vs F
 | [],_,_,h=>h
 | v::r,F,b,h=>by
  have d:=pY (b v (List.mem_cons_self ..));have i:=yO (F:=F) (λu hu=>b u (List.mem_cons_of_mem _ hu)) h;unfold n8 one?;cases v<;>first|exact i|exact absurd rfl (d.2.1 _)|exact absurd rfl (d.2.2 _)
theorem pO(hI:Inv w0 k0 X0 may st.rs X w)(l:aG st.rs fr st.kn){i:Nat}{a b:Res U}(t:nth st.rs i=some a)(o:lq may k0 st.rs i=true){w':World}(q:Ch (X i) w w')(u:dH a b)(hb:RS (X i) w' b){kn':List (Key×Kn)}(v:aG (cf st.rs i b) fr kn'):
 eg w0 k0 X0 may fr st X w ⟨cf st.rs i b,kn',i::st.md⟩ X w' [i]:=by
 have hi:=aX t;have hinv:=hI.set hi (nO o) (jc o) q hb (λk l=>.inl l);have e:j1 X i (X i)=X:=by
  funext j;unfold j1;split
  ·rename_i h;rw[h]
  ·rfl
 rw[e]at hinv;exact⟨hinv,v,rfl,λj d=>by simp at d;subst d;exact hi,λj d=>by simp at d;subst d;exact jc o,by simp,λj d p=>⟨by rw[bD,if_neg (λr=>p (by simp[r.1]))],rfl⟩,λ_ _ _ h=>.inl h,λj y x=>by simp at x;omega,q.mono λk l=>⟨i,by simp,l⟩,λj c d=>by
  by_cases p:j=i
  ·subst p;rw[t]at d;injection d with d
   subst d;exact⟨b,by rw[bD,if_pos ⟨rfl,hi⟩],u⟩
  ·exact⟨c,by rw[bD,if_neg (λr=>p r.1)];exact d,dH.refl c⟩,λj d=>by simp at d;subst d;exact nO o⟩
theorem qT(hI:Inv w0 k0 X0 may st.rs X w)(b:aG st.rs fr st.kn){r:Res U}{Z:Nat->Prop}{w':World}(q:Pu w w')(p:RS Z w' r)(l:∀k,Z k->w.heap.size<=k){kn':List (Key×Kn)}(t:aG (st.rs++ [r]) fr kn'):
 eg w0 k0 X0 may fr st X w ⟨st.rs++ [r],kn',st.md⟩ (j1 X st.rs.length Z) w' []:=
 ⟨hI.more q p l,t,rfl,λj d=>(by cases d),λj d=>(by cases d),by simp,λi hi _=>⟨by rw[aP,if_pos hi],gx _ _ (by omega)⟩,λi hi=>(by cases hi),λi v u k b=>by
  simp at u;obtain rfl:i=st.rs.length:=by omega
  rw[updX_eq]at b;exact l k b,q.mono λk h=>h.elim,λi a o=>⟨a,by rw[aP,if_pos (aX o)];exact o,dH.refl a⟩,λi hi=>(by cases hi)⟩
theorem tx(b:aG st.rs fr st.kn)(r:Res U):aG (st.rs++ [r]) fr st.kn:=
 b.ij (M:= []) (λi hi _=>by rw[aP,if_pos hi]) (λi hi=>by cases hi) λkey k h=>⟨h,λp _=>.inl (by simp),λid off _=>.inl (by simp)⟩
theorem Blk.rs {g:Nat}{cs:Array Value}{T:TypeId}{w':World}(h:Blk w' g cs T):RS (U:=U) (λk=>k=g) w' (.blk g cs.toList T):=⟨rfl,λ_ h=>h,h⟩
theorem mr {α:Type}(vs L:List α)(off:Nat)(h:off+vs.length<=L.length):g9 L off vs=L.take off++vs++L.drop (off+vs.length):=by
 apply List.ext_getElem?;intro j;rw[<-aM,nH _ _ _ _ h,List.append_assoc];by_cases b:off<=j/\j<off+vs.length
 ·rw[if_pos b,List.getElem?_append_right (by simp;omega),List.getElem?_append_left (by simp;omega),aM];congr 1;simp;omega
 ·rw[if_neg b,aM];by_cases d:j<off
  ·rw[List.getElem?_append_left (by simp;omega),List.getElem?_take,if_pos d]
  ·rw[List.getElem?_append_right (by simp;omega),List.getElem?_append_right (by simp;omega),List.getElem?_drop];congr 1;simp;omega
theorem jD.cells {rs:List (Res U)}{v:Value}{k:Kn}(h:jD rs v k)(i:∀l,k≠ .ag l):v.cells= #[v]:=by
 cases k with
 |pan=>exact h.elim
 |ag l=>exact absurd rfl (i l)
 | p k=>
  have h:cl U k (nth rs k.id)=some v:=h;cases d:nth rs k.id with
  |none=>rw[d]at h;cases k<;>simp[cl]at h
  | some r=>
   rw[d]at h;cases k with
   |loc _ _=>cases r<;>simp only[cl,reduceCtorEq,Option.some.injEq]at h;subst h;rfl
   |obj _ _ _=>cases r<;>simp only[cl,reduceCtorEq,Option.some.injEq]at h;subst h;rfl
   | sl _ li=>
    simp only[cl]at h;split at h
    ·injection h with h;subst h;rfl
    ·cases h
   | el _ li _ _=>
    simp only[cl]at h;split at h
    ·split at h
     ·injection h with h;subst h;rfl
     ·cases h
    ·cases h
 |w k n=>obtain⟨a,c,_,rfl⟩:=h;rfl
 |t l=>obtain⟨vs,rfl,_⟩:=h;rfl
 |f a b=>obtain⟨f,fs,cs,rfl,_,_⟩:=h;rfl
theorem oZ {id:Nat}{key:Key}{q:Kn}:∀ {l:List (Option PK)}{o:Nat},(key,q)∈zd id o l->∃j p,key=.c id (o+j)/\q=.p p/\nth l j=some (some p)
 | [],_,h=>by cases h
 | none::l,o,h=>by
  obtain⟨j,p,b,d,i⟩:=oZ (l:=l) (o:=o+1) h;exact⟨j+1,p,by rw[b];congr 1;omega,d,i⟩
 | some p::l,o,h=>by
  rcases List.mem_cons.1 h with e|h
  ·injection e with e1 k
   exact⟨0,p,e1,k,rfl⟩
  ·obtain⟨j,p,b,d,i⟩:=oZ (l:=l) (o:=o+1) h;exact⟨j+1,p,by rw[b];congr 1;omega,d,i⟩
theorem sH {rs:List (Res U)}{v:Value}{ky:Option Kn}(d:KnO rs v ky){id off:Nat}{sc:Bool}{key:Key}{q:Kn}(h:(key,q)∈cellsOf id off sc ky):∃j u,key=.c id (off+j)/\nth v.cells.toList j=some u/\jD rs u q:=by
 have one:∀ {k:Kn},ky=some k->(∀l,k≠ .ag l)->(key,q)∈(match sc with|true=>[(Key.c id off,k)]|false=>[])->∃j u,key=.c id (off+j)/\nth v.cells.toList j=some u/\jD rs u q:=by
  intro k i o hm;subst i;split at hm
  ·simp only[List.mem_singleton,Prod.mk.injEq]at hm;obtain⟨rfl,rfl⟩:=hm;exact⟨0,v,rfl,by rw[jD.cells d o];rfl,d⟩
  ·cases hm
 cases ky with
 |none=>cases h
 | some k=>
  cases k with
  |pan=>cases h
  |w k n=>cases h
  | ag l=>
   obtain⟨j,p,r,x,y⟩:=oZ h;obtain⟨cs,rfl,z⟩:=d;obtain⟨u,hu,hd⟩:=z j p y;subst x;exact⟨j,u,r,by show nth cs.toList j=_;rw[aM];simpa using hu,hd⟩
  |p p=>exact one rfl (λl e=>by cases e) h
  |t l=>exact one rfl (λl e=>by cases e) h
  |f a b=>exact one rfl (λl e=>by cases e) h
theorem aG.roots {rs rs':List (Res U)}{fr:Fr}{kn:List (Key×Kn)}(h:aG rs fr kn)(d:∀i a,nth rs i=some a->∃b,nth rs' i=some b/\(a=b\/∃t own T A c l l',a=.lst t own T A c l/\b=.lst t own T A c l'/\l'.length=l.length)):aG rs' fr kn:=by
 have hd:∀p u,den U rs p=some u->den U rs' p=some u:=by
  intro p u hu;unfold den at hu ⊢;cases j:nth rs p.id with
  |none=>rw[j]at hu;cases p<;>simp[cl]at hu
  | some a=>
   rw[j]at hu;obtain⟨b,hb,rfl|⟨t,own,T,A,c,l,l',rfl,rfl,y⟩⟩:=d _ _ j
   ·rw[hb];exact hu
   ·rw[hb,<-hu];cases p<;>simp only[cl,iu,y]
 intro key k z;have o:=h key k z;cases key with
 |s i=>exact jD.mono o λp _=>hd p
 | c id off=>
  obtain⟨g,cs,T,v,e1,q,B⟩:=o;obtain⟨b,hb,rfl|⟨_,_,_,_,_,_,_,x,_⟩⟩:=d _ _ e1
  ·exact⟨g,cs,T,v,hb,q,B.mono λp _=>hd p⟩
  ·cases x
 | l id path=>
  obtain⟨t,r,s,e1,q⟩:=o;obtain⟨b,hb,rfl|⟨_,_,_,_,_,_,_,x,_⟩⟩:=d _ _ e1
  ·exact⟨t,r,s,hb,q.mono λp _=>hd p⟩
  ·cases x
theorem jF {t:TypeId}{x y:Operand}{p:Addr}{fr:Fr}{dst:Option Tmp}{ty:TypeId}{pos:String}{after:Array Edge}{gd:Option (Nat×Bool)}{Y:Bool}{K:aV}(k:ev fr x=.pointer (some p))(b:Lk P t=false)(d:Nat.beq (ev fr y).cells.toList.length (aZ P t)=true)(i:hasType P t=true)
 (j:∀v,v∈(ev fr y).cells.toList->one? v True)(h:aB w p (ev fr y).cells.toList λw'=>K undef w'):opW P Y Qp ⟨dst,.store t x y,ty,pos,after,gd⟩ (ev fr) w K:=by
 refine E5 (C:= []) rfl ?_;show(match ev fr x with
  | .pointer a=>match ej P t with
   | .row n=>(match hasType P t && Nat.beq n (aZ P t),ev fr y with
    |true,.agg cs=>aF a λp=>cs.size=n/\(∀v∈cs.toList,one? v True)/\aB w p cs.toList λw'=>K undef w'
    |_,_=>False)
   | _=>match Nat.beq (ev fr y).cells.toList.length (aZ P t) && hasType P t with
    |true=>aF a λp=>n8 (ev fr y).cells.toList (aB w p (ev fr y).cells.toList λw'=>K undef w')
    |false=>False
  |_=>False)
 rw[k];unfold Lk at b;cases hs:ej P t with
 |row n=>rw[hs]at b;cases b
 |one s=>simp only[d,i];exact au p rfl (yO j h)
 |agg l=>simp only[d,i];exact au p rfl (yO j h)
theorem step_done {K:eF U}{st':St U}{b:Nat->Nat->Prop}{w':World}{M l:List Nat}{v:Value}{k:Option Kn}(hs:eg w0 k0 X0 may fr st X w st' b w' M)(j:KnO st'.rs v k)(h:nmL st'.rs l λd=>K v k ⟨d,st'.kn,st'.md⟩):
 ∃k st' b M,K v k st'/\KnO st'.rs v k/\eg w0 k0 X0 may fr st X w st' b w' M:=
 ⟨k,st',b,M,nI (F:=λd=>K v k ⟨d,st'.kn,st'.md⟩) (λi r o=>⟨_,_,hs.inv.sat.res i r o⟩) h,j,hs⟩
theorem rf {tt:Nat}{r:Nat->Nat}{s s':U.ty tt}{id:Nat}{u:Value}{K:eF U}(hI:Inv w0 k0 X0 may st.rs X w)(h:aG st.rs fr st.kn)(d:nth st.rs id=some (.ob tt r s))(j:lq may k0 st.rs id=true){w2:World}(hq:Ch (X id) w w2)(l:U.pred tt r s' (X id) w2)
 (o:nmL (cf st.rs id (.ob tt r s')) [id] λp=>K u none ⟨p,fE [id] st.kn,id::st.md⟩):
 ∃k st' q M,K u k st'/\KnO st'.rs u k/\eg w0 k0 X0 may fr st X w st' q w2 M:=by
 refine step_done (k:=none) (st':=⟨cf st.rs id (.ob tt r s'),fE [id] st.kn,id::st.md⟩) (pO hI h d j hq (.ob tt r s s') l ?_) trivial o;refine h.fE (M:= [id]) (λi _ hi=>by rw[bD,if_neg (λt=>hi (by simp[t.1]))]) λi hi a b=>?_;simp only[List.mem_singleton]at hi;subst hi;rw[d]at b;injection b with b
 subst b;exact⟨_,by rw[bD,if_pos ⟨rfl,aX d⟩],.ob tt r s s'⟩
theorem CH {t:TypeId}{x y:Operand}{p:Addr}{n:Nat}{cs:Array Value}{fr:Fr}{dst:Option Tmp}{ty:TypeId}{pos:String}{after:Array Edge}{gd:Option (Nat×Bool)}{Y:Bool}{K:aV}(b:ev fr x=.pointer (some p))(d:ej P t=.row n)(i:ev fr y=.agg cs)(j:Nat.beq n (aZ P t)=true)(k:cs.size=n)(l:hasType P t=true)
 (o:∀v,v∈cs.toList->one? v True)(h:aB w p cs.toList λw'=>K undef w'):opW P Y Qp ⟨dst,.store t x y,ty,pos,after,gd⟩ (ev fr) w K:=by
 refine E5 (C:= []) rfl ?_;show(match ev fr x with
  | .pointer a=>match ej P t with
   | .row n=>(match hasType P t && Nat.beq n (aZ P t),ev fr y with
    |true,.agg cs=>aF a λp=>cs.size=n/\(∀v∈cs.toList,one? v True)/\aB w p cs.toList λw'=>K undef w'
    |_,_=>False)
   | _=>match Nat.beq (ev fr y).cells.toList.length (aZ P t) && hasType P t with
    |true=>aF a λp=>n8 (ev fr y).cells.toList (aB w p (ev fr y).cells.toList λw'=>K undef w')
    |false=>False
  |_=>False)
 rw[b,d,i];simp only[l,j,Bool.and_self];exact au p rfl ⟨k,o,h⟩
theorem Ad {t:TypeId}{x y:Operand}{K:eF U}(hI:Inv w0 k0 X0 may st.rs X w)(d:aG st.rs fr st.kn)(h:yy U P may k0 t (kf st.kn x) (ev fr y) st K){Y:Bool}{dst:Option Tmp}{ty:TypeId}{pos:String}{after:Array Edge}{gd:Option (Nat×Bool)}:
 opW P Y Qp ⟨dst,.store t x y,ty,pos,after,gd⟩ (ev fr) w λv w'=>∃k st' j M,K v k st'/\KnO st'.rs v k/\eg w0 k0 X0 may fr st X w st' j w' M:=by
 unfold yy at h;have i:=d.kf x;split at h
 ·rename_i n id path off cs l o q;rw[o]at i;split at h
  ·rename_i tt r s hb b u;obtain⟨h,z⟩:=fG h;simp only[Bool.and_eq_true]at hb;split at h
   ·rename_i c s' A;obtain⟨B,C⟩:=h;have hd:den U st.rs (.obj id path off)=some (ev fr x):=i;simp only[den,PK.id,b,cl,Option.some.injEq]at hd;have hp:U.pred tt r s (X id) w:=hI.sat.res id _ b;exact CH (p:=⟨r path,off,none⟩) hd.symm l q hb.2.1 (by have:=Nat.eq_of_beq_eq_true hb.2.2;simpa using this) hb.1 z (U.od hp A B λw2 F hq=>rf hI d b u hq F C)
   ·exact h.elim
  ·exact h.elim
 ·exact h.elim
theorem FB {v:Value}{ky:Option Kn}{sc:Bool}{id off g n:Nat}{cs:List Value}{T:TypeId}{u:Value}{K:eF U}(hI:Inv w0 k0 X0 may st.rs X w)(F:aG st.rs fr st.kn)(V:KnO st.rs v ky)(d:nth st.rs id=some (.blk g cs T))(W:lq may k0 st.rs id=true)(TM:v.cells.toList.length=n)(hb:off+n<=cs.length){w2:World}(hs:cp w g (setAt ⟨cs⟩ off v.cells.toList) T w2)
 (h:K u none ⟨cf st.rs id (.blk g (g9 cs off v.cells.toList) T),cellsOf id off sc ky++dO (λa _=>!(a.tz id off n)) st.kn,id::st.md⟩):
 ∃k st' X' M,K u k st'/\KnO st'.rs u k/\eg w0 k0 X0 may fr st X w st' X' w2 M:=by
 obtain⟨G,hX,XI⟩:=hI.sat.res id _ d;rw[sk]at hs;have q:Ch (X id) w w2:=(cp.ch hs).mono λk e=>e▸G;refine⟨none,_,X,[id],h,trivial,pO hI F d W q (.blk g cs (g9 cs off v.cells.toList) T (by simp)) (show RS (X id) w2 (.blk g (g9 cs off v.cells.toList) T)from⟨G,hX,hs.blk⟩) ?_⟩;have H:∀i,i∈ [id]->∀a,nth st.rs i=some a->∃b,nth (cf st.rs id (.blk g (g9 cs off v.cells.toList) T)) i=some b/\dH a b:=by
  intro i hi a B;simp at hi;subst hi;rw[d]at B;injection B with B
  subst B;exact⟨_,by rw[bD,if_pos ⟨rfl,aX d⟩],.blk _ _ _ _ (by simp)⟩
 have I:∀i,i<st.rs.length->i ∉ [id]->nth (cf st.rs id (.blk g (g9 cs off v.cells.toList) T)) i=nth st.rs i:=λi _ hi=>by rw[bD,if_neg (λhh=>hi (by simp[hh.1]))]
 have C:∀ {k:Kn}{v:Value},jD st.rs v k->∀p,k.has p->p.id ∉ [id]\/p.ofList p.id=false:=by
  intro k v r p hp;by_cases J:p.id=id
  ·right;cases ho:p.ofList p.id
   ·rfl
   ·exfalso;have aa:∃u,den U st.rs p=some u:=by
     cases k with
     |pan=>exact hp.elim
     |p k=>cases hp;exact⟨_,r⟩
     |w k n=>cases hp;obtain⟨a,c,h1,_⟩:=r;exact⟨_,h1⟩
     |t l=>obtain⟨j,x⟩:=hp;obtain⟨vs,_,z⟩:=r;obtain⟨u,_,hu⟩:=z j p x;exact⟨u,hu⟩
     |ag l=>obtain⟨j,x⟩:=hp;obtain⟨vs,_,z⟩:=r;obtain⟨u,_,hu⟩:=z j p x;exact⟨u,hu⟩
     | f a b=>
      obtain⟨f,fs,cs,_,_,z,O⟩:=r;rcases hp with⟨j,x⟩|⟨j,x⟩
      ·obtain⟨u,_,hu⟩:=z j p x;exact⟨u,hu⟩
      ·obtain⟨u,_,hu⟩:=O j p x;exact⟨u,hu⟩
    obtain⟨u,hu⟩:=aa;unfold den at hu;rw[J,d]at hu;cases p<;>simp_all[cl,PK.ofList,PK.id,iu]
  ·exact .inl (by simpa using J)
 refine aG.app ?_ (F.ij I H λkey k hm=>?_)
 ·intro key q hq;obtain⟨j,u0,rfl,Q,r⟩:=sH V hq;refine⟨g,_,T,u0,by rw[bD,if_pos ⟨rfl,aX d⟩],?_,r.mono λp hp u hu=>qm I H (C r p hp) hu⟩;have x:=aX Q;rw[nH _ _ _ _ (by omega),if_pos ⟨by omega,by omega⟩,show off+j - off=j by omega,Q]
 ·obtain⟨R,S⟩:=dK hm;have y:=F _ _ R;refine⟨R,?_,λab ae e=>?_⟩
  ·cases key with
   |s i=>exact C y
   |c i o=>obtain⟨_,_,_,_,_,_,y⟩:=y;exact C y
   |l i o=>obtain⟨_,_,_,_,y⟩:=y;exact C y
  ·subst e;by_cases hi:ab=id
   ·subst hi;right;obtain⟨g',af,T',v,e1,_⟩:=y;rw[d]at e1;injection e1 with e1
    injection e1 with e1 e2 e3
    subst e1;subst e2;subst e3;refine⟨g,cs,_,T,d,by rw[bD,if_pos ⟨rfl,aX d⟩],?_⟩;rw[nH _ _ _ _ (by omega),if_neg];simp only[Key.tz,Nat.beq_refl,Bool.true_and,Bool.not_eq_true',Bool.and_eq_false_iff]at S;rintro⟨z,O⟩;rcases S with A|A
    ·rw[Nat.ble_eq_true_of_le z]at A;cases A
    ·have:Nat.blt ae (off+n)=true:=by rw[Nat.blt_eq];omega
     rw[this]at A;cases A
   ·exact .inl (by simpa using hi)
theorem CI {t:TypeId}{x y:Operand}{K:eF U}(hI:Inv w0 k0 X0 may st.rs X w)(d:aG st.rs fr st.kn)(h:CJ U P may k0 t (kf st.kn x) (ev fr y) (kf st.kn y) st K){Y:Bool}{dst:Option Tmp}{ty:TypeId}{pos:String}{after:Array Edge}{gd:Option (Nat×Bool)}:
 opW P Y Qp ⟨dst,.store t x y,ty,pos,after,gd⟩ (ev fr) w λv w'=>∃k st' X' M,K v k st'/\KnO st'.rs v k/\eg w0 k0 X0 may fr st X w st' X' w' M:=by
 unfold CJ at h;split at h
 ·exact Ad hI d h
 split at h
 ·exact h.elim
 rename_i Ta;simp only[Bool.and_eq_true,Bool.not_eq_true']at Ta;obtain⟨Q,H,R⟩:=Ta;have B:(ev fr y).cells.toList.length=aZ P t:=Nat.eq_of_beq_eq_true H;have z:=d.kf x;have aa:=d.kf y;split at h
 ·rename_i id off I;rw[I]at z;split at h
  ·rename_i g cs T b q;split at h
   ·rename_i hb;obtain⟨h,u⟩:=fG h;have hb:off+aZ P t<=cs.length:=Nat.le_of_ble_eq_true hb;have hd:den U st.rs (.loc id off)=some (ev fr x):=z;simp only[den,PK.id,b,cl,Option.some.injEq]at hd;obtain⟨hg,hX,XI⟩:=hI.sat.res id _ b;refine jF hd.symm Q H R u ⟨g,off,⟨cs⟩,T,rfl,XI,by simpa[B]using hb,λw2 hs=>?_⟩;exact FB hI d aa b q B hb hs h
   ·exact h.elim
  ·exact h.elim
 ·rename_i id i off I;rw[I]at z;split at h
  ·rename_i tt T A c l b q;split at h
   ·rename_i hb;obtain⟨h,u⟩:=fG h;have hb:off+aZ P t<=(U.en tt).size:=Nat.le_of_ble_eq_true hb;obtain⟨C,V,F⟩:=dF h;have hd:den U st.rs (.el id 0 i off)=some (ev fr x):=z;simp only[den,PK.id,b,cl,iu]at hd;split at hd
    case isFalse=>cases hd
    rename_i hr;injection hd with hd
    obtain⟨ho,RV⟩:Own w (X id) T A l.length c l/\∀k,X id k->k<w.heap.size:=hI.sat.res id _ b;have ab:i.toNat<l.length:=by omega
    obtain⟨g,hA,hZ,af⟩:=ho.lt (by omega);have ah:=ho.len;have W:l[i.toNat]? =some (l.getD i.toNat (U.df tt)):=by rw[List.getD_eq_getElem?_getD,List.getElem?_eq_getElem (by omega)];rfl
    have Vi:=U.jn V;have ae:(U.en tt).enc (l.getD i.toNat (U.df tt))=enc (l.getD i.toNat (U.df tt)):=rfl;have hlen:(enc (l.getD i.toNat (U.df tt))).length=(U.en tt).size:=cE _;have Zx:enc C=(enc (l.getD i.toNat (U.df tt))).take off++(ev fr y).cells.toList++(enc (l.getD i.toNat (U.df tt))).drop (off+(ev fr y).cells.toList.length):=by
     show(U.en tt).enc C=_;rw[Vi,ae];exact mr _ _ _ (by rw[hlen,B];exact hb)
    refine jF (p:=elA U tt A i off) hd.symm Q H R u ?_;have G:=ho.st (p:=Addr.mk g 0 none) hA ab W (o:=off) (vs:=(ev fr y).cells.toList) (by rw[B];exact hb) Zx (K:=λw2=>∃k st' X' M,K undef k st'/\KnO st'.rs undef k/\eg w0 k0 X0 may fr st X w st' X' w2 M) (λw2 XS hq=>by
     refine step_done (k:=none) (st':=⟨cf st.rs id (.lst tt true T A c (l.set i.toNat C)),st.kn,id::st.md⟩) (pO hI d b q hq (.lst tt true T A A c c l (l.set i.toNat C)) (show RS (X id) w2 (.lst tt true T A c (l.set i.toNat C))from⟨by rw[List.length_set];exact XS,λk d=>Nat.lt_of_lt_of_le (RV k d) hq.size⟩) ?_) trivial F;refine d.roots λj a ha=>?_;by_cases hj:j=id
     ·subst hj;rw[b]at ha;injection ha with ha
      exact⟨_,by rw[bD,if_pos ⟨rfl,aX b⟩],.inr ⟨_,_,_,_,_,_,_,ha.symm,rfl,List.length_set ..⟩⟩
     ·exact⟨a,by rw[bD,if_neg (λhh=>hj hh.1)];exact ha,.inl rfl⟩)
    unfold elA;rw[hA];exact G
   ·exact h.elim
  ·rename_i tt r s b q;split at h
   ·rename_i L hL;split at h
    ·rename_i hb;obtain⟨h,u⟩:=fG h;have hb:off+aZ P t<=(U.en L.t).size:=Nat.le_of_ble_eq_true hb;obtain⟨C,V,h⟩:=dF h;split at h
     ·rename_i c s' G;obtain⟨J,F⟩:=h;have hd:den U st.rs (.el id 0 i off)=some (ev fr x):=z;simp only[den,PK.id,b,cl,iu,hL]at hd;split at hd
      case isFalse=>cases hd
      rename_i hr;injection hd with hd
      have hp:U.pred tt r s (X id) w:=hI.sat.res id _ b;have W:L.l[i.toNat]? =some (L.l.getD i.toNat (U.df L.t)):=by rw[List.getD_eq_getElem?_getD,List.getElem?_eq_getElem (by omega)];rfl
      have Vi:=U.jn V;have hlen:((U.en L.t).enc (L.l.getD i.toNat (U.df L.t))).length=(U.en L.t).size:=(U.en L.t).len _;have Zx:(U.en L.t).enc C=((U.en L.t).enc (L.l.getD i.toNat (U.df L.t))).take off++(ev fr y).cells.toList++((U.en L.t).enc (L.l.getD i.toNat (U.df L.t))).drop (off+(ev fr y).cells.toList.length):=by
       rw[Vi];exact mr _ _ _ (by rw[hlen,B];exact hb)
      refine jF (p:=elA U L.t L.A i off) hd.symm Q H R u ?_;exact U.pP hp hL W (by rw[B];exact hb) Zx G J λw2 O hq=>rf hI d b q hq O F
     ·exact h.elim
    ·exact h.elim
   ·exact h.elim
  ·exact h.elim
 ·rename_i id li i off I;rw[I]at z;split at h
  ·rename_i tt r s b q;split at h
   ·rename_i L hL;split at h
    ·rename_i hb;obtain⟨h,u⟩:=fG h;have hb:off+aZ P t<=(U.en L.t).size:=Nat.le_of_ble_eq_true hb;obtain⟨C,V,h⟩:=dF h;split at h
     ·rename_i c s' G;obtain⟨J,F⟩:=h;have hd:den U st.rs (.el id (li+1) i off)=some (ev fr x):=z;simp only[den,PK.id,b,cl,iu,hL]at hd;split at hd
      case isFalse=>cases hd
      rename_i hr;injection hd with hd
      have hp:U.pred tt r s (X id) w:=hI.sat.res id _ b;have W:L.l[i.toNat]? =some (L.l.getD i.toNat (U.df L.t)):=by rw[List.getD_eq_getElem?_getD,List.getElem?_eq_getElem (by omega)];rfl
      have Vi:=U.jn V;have hlen:((U.en L.t).enc (L.l.getD i.toNat (U.df L.t))).length=(U.en L.t).size:=(U.en L.t).len _;have Zx:(U.en L.t).enc C=((U.en L.t).enc (L.l.getD i.toNat (U.df L.t))).take off++(ev fr y).cells.toList++((U.en L.t).enc (L.l.getD i.toNat (U.df L.t))).drop (off+(ev fr y).cells.toList.length):=by
       rw[Vi];exact mr _ _ _ (by rw[hlen,B];exact hb)
      refine jF (p:=elA U L.t L.A i off) hd.symm Q H R u ?_;exact U.pP hp hL W (by rw[B];exact hb) Zx G J λw2 O hq=>rf hI d b q hq O F
     ·exact h.elim
    ·exact h.elim
   ·exact h.elim
  ·exact h.elim
 ·rename_i id path off I;rw[I]at z;split at h
  ·rename_i tt r s v b q S;obtain⟨h,u⟩:=fG h;split at h
   ·rename_i c s' G;obtain⟨J,F⟩:=h;have hd:den U st.rs (.obj id path off)=some (ev fr x):=z;simp only[den,PK.id,b,cl,Option.some.injEq]at hd;have hp:U.pred tt r s (X id) w:=hI.sat.res id _ b;rw[S]at B;refine jF (p:=⟨r path,off,none⟩) hd.symm Q H R (by rw[S];exact u) ?_;rw[S];exact U.sD hp G J λw2 O hq=>rf hI d b q hq O F
   ·exact h.elim
  ·rename_i tt r s v v2 vs b q S;obtain⟨h,u⟩:=fG h;split at h
   ·rename_i c s' G;obtain⟨J,F⟩:=h;have hd:den U st.rs (.obj id path off)=some (ev fr x):=z;simp only[den,PK.id,b,cl,Option.some.injEq]at hd;have hp:U.pred tt r s (X id) w:=hI.sat.res id _ b;refine jF (p:=⟨r path,off,none⟩) hd.symm Q H R (by rw[S];exact u) ?_;rw[S];exact U.od hp G J λw2 O hq=>rf hI d b q hq O F
   ·exact h.elim
  ·exact h.elim
 ·exact h.elim
theorem E7:∀(a n j:Nat),nth (upN a n) j=if j<n then some (a+j)else none
 |_,0,_=>rfl
 |a,n+1,0=>by simp[upN,nth]
 | a,n+1,j+1=>by
  simp only[upN,nth,E7 (a+1) n j,Nat.add_lt_add_iff_right];rw[show a+1+j=a+(j+1)by omega]
theorem LR {α:Type}(E:Enc α)(h:E.size=1)(x:α):(E.enc x)[0]? =some (hd1 (E.enc x)):=by
 have:=E.len x;rw[h]at this
 match b:E.enc x,this with
 | [v],_=>rfl
theorem sK {tt:Nat}{Z:Nat->Prop}{A:Option Addr}{c n:Nat}{l:List (U.el tt)}{p:Addr}{w:World}(d:(U.en tt).size=1)(r:Rd w Z A l.length c l)(t:A=some p)(hle:n<=l.length){j:Nat}{u:Value}(b:(mZ U tt l 0 n)[j]? =some u):w.cell? (p.add j)=some u:=by
 unfold mZ at b;rw[<-aM,bx,E7]at b;split at b
 ·rename_i x;injection b with b
  obtain⟨y,v,h,k,_,o⟩:=r.ld (i:=(j:Int)) (by omega) (by omega);rw[t]at h;injection h with e
  subst e;rw[Int.toNat_natCast]at k o;have q:=o 0 (by show 0<(U.en tt).size;omega);rw[show(p.add (j*Enc.size (U.el tt))).add 0=p.add j by rw[add_add,Nat.add_zero];show p.add (j*(U.en tt).size)=_;rw[d,Nat.mul_one]]at q;rw[q,<-b];dsimp only;rw[Nat.zero_add,Nat.zero_add,List.getD_eq_getElem?_getD,k];exact LR (U.en tt) d v
 ·cases b
theorem H5 {k:Option Kn}{n:Nat}{F:List Value->Prop}{v:Value}(hS:Sat st.rs X w)(x:KnO st.rs v k)(h:NJ U k n st F):∃(b:Addr)(m d:Nat)(vs:List Value),v=.slice (some b) m d/\vs.length=Nat.min m n/\(∀j u,vs[j]? =some u->w.cell? (b.add j)=some u)/\F vs:=by
 have C:∀m,yR n m=Nat.min m n:=λm=>by
  show _=min m n;unfold yR;split
  ·rename_i h;have:=Nat.le_of_ble_eq_true h;omega
  ·rename_i h;have:¬n<=m:=λH=>by rw[Nat.ble_eq_true_of_le H]at h;cases h
   omega
 unfold NJ at h;split at h
 ·rename_i id off m;obtain⟨a,c,o,rfl⟩:=x;split at h
  ·rename_i g cs T q;split at h
   ·rename_i hb;have hb:=Nat.le_of_ble_eq_true hb;simp only[den,PK.id,q,cl,Option.some.injEq,Value.pointer.injEq]at o;obtain⟨S,V,I⟩:=hS.res id _ q;refine⟨a,m,c,_,rfl,?_,λj u t=>?_,h⟩
    ·rw[<-C,eH,fK];simp;omega
    ·rw[eH,fK,List.getElem?_take]at t;split at t
     ·rw[List.getElem?_drop]at t;rw[<-o,aY];exact I.cell (by simpa using t)
     ·cases t
   ·exact h.elim
  ·exact h.elim
 ·rename_i id path off m;obtain⟨a,c,o,rfl⟩:=x;split at h
  ·rename_i tt r s q;split at h
   ·rename_i cd cs hw;obtain⟨J,h⟩:=h;split at h
    ·rename_i hlen;have hlen:=Nat.eq_of_beq_eq_true hlen;simp only[den,PK.id,q,cl,Option.some.injEq,Value.pointer.injEq]at o;refine⟨a,m,c,_,rfl,by rw[hlen,C],λj u t=>?_,h⟩;rw[<-o,aY];exact(U.pC (hS.res id _ q) hw J).2 j u t
    ·exact h.elim
   ·exact h.elim
  ·exact h.elim
 ·rename_i id li;have x:den U st.rs (.sl id li)=some v:=x;split at h
  ·rename_i tt r s q;split at h
   ·rename_i L G;split at h
    ·rename_i o;have o:(U.en L.t).size=1:=Nat.eq_of_beq_eq_true o;obtain⟨⟨M,hle⟩,h⟩:=h;simp only[den,PK.id,q,cl,iu,G,Option.some.injEq]at x;have z:=U.oq (hS.res id _ q) G;obtain⟨p,y,B,O,_,Q⟩:=z.ld (i:=0) (by omega) (by omega);refine⟨p,_,_,_,by rw[<-x,B],?_,λj u t=>?_,h⟩
     ·unfold mZ;rw[uQ,fT];show _=min _ _;omega
     ·exact sK o z B hle t
    ·exact h.elim
   ·exact h.elim
  ·rename_i tt own T A c l q;split at h
   ·rename_i o;have o:(U.en tt).size=1:=Nat.eq_of_beq_eq_true o;obtain⟨⟨M,R⟩,h⟩:=h;have hm:=C c;have hm:yR n c=min c n:=hm;simp only[den,PK.id,q,cl,iu,Option.some.injEq]at x;have z:∃Z,Rd w Z A l.length c l:=by
     have:=hS.res id _ q;cases own
     ·exact⟨_,this⟩
     ·exact⟨_,this.1.rd⟩
    obtain⟨Z,z⟩:=z;obtain⟨p,y,B,O,_,Q⟩:=z.ld (i:=0) (by omega) (by omega);refine⟨p,_,_,_,by rw[<-x,B],?_,λj u t=>sK o z B (by omega) t,h⟩;unfold mZ;rw[uQ,fT,hm,R]
   ·exact h.elim
  ·exact h.elim
 ·exact h.elim
theorem JC {q:PK}{vs:List Value}{K:eF U}{a:Addr}(hI:Inv w0 k0 X0 may st.rs X w)(j:aG st.rs fr st.kn)(hq:den U st.rs q=some (.pointer (some a)))(h:OM U may k0 q vs st K):
 (∀v∈vs,one? v True)/\aB w a vs λw2=>∃k st' l M,K (.int .i64 vs.length) k st'/\KnO st'.rs (.int .i64 vs.length) k/\eg w0 k0 X0 may fr st X w st' l w2 M:=by
 unfold OM at h;split at h
 ·rename_i id off;split at h
  ·rename_i g cs T b d;split at h
   ·rename_i hb;have hb:=Nat.le_of_ble_eq_true hb;obtain⟨h,i⟩:=fG h;simp only[den,PK.id,b,cl,Option.some.injEq,Value.pointer.injEq]at hq;obtain⟨z,A,o⟩:=hI.sat.res id _ b;exact⟨i,g,off,⟨cs⟩,T,hq.symm,o,by simpa using hb,λw2 hs=>FB (v:=.agg ⟨vs⟩) (ky:=none) (sc:=false) hI j trivial b d rfl hb hs h⟩
   ·exact h.elim
  ·exact h.elim
 ·rename_i id path off;split at h
  ·rename_i tt r s b d;obtain⟨h,i⟩:=fG h;split at h
   ·rename_i c s' p;obtain⟨t,u⟩:=h;simp only[den,PK.id,b,cl,Option.some.injEq,Value.pointer.injEq]at hq;rw[<-hq];exact⟨i,U.od (hI.sat.res id _ b) p t λw2 x y=>rf hI j b d y x u⟩
   ·exact h.elim
  ·exact h.elim
 ·exact h.elim
theorem GP {x y:Operand}{t p:TypeId}{K:eF U}{Y:Bool}{dst:Option Tmp}{ty:TypeId}{pos:String}{after:Array Edge}{gd:Option (Nat×Bool)}(hI:Inv w0 k0 X0 may st.rs X w)(r:aG st.rs fr st.kn)(h:JO U P may k0 t (kf st.kn x) (kf st.kn y) st K):
 opW P Y Qp {dst:=dst,op:=.call {callee:=.builtin .copy,args:= #[x,y],argTypes:= #[t,p]},type:=ty,pos:=pos,after:=after,guard:=gd} (ev fr) w λv w'=>∃k st' B M,K v k st'/\KnO st'.rs v k/\eg w0 k0 X0 may fr st X w st' B w' M:=by
 unfold JO at h;have A:=r.kf x;have C:=r.kf y;split at h
 ·rename_i q n F l;rw[F]at A;obtain⟨a,c,hq,G⟩:=A;obtain⟨b,m,d,vs,H,hlen,I,h⟩:=H5 hI.sat C h;obtain⟨J,g,o,cs,T,z,hb,hle,O⟩:=JC hI r hq h;unfold slB at l;split at l
  ·rename_i e hu;split at l
   ·rename_i i hi;have hs:=Nat.eq_of_beq_eq_true l;subst z;have Q:=run_copy_cells (P:=P) w t p ty e g o n c b m d vs hu (by rw[hi];simp[hs]) hlen I
     (by
      intro j R;have:cs[o+j]? =some (cs[o+j]'(by omega)):=Array.getElem?_eq_getElem (by omega);rw[hb.cell this];rfl)
     (by
      intro j R;unfold Blk at hb;simp[World.frozen?,hb])
     (by
      intro u hu;obtain⟨_,z,hb⟩:=pY (J u hu);cases u<;>first|rfl|exact absurd rfl (z _)|exact absurd rfl (hb _))
    refine⟨rfl,?_⟩;rw[mm (s:=Builtin.copy_ #[t,p] ty #[.slice (some ⟨g,o,none⟩) n c,.slice (some b) m d]) (by simp[wu,G,H]) w Q];exact O _ (gy g T vs o w cs hb)
   ·cases l
  ·cases l
 ·exact h.elim
theorem GU {t:TypeId}{z:Value}(h:(P.info? t).bind (·.zero)=some z)(w:World):(Instr.alloc t true (.tuple #[])).run P w=.ok (.pointer (some ⟨w.heap.size,0,none⟩)) (w.alloc (.cells z.cells t)):=by
 cases hi:P.info? t with
 |none=>rw[hi]at h;cases h
 | some i=>
  rw[hi]at h;have h:i.zero=some z:=h;have b:(zeroValue t).run P w=.ok z w:=by
   unfold zeroValue;rw[Sem.run_bind,run_typeInfo (w:=w) hi,Result.andThen_ok,h];rfl
  unfold Instr.alloc;rw[Sem.run_bind,b,Result.andThen_ok];rfl
theorem Az {cs:List Value}{T:TypeId}{ck:Option Kn}{K:eF U}(hI:Inv w0 k0 X0 may st.rs X w)(b:aG st.rs fr st.kn){v0:Value}(o:KnO st.rs v0 ck)(l:ck=none\/v0.cells.toList=cs)(h:Lz U cs T ck st K):
 ∃k st' r M,K (.pointer (some ⟨w.heap.size,0,none⟩)) k st'/\KnO st'.rs (.pointer (some ⟨w.heap.size,0,none⟩)) k/\eg w0 k0 X0 may fr st X w st' r (w.alloc (.cells ⟨cs⟩ T)) M:=by
 have hm:Made w w.heap.size ⟨cs⟩ T (w.alloc (.cells ⟨cs⟩ T)):=made rfl rfl;unfold Lz at h;split at h
 ·rename_i t s v;have d:nth (st.rs++ [Res.ob t (λ_=>w.heap.size) s]) st.rs.length=some (.ob t (λ_=>w.heap.size) s):=by rw[aP,if_neg (by omega),Nat.sub_self];rfl
  refine step_done (qT hI b hm.pu (Z:=λk=>k=w.heap.size) (show RS (λk=>k=w.heap.size) _ (.ob t (λ_=>w.heap.size) s)from U.yQ v hm.blk) (λk e=>by rw[e];exact Nat.le_refl _) (tx b _)) ?_ (h w.heap.size);show den U _ (.obj _ 0 0)=_;simp only[den,PK.id,d,cl]
 have d:nth (st.rs++ [Res.blk w.heap.size cs T]) st.rs.length=some (.blk w.heap.size cs T):=by rw[aP,if_neg (by omega),Nat.sub_self];rfl
 refine⟨_,_,_,[],h w.heap.size,?_,qT hI b hm.pu (Z:=λk=>k=w.heap.size) (show RS (λk=>k=w.heap.size) _ (.blk w.heap.size cs T)from⟨rfl,λ_ h=>h,hm.blk⟩) (λk e=>by rw[e];exact Nat.le_refl _) (aG.app ?_ (tx b _))⟩
 ·show den U _ (.loc _ 0)=_;simp only[den,PK.id,d,cl]
 ·intro key q hq;obtain⟨j,u,rfl,hu,x⟩:=sH o hq;rcases l with rfl|l
  ·cases hq
  rw[l]at hu;rw[Nat.zero_add];exact⟨_,cs,T,u,d,hu,x.mono λp hp u hu=>qm (M:= []) (λi hi _=>by rw[aP,if_pos hi]) (λi hi=>by cases hi) (.inl (by simp)) hu⟩
theorem Bh {tt:Nat}:∀ {n:Nat}{cs:List Value}{l:List (U.el tt)},GN U tt n cs=some l->l.length=n/\l.flatMap enc=cs
 |0,[],l,h=>by simp only[GN,Option.some.injEq]at h;subst h;exact⟨rfl,rfl⟩
 |0,_::_,l,h=>by simp[GN]at h
 | n+1,cs,l,h=>by
  simp only[GN]at h;split at h
  ·rename_i x r b d;injection h with h
   subst h;obtain⟨i,j⟩:=Bh d;refine⟨by simp[i],?_⟩;have k:enc x=j4 (U.en tt).size cs:=U.jn b;rw[List.flatMap_cons,j,k,eH,fK,List.take_append_drop]
  ·cases h
theorem ug {t e:TypeId}{tt:Nat}{b:TypeInfo}{z:Value}(h:H6 U P t=some (e,tt,b,z)):SN P t e z (U.en tt).size b.bytes/\P.info? e=some b/\b.zero=some z/\b.size=(U.en tt).size/\0<b.bytes:=by
 unfold H6 at h;split at h
 ·rename_i p hu;split at h
  ·rename_i k i _ hi;split at h
   ·rename_i q j;split at h
    ·rename_i hb;simp only[Option.some.injEq,Prod.mk.injEq]at h;obtain⟨rfl,rfl,rfl,rfl⟩:=h;simp only[Bool.and_eq_true]at hb;have d:=Nat.eq_of_beq_eq_true hb.1;have l:=Nat.eq_of_beq_eq_true hb.2.1;have o:0<i.bytes:=by simpa[Nat.blt_eq]using hb.2.2
     exact⟨⟨hu,⟨i,hi,j,d,rfl⟩,by rw[<-d,<-l];simp,(U.en k).pos⟩,hi,j,d,o⟩
    ·cases h
   ·cases h
  ·cases h
 ·cases h
theorem H4 {tt:Nat}{x:Operand}{F:List (U.el tt)->Prop}(hS:Sat st.rs X w)(k:aG st.rs fr st.kn)(h:NI U tt (ev fr x) (kf st.kn x) st F):∃(l:List (U.el tt))(A:Option Addr)(c:Nat)(Y:Nat->Prop),ev fr x=.slice A l.length c/\Rd w Y A l.length c l/\F l:=by
 have b:=k.kf x;unfold NI at h;split at h
 ·rename_i id li o;rw[o]at b;have hd:den U st.rs (.sl id li)=some (ev fr x):=b;split at h
  ·rename_i r i;split at h
   ·rename_i L j;simp only[den,PK.id,i,cl,j,Option.some.injEq]at hd;split at h
    ·rename_i p;have q:=(hS.res id _ i).ls j;obtain⟨u,A,c,l⟩:=L;cases p;exact⟨l,A,c,_,hd.symm,q,h⟩
    ·exact h.elim
   ·exact h.elim
  ·exact h.elim
 ·split at h
  ·rename_i d t;exact⟨[],none,d,_,t,Rd.nil,h⟩
  ·exact h.elim
theorem AK {rs:List (Res U)}{r:Res U}:nth (rs++ [r]) rs.length=some r:=by rw[aP,if_neg (by omega),Nat.sub_self];rfl
theorem uJ {tt:Nat}{T:TypeId}{A:Option Addr}{c:Nat}{l:List (U.el tt)}{K:eF U}(hI:Inv w0 k0 X0 may st.rs X w)(b:aG st.rs fr st.kn){w':World}(q:Pu w w'){Z:Nat->Prop}(d:Own w' Z T A l.length c l)(i:∀k,Z k->w.heap.size<=k){v:Value}(j:v=.slice A l.length c)
 (h:nmL (st.rs++ [.lst tt true T A c l]) [st.rs.length] λo=>K v (some (.p (.sl st.rs.length 0))) ⟨o,st.kn,st.md⟩):
 ∃k st' p M,K v k st'/\KnO st'.rs v k/\eg w0 k0 X0 may fr st X w st' p w' M:=by
 refine step_done (st':=⟨st.rs++ [.lst tt true T A c l],st.kn,st.md⟩) (qT hI b q (Z:=λk=>Z k/\k<w'.heap.size) (show RS (λk=>Z k/\k<w'.heap.size) _ (.lst tt true T A c l)from⟨d.narrow,λk b=>b.2⟩) (λk b=>i k b.1) (tx b _)) ?_ h;show den U _ (.sl _ 0)=_;simp only[den,PK.id,AK,cl,iu,j]
theorem F5(hI:Inv w0 k0 X0 may st.rs X w){i:Nat}{a b:Res U}(r:nth st.rs i=some a)(l:lq may k0 st.rs i=true){w':World}(q:Ch (X i) w w')(u:dH a b){Z:Nat->Prop}(hb:RS Z w' b)(t:∀k,Z k->X i k\/w.heap.size<=k){kn':List (Key×Kn)}(v:aG (cf st.rs i b) fr kn'):
 eg w0 k0 X0 may fr st X w ⟨cf st.rs i b,kn',i::st.md⟩ (j1 X i Z) w' [i]:=by
 have hi:=aX r;exact⟨hI.set hi (nO l) (jc l) q hb t,v,rfl,λj d=>by simp at d;subst d;exact hi,λj d=>by simp at d;subst d;exact jc l,by simp,λj d h=>⟨by rw[bD,if_neg (λp=>h (by simp[p.1]))],gx _ _ (by simpa using h)⟩,λj d k o=>by
  simp at d;subst d;rw[updX_eq]at o;exact t k o,λj y x=>by simp at x;omega,q.mono λk o=>⟨i,by simp,o⟩,λj c d=>by
  by_cases h:j=i
  ·subst h;rw[r]at d;injection d with d
   subst d;exact⟨b,by rw[bD,if_pos ⟨rfl,hi⟩],u⟩
  ·exact⟨c,by rw[bD,if_neg (λp=>h p.1)];exact d,dH.refl c⟩,λj d=>by simp at d;subst d;exact nO l⟩
theorem Db {tt:Nat}{z:Value}{x:U.el tt}(d:enc x=z.cells.toList)(n:Nat):(List.replicate n x).flatMap enc=(madeCells z.cells (n*(U.en tt).size)).toList:=by
 have hs:z.cells.size=(U.en tt).size:=by have:=cE x;rw[d]at this;simpa using this
 have hp:0<Enc.size (U.el tt):=Enc.pos;apply List.ext_getElem?;intro j;by_cases b:j<n*Enc.size (U.el tt)
 ·have hq:j / Enc.size (U.el tt)<n:=(Nat.div_lt_iff_lt_mul hp).2 b;have h:j % Enc.size (U.el tt)<Enc.size (U.el tt):=Nat.mod_lt _ hp;have i:=flat_get (List.replicate n x) (j / Enc.size (U.el tt)) (j % Enc.size (U.el tt)) x (by rw[List.getElem?_replicate,if_pos hq]) h;have l:j / Enc.size (U.el tt)*Enc.size (U.el tt)+j % Enc.size (U.el tt)=j:=by rw[Nat.mul_comm];exact Nat.div_add_mod j _
  rw[l]at i;rw[i,d];have o:j<n*(U.en tt).size:=b;have k:j % (U.en tt).size<z.cells.size:=by rw[hs];exact h
  have e1:(madeCells z.cells (n*(U.en tt).size)).toList[j]? =some (z.cells[j % z.cells.size]!):=by
   simp[madeCells,o]
  rw[e1,hs];show z.cells.toList[j % (U.en tt).size]? =_;rw[Array.getElem?_toList,Array.getElem?_eq_getElem k,getElem!_pos z.cells _ k]
 ·rw[List.getElem?_eq_none (by rw[ek,List.length_replicate];omega),List.getElem?_eq_none (by rw[Array.length_toList,size_madeCells];exact Nat.le_of_not_lt b)]
def G9(fr:Fr)(w0:World)(k0:Nat)(X0:Nat->Nat->Prop)(may:List Nat)(st:St U)(X:Nat->Nat->Prop)(w:World)(K:eF U):Option (List PanicEntry->World->Prop):=
 some λch w'=>∃v st' b M,ch= [⟨v,false,false⟩]/\K v (some .pan) st'/\eg w0 k0 X0 may fr st X w st' b w' M
theorem IG {Y:Bool}{q:List PanicEntry->World->Prop}{o:Oper}{ρ:Operand->Value}{K:aV}(h:opW P Y (some q) o ρ w K)(hq:∀ch w',q ch w'->False):opW P Y none o ρ w K:=by
 refine⟨h.1,?_⟩;have b:=h.2;generalize (execOp ρ o).run P w=r at b ⊢;cases r with
 | ok nx w'=>
  cases nx<;>simp only[Out]at b ⊢
  case value v=>exact b
  case skip=>exact b
  case enter f args=>exact b.mono λe d he=>he.imp id fun⟨ch,_,b⟩=>(hq _ _ b).elim
  case round l f tmps assign body=>exact⟨b.1,b.2.mono λe d he=>he.imp id fun⟨ch,_,b⟩=>(hq _ _ b).elim⟩
 | halt x w'=>
  cases x<;>simp only[Out]at b ⊢
  exact(hq _ _ b).elim
theorem E0 {Y:Bool}{q q':List PanicEntry->World->Prop}{o:Oper}{ρ:Operand->Value}{K:aV}(h:opW P Y (some q) o ρ w K)(hq:∀ch w',q ch w'->q' ch w'):opW P Y (some q') o ρ w K:=by
 refine⟨h.1,?_⟩;have b:=h.2;generalize (execOp ρ o).run P w=r at b ⊢;cases r with
 | ok nx w'=>
  cases nx<;>simp only[Out]at b ⊢
  case value v=>exact b
  case skip=>exact b
  case enter f args=>exact b.mono λe i he=>he.imp id fun⟨ch,d,b⟩=>⟨ch,d,hq _ _ b⟩
  case round l f tmps assign body=>exact⟨b.1,b.2.mono λe i he=>he.imp id fun⟨ch,d,b⟩=>⟨ch,d,hq _ _ b⟩⟩
 | halt x w'=>
  cases x<;>simp only[Out]at b ⊢
  exact hq _ _ b
theorem uH {Y:Bool}{Qp:Option (List PanicEntry->World->Prop)}{o:Oper}{ρ:Operand->Value}{K j:aV}(h:opW P Y Qp o ρ w K)(d:∀v w',K v w'->j v w'):opW P Y Qp o ρ w j:=by
 refine⟨h.1,?_⟩;have b:=h.2;generalize (execOp ρ o).run P w=r at b ⊢;cases r with
 | ok nx w'=>
  cases nx<;>simp only[Out]at b ⊢
  case value v=>exact d _ _ b
  case skip=>exact d _ _ b
  case enter f args=>exact b.mono λe k he=>he.imp (fun⟨v,i,b⟩=>⟨v,i,d _ _ b⟩) id
  case round l f tmps assign body=>exact⟨b.1,b.2.mono λe k he=>he.imp (fun⟨v,i,b⟩=>⟨v,i,d _ _ b⟩) id⟩
 | halt x w'=>
  cases x<;>simp only[Out]at b ⊢
  exact b
theorem Inv.MP {rs rs':List (Res U)}(h:Inv w0 k0 X0 may rs X w)(q:rs'.length<=rs.length)(he:∀i,i<rs'.length->nth rs' i=nth rs i)(d:k0<=rs'.length):Inv w0 k0 X0 may rs' X w:=
 ⟨⟨λi r b=>h.sat.res i r (by rw[<-he i (aX b)];exact b),λi j hi k l o=>h.sat.gX i j (by omega) (by omega) l (by rw[<-dW (he i hi),<-dW (he j k)];exact o)⟩,h.ch,h.old,λi p t=>h.new i p (by omega),d⟩
theorem EX {k:Option Kn}{B:Prop}(h:CU k False B):B:=by
 unfold CU at h;split at h
 ·exact h.elim
 ·exact h
theorem Ju:∀ {s:Sh}{F:Value->Prop},Qg s F->∃v,F v
 |.int _,_,⟨_,h⟩=>⟨_,h⟩
 |.bool,_,⟨_,h⟩=>⟨_,h⟩
 |.str,_,⟨_,h⟩=>⟨_,h⟩
 |.ptr,_,⟨_,h⟩=>⟨_,h⟩
 |.slice,_,⟨_,h⟩=>⟨_,h⟩
 |.map,_,⟨_,h⟩=>⟨_,h⟩
 |.val,_,⟨_,h⟩=>⟨_,h⟩
theorem EY {α:Type}{F:α->Prop}:∀ {l:List α},orL F l->∃a,F a
 | [a],h=>⟨a,h⟩
 | a::b::r,h=>by
  rcases h with h|h
  ·exact⟨a,h⟩
  ·exact EY (l:=b::r) h
theorem LM {args:List Operand}(i:aG st.rs fr st.kn):∀j v k,nth (aK (ev fr) args) j=some v->nth (aK (V.kf st.kn) args) j=some k->KnO st.rs v k:=by
 intro j v k b d;rw[bx]at b d;cases h:nth args j with
 |none=>rw[h]at b;cases b
 | some x=>
  rw[h]at b d;injection b with b
  injection d with d
  subst b;subst d;exact i.kf x
theorem I8 {rs:List (Res U)}{h i:List Value}{k1 l:List (Option Kn)}(p:h.length=k1.length)(q:∀j v k,nth h j=some v->nth k1 j=some k->KnO rs v k)(r:∀j v k,nth i j=some v->nth l j=some k->KnO rs v k):∀j v k,nth (h++i) j=some v->nth (k1++l) j=some k->KnO rs v k:=by
 intro j v k b d;rw[aP]at b d;by_cases o:j<h.length
 ·rw[if_pos o]at b;rw[if_pos (by omega)]at d;exact q j v k b d
 ·rw[if_neg o]at b;rw[if_neg (by omega),<-p]at d;exact r _ v k b d
theorem Nh {K:eF U}{Y:Bool}{dst:Option Tmp}{ty:TypeId}{pos:String}{after:Array Edge}{gd:Option (Nat×Bool)}{f:Operand}{args:Array Operand}{i:Array TypeId}{f':Nat}{first cap:Array Value}{l:List (Option Kn)}(o:∀f c,tbl.c f=some c->LV U P f c/\bE P f=true)(hI:Inv w0 k0 X0 may st.rs X w)(r:aG st.rs fr st.kn)(t:ev fr f=.func (.func f') first cap)
 (u:∀j v k,nth (first.toList++(aK (ev fr) args.toList++cap.toList)) j=some v->nth l j=some k->KnO st.rs v k)(h:call2 U tbl may k0 f' (first.toList++(aK (ev fr) args.toList++cap.toList)) l st K):
 opW P Y (G9 fr w0 k0 X0 may st X w K) {dst:=dst,op:=.call {callee:=.value f,args:=args,argTypes:=i},type:=ty,pos:=pos,after:=after,guard:=gd} (ev fr) w λv w'=>∃k st' b M,K v k st'/\KnO st'.rs v k/\eg w0 k0 X0 may fr st X w st' b w' M:=by
 have x:bE P f'=true:=by
  unfold call2 at h;split at h
  ·exact h.elim
  ·rename_i c y;exact(o f' c y).2
 refine⟨rfl,?_⟩;have z:=dL (P:=P) (C:= [f']) (f:=f') (by simp[eO,x]) (by simp) (first++args.map (ev fr)++cap) w;have A:(execOp (ev fr) {dst:=dst,op:=.call {callee:=.value f,args:=args,argTypes:=i},type:=ty,pos:=pos,after:=after,guard:=gd}).run P w=.ok (.enter f' (first++args.map (ev fr)++cap)) w:=by
  simp only[execOp,resolve,t,Deferred.ofValue];rw[Sem.run_bind];exact z
 rw[A];have B:(⟨first.toList++(aK (ev fr) args.toList++cap.toList)⟩:Array Value)=first++args.map (ev fr)++cap:=by
  apply Array.ext';simp[iY]
 have:=xP (λf c h=>(o f c h).1) hI r u h;rw[B]at this;refine this.mono λe w' hp=>?_;obtain⟨v,k,st',b,M,rfl,p,d,q⟩:=hp;rcases d with rfl|d
 ·exact .inr ⟨_,rfl,v,st',b,M,rfl,p,q⟩
 ·refine .inl ⟨v,?_,k,st',b,M,p,d,q⟩;cases k with
  |none=>rfl
  |some k=>cases k<;>first|rfl|exact d.elim
theorem Qr {K:eF U}{Y:Bool}{dst:Option Tmp}{ty:TypeId}{pos:String}{after:Array Edge}{gd:Option (Nat×Bool)}{x:Operand}{name:String}{args:Array Operand}{i:Array TypeId}{t:TypeId}{u:Value}{f':Nat}{l:List (Option Kn)}(o:∀f c,tbl.c f=some c->LV U P f c/\bE P f=true)(hI:Inv w0 k0 X0 may st.rs X w)(y:aG st.rs fr st.kn)(z:ev fr x=.iface t u)(hm:AE P t name=some f')
 (A:∀j v k,nth (u::aK (ev fr) args.toList) j=some v->nth l j=some k->KnO st.rs v k)(h:call2 U tbl may k0 f' (u::aK (ev fr) args.toList) l st K):
 opW P Y (G9 fr w0 k0 X0 may st X w K) {dst:=dst,op:=.call {callee:=.invoke x name,args:=args,argTypes:=i},type:=ty,pos:=pos,after:=after,guard:=gd} (ev fr) w λv w'=>∃k st' b M,K v k st'/\KnO st'.rs v k/\eg w0 k0 X0 may fr st X w st' b w' M:=by
 have B:bE P f'=true:=by
  unfold call2 at h;split at h
  ·exact h.elim
  ·rename_i c F;exact(o f' c F).2
 refine⟨rfl,?_⟩;have G:=dL (P:=P) (C:= [f']) (f:=f') (by simp[eO,B]) (by simp) (#[u]++args.map (ev fr)) w;have he:(#[ev fr x]++args.map (ev fr)).extract 1 (#[ev fr x]++args.map (ev fr)).size=args.map (ev fr):=by
  apply Array.ext';simp;exact List.take_of_length_le (by simp)
 have H:(execOp (ev fr) {dst:=dst,op:=.call {callee:=.invoke x name,args:=args,argTypes:=i},type:=ty,pos:=pos,after:=after,guard:=gd}).run P w=.ok (.enter f' (#[u]++args.map (ev fr))) w:=by
  simp only[execOp,resolve];rw[Sem.run_bind];show(invoke (.fn (.method name) #[]) (#[ev fr x]++args.map (ev fr))).run P w=_;have e0:(#[ev fr x]++args.map (ev fr))[0]? =some (.iface t u):=by rw[z,Array.getElem?_append_left (by simp)];rfl
  simp only[invoke,e0,he];simp only[callMethod];rw[Sem.run_bind];have hp:(program:Sem Program).run P w=.ok P w:=rfl;rw[hp];change Sem.run P (method (P.types.size+Made.depth) t u name>>=λp=>callFunc p.1 (#[p.2]++Array.map (ev fr) args)) w=_;rw[Sem.run_bind,xz hm];exact G
 rw[H];have I:(⟨u::aK (ev fr) args.toList⟩:Array Value)= #[u]++args.map (ev fr):=by
  apply Array.ext';simp[iY]
 have:=xP (λf c h=>(o f c h).1) hI y A h;rw[I]at this;refine this.mono λe w' hp=>?_;obtain⟨v,k,st',b,M,rfl,q,d,r⟩:=hp;rcases d with rfl|d
 ·exact .inr ⟨_,rfl,v,st',b,M,rfl,q,r⟩
 ·refine .inl ⟨v,?_,k,st',b,M,q,d,r⟩;cases k with
  |none=>rfl
  |some k=>cases k<;>first|rfl|exact d.elim
theorem Bs {K:eF U}{Y:Bool}{dst:Option Tmp}{ty:TypeId}{pos:String}{after:Array Edge}{gd:Option (Nat×Bool)}{f:Operand}{args:Array Operand}{C:Array TypeId}(F:∀f c,tbl.c f=some c->LV U P f c/\bE P f=true)(hI:Inv w0 k0 X0 may st.rs X w)(y:aG st.rs fr st.kn)
 (h:FA U tbl may k0 (ev fr f) (aK (ev fr) args.toList) (aK (V.kf st.kn) args.toList) st K):
 opW P Y (G9 fr w0 k0 X0 may st X w K) {dst:=dst,op:=.call {callee:=.value f,args:=args,argTypes:=C},type:=ty,pos:=pos,after:=after,guard:=gd} (ev fr) w λv w'=>∃k st' o M,K v k st'/\KnO st'.rs v k/\eg w0 k0 X0 may fr st X w st' o w' M:=by
 obtain⟨r,A,G⟩:=Ju h;obtain⟨⟨f',H,I⟩,b⟩:=EY A;dsimp only at b;split at b
 ·rename_i hd;simp only[Bool.and_eq_true]at hd;obtain⟨J,b⟩:=b;have B:∀ {l:List PK},gp (GK st.rs) l=true->∀j v k,nth (aK (dv st.rs) l) j=some v->nth (aK (λp=>some (Kn.p p)) l) j=some k->KnO st.rs v k:=by
   intro l q j v k d t;rw[bx]at d t;cases z:nth l j with
   |none=>rw[z]at d;cases d
   | some p=>
    rw[z]at d t;injection d with d
    injection t with t
    subst d;subst t;have:=cx.1 q p (jx z);unfold GK at this;show den U st.rs p=some (dv st.rs p);unfold dv;split at this
    ·rename_i u hu;rw[hu];rfl
    ·cases this
  refine uH (E0 (q':=λch w'=>∃v st' o M,ch= [⟨v,false,false⟩]/\K v (some .pan) st'/\eg w0 k0 X0 may fr st X w st' o w' M) (hq:=λch w' ⟨_,_,_,_,_,h,_⟩=>h.elim) (Nh (K:=_) (first:=⟨aK (dv st.rs) H⟩) (cap:=⟨aK (dv st.rs) I⟩) F hI y J (I8 (by simp) (B hd.1) (I8 (by simp) (LM y) (B hd.2))) b)) λv w' hp=>?_;obtain⟨k,st',o,M,x,R,g3⟩:=hp;have x:=EX x;split at x
  ·rename_i q;subst x;simp only[Bool.and_eq_true]at q;have l1:=Nat.eq_of_beq_eq_true q.1;have l2:=Nat.eq_of_beq_eq_true q.2;have O:M= []:=by
    have:=g3.md;rw[this,List.length_append]at l2;exact List.eq_nil_of_length_eq_zero (by omega)
   subst O;refine⟨none,st,o,[],G,trivial,g3.inv.MP (by omega) (λi hi=>(g3.same i hi (by simp)).1.symm) hI.len,y,rfl,λi hi=>(by cases hi),λi hi=>(by cases hi),Nat.le_refl _,λi hi _=>⟨rfl,(g3.same i hi (by simp)).2⟩,λi hi=>(by cases hi),λi A b=>by omega,g3.ch,λi a Q=>⟨a,Q,dH.refl a⟩,λi hi=>(by cases hi)⟩
  ·exact x.elim
 ·exact b.elim
theorem tu:∀ {rs:List (Res U)}{r:Nat->Nat}{l:List (Int×Value)},mpL U rs=some (r,l)->∃i t s,nth rs i=some (.ob t r s)/\U.mp t s=some l
 | [],r,l,h=>by cases h
 | .ob t r0 s::rs,r,l,h=>by
  simp only[mpL]at h;split at h
  ·rename_i m hm;simp only[Option.some.injEq,Prod.mk.injEq]at h;obtain⟨rfl,rfl⟩:=h;exact⟨0,t,s,rfl,hm⟩
  ·obtain⟨i,t,s,b,d⟩:=tu h;exact⟨i+1,t,s,b,d⟩
 | .blk .. ::rs,r,l,h=>by
  simp only[mpL]at h;obtain⟨i,t,s,b,d⟩:=tu h;exact⟨i+1,t,s,b,d⟩
 | .lst .. ::rs,r,l,h=>by
  simp only[mpL]at h;obtain⟨i,t,s,b,d⟩:=tu h;exact⟨i+1,t,s,b,d⟩
theorem cg {b:Bool}{x y:Prop}(h:split b x y)(hb:b=true):x:=(gK h).elim (·.2) λh=>by rw[hb]at h;cases h.1
theorem cA {b:Bool}{x y:Prop}(h:split b x y)(hb:b=false):y:=(gK h).elim (λh=>by rw[hb]at h;cases h.1) (·.2)
theorem Fc:∀ {l:List (Int×Value)}{i:Int}{z:Value}{F:Value->Bool->Prop},lkS l i z F->F ((lkF l i).getD z) (lkF l i).isSome
 | [],i,z,F,h=>h
 | (a,v)::r,i,z,F,h=>by
  unfold lkS at h;unfold lkF;by_cases e:i=a
  ·rw[if_pos e];exact cg h (decide_eq_true e)
  ·rw[if_neg e];exact Fc (cA h (decide_eq_false e))
theorem LF {T:TypeId}{z:Value}(h:lkT P T=some z)(w:World):∃K E,P.underlying T=some (.map K E)/\P.underlying K=some (.int .u32)/\(zeroValue E).run P w=.ok z w:=by
 unfold lkT at h;split at h
 ·rename_i K E b;split at h
  ·rename_i d;cases hi:P.info? E with
   |none=>rw[hi]at h;cases h
   | some i=>
    rw[hi]at h;exact⟨K,E,b,d,by simp[zeroValue,typeInfo,hi,show i.zero=some z from h]⟩
  ·cases h
 ·cases h
theorem IW {o:Oper}{K:eF U}{Y:Bool}(SS:∀f c,tbl.c f=some c->LV U P f c/\bE P f=true)(hI:Inv w0 k0 X0 may st.rs X w)(q:aG st.rs fr st.kn)(h:Oh U P tbl may k0 o (ev fr) st K):
 opW P Y (G9 fr w0 k0 X0 may st X w K) o (ev fr) w λv w'=>∃k st' X' M,K v k st'/\KnO st'.rs v k/\eg w0 k0 X0 may fr st X w st' X' w' M:=by
 obtain⟨dst,op,ty,pos,after,gd⟩:=o;cases op<;>simp only[Oh]at h<;>skip
 case panic x=>
  refine⟨rfl,?_⟩;split at h
  ·rename_i t v Q;have J:(execOp (ev fr) ⟨dst,.panic x,ty,pos,after,gd⟩).run P w=.halt (.panic (.iface t v)) w:=by
    simp[execOp,Q,Instr.panic,goPanic]
   rw[J];exact⟨_,st,X,[],rfl,h,hI,q,rfl,λi hi=>(by cases hi),λi hi=>(by cases hi),Nat.le_refl _,λ_ _ _=>⟨rfl,rfl⟩,λi hi=>(by cases hi),λi I O=>by omega,Ch.refl _ _,λi a G=>⟨a,G,dH.refl a⟩,λi hi=>(by cases hi)⟩
  ·exact h.elim
 case store t x y=>exact CI hI q h
 case alloc t=>
  split at h
  ·rename_i z W;refine⟨rfl,?_⟩;have J:(execOp (ev fr) ⟨dst,.alloc t,ty,pos,after,gd⟩).run P w=.ok (.value (.pointer (some ⟨w.heap.size,0,none⟩))) (w.alloc (.cells z.cells t)):=by
    simp[execOp,GU W]
   rw[J];exact Az hI q (v0:=undef) (ck:=none) trivial (.inl rfl) h
  ·exact h.elim
 case box t x=>
  refine⟨rfl,?_⟩;have J:(execOp (ev fr) ⟨dst,.box t x,ty,pos,after,gd⟩).run P w=.ok (.value (.pointer (some ⟨w.heap.size,0,none⟩))) (w.alloc (.cells (ev fr x).cells t)):=rfl;rw[J];exact Az hI q (q.kf x) (.inr rfl) h
 case call c=>
  obtain⟨ba,args,aN⟩:=c;simp only at h;split at h
  ·rename_i f;split at h
   ·exact Bs SS hI q h
   split at h
   ·rename_i f' first cap hf
    refine Nh SS hI q hf (λj v k F C=>?_) h
    ·
     have Vj:∀j v k,nth (aK (ev fr) args.toList) j=some v->nth (aK (V.kf st.kn) args.toList) j=some k->KnO st.rs v k:=by
      intro j v k I O;rw[bx]at I O;cases H:nth args.toList j with
      |none=>rw[H]at I;cases I
      | some x=>
       rw[H]at I O;injection I with I
       injection O with O
       subst I;subst O;exact q.kf x
     have a0:=q.kf f;have app:∀ {a1 a2:List Value}{k1 k2:List (Option Kn)},a1.length=k1.length->(∀j v k,nth a1 j=some v->nth k1 j=some k->KnO st.rs v k)->(∀j v k,nth a2 j=some v->nth k2 j=some k->KnO st.rs v k)->∀j v k,nth (a1++a2) j=some v->nth (k1++k2) j=some k->KnO st.rs v k:=by
      intro a1 a2 k1 k2 hl I O j v k F C;rw[aP]at F C;by_cases hc:j<a1.length
      ·rw[if_pos hc]at F;rw[if_pos (by omega)]at C;exact I j v k F C
      ·rw[if_neg hc]at F;rw[if_neg (by omega),<-hl]at C;exact O _ v k F C
     have pt:∀ {vs:Array Value}{l:List (Option PK)},(∀j k,nth l j=some (some k)->∃u,vs[j]? =some u/\den U st.rs k=some u)->∀j v k,nth vs.toList j=some v->nth (aK (λo:Option PK=>o.map Kn.p) l) j=some k->KnO st.rs v k:=by
      intro vs l R j v k F C;rw[bx]at C;cases H:nth l j with
      |none=>rw[H]at C;cases C
      | some o=>
       rw[H]at C;injection C with C
       subst C;cases o with
       |none=>exact trivial
       | some p=>
        obtain⟨u,hu,hd⟩:=R j p H;rw[aM]at F;simp at F;rw[hu]at F;injection F with F
        subst F;exact hd
     have no:∀ {vs:List Value},∀j v k,nth vs j=some v->nth (aK (λ_:Value=>(none:Option Kn)) vs) j=some k->KnO st.rs v k:=by
      intro vs j v k F C;rw[bx,F]at C;injection C with C
      subst C;exact trivial
     unfold Qe at C;split at C
     ·rename_i a b a5;rw[a5,hf]at a0;obtain⟨_,fs,cs,e,⟨WY,V7⟩,h3,h4⟩:=a0;injection e with _ e1 e2
      subst e1;subst e2;exact app (by simp[WY]) (pt h3) (app (by simp) Vj (pt h4)) j v k F C
     ·exact app (by simp) no (app (by simp) Vj no) j v k F C
   ·exact h.elim
  ·rename_i x name;split at h
   ·rename_i t u Q;split at h
    ·rename_i f' hm;refine Qr SS hI q Q hm (λj v k F C=>?_) h;cases j with
     | zero=>
      simp only[nth,Option.some.injEq]at C;subst C;exact trivial
     | succ j=>
      simp only[nth]at F C;rw[bx]at F C;cases H:nth args.toList j with
      |none=>rw[H]at F;cases F
      | some y=>
       rw[H]at F C;injection F with F
       injection C with C
       subst F;subst C;exact q.kf y
    ·exact h.elim
   ·exact h.elim
  ·split at h
   ·rename_i x y t t' G ab;split at h
    ·rename_i e tt S z XC af;have af:=Nat.eq_of_beq_eq_true af;subst af;obtain⟨aa,hi,W,Sa,ah⟩:=ug XC;obtain⟨l2,B,d,Y2,hy,V6,h⟩:=H4 hI.sat q h;have an:args= #[x,y]:=by apply Array.ext';simpa using G
     have az:aN= #[t,t]:=by apply Array.ext';simpa using ab
     subst an;subst az;have key:∀ {A:Option Addr}{m c:Nat}{K':Value->World->Prop},ev fr x=.slice A m c->(∃(A':Option Addr)(n' c':Nat)(w2:World),(Builtin.append_ #[t,t] ty #[.slice A m c,.slice B l2.length d]:Sem Value).run P w=.ok (.slice A' n' c') w2/\K' (.slice A' n' c') w2)->
      opW P Y (G9 fr w0 k0 X0 may st X w K) {dst:=dst,op:=.call {callee:=.builtin .append,args:= #[x,y],argTypes:= #[t,t]},type:=ty,pos:=pos,after:=after,guard:=gd} (ev fr) w K':=by
      intro A m c K' Q R;obtain⟨A',n',c',w2,J,hK⟩:=R;refine⟨rfl,?_⟩;rw[mm (s:=Builtin.append_ #[t,t] ty #[.slice A m c,.slice B l2.length d]) (by simp[wu,Q,hy]) w J];exact hK
     split at h
     ·rename_i id S0;split at h
      ·rename_i ae T A0 c0 l H Sq;split at h
       ·rename_i hT;have hT:=Nat.eq_of_beq_eq_true hT;subst hT;split at h
        ·rename_i af;subst af;obtain⟨aA,h⟩:=h;have Tr:=q.kf x;rw[S0]at Tr;have hd:den U st.rs (.sl id 0)=some (ev fr x):=Tr;simp only[den,PK.id,H,cl,iu,Option.some.injEq]at hd;obtain⟨ho,RV⟩:Own w (X id) T A0 l.length c0 l/\∀k,X id k->k<w.heap.size:=hI.sat.res id _ H;have VP:l.length+l2.length<=9223372036854775807:=by
          have:=Nat.le_mul_of_pos_right (l.length+l2.length) ah;omega
         have fin:∀(A':Option Addr)(c':Nat)(w2:World)(Z:Nat->Prop),Own w2 Z T A' (l++l2).length c' (l++l2)->(∀k,Z k->X id k\/w.heap.size<=k)->Ch (X id) w w2->∃k st' X' M,K (.slice A' (l++l2).length c') k st'/\KnO st'.rs (.slice A' (l++l2).length c') k/\eg w0 k0 X0 may fr st X w st' X' w2 M:=by
          intro A' c' w2 Z XS a6 hq;have SY:dH (Res.lst ae true T A0 c0 l) (.lst ae true T A' c' (l++l2)):=.lst _ _ _ _ _ _ _ _ _;have ab:nth (cf st.rs id (Res.lst ae true T A' c' (l++l2))) id=some (.lst ae true T A' c' (l++l2)):=by rw[bD,if_pos ⟨rfl,aX H⟩]
          refine step_done (st':=⟨cf st.rs id (.lst ae true T A' c' (l++l2)),fE [id] st.kn,id::st.md⟩) (k:=some (.p (.sl id 0))) (F5 hI H Sq hq SY (Z:=λk=>Z k/\k<w2.heap.size) (show RS _ w2 (.lst ae true T A' c' (l++l2))from⟨XS.narrow,λk q=>q.2⟩) (λk q=>a6 k q.1) ?_) ?_ (h A' c')
          rotate_left
          ·show den U _ (.sl id 0)=_;simp only[den,PK.id,ab,cl,iu]
          ·refine q.fE (M:= [id]) (λi _ hi=>by rw[bD,if_neg (λR=>hi (by simp[R.1]))]) λi hi a G=>?_;simp at hi;subst hi;rw[H]at G;injection G with G
           subst G;exact⟨_,ab,SY⟩
         refine key hd.symm ?_;refine Own.apps (ho.mono (Y:=λk=>X id k\/w.heap.size<=k) λk q=>.inl q) aa V6 VP aA (.inr (Nat.le_refl _)) (λA' c' w2 XS hq=>?_) (λh0 hB=>?_)
         ·rw[<-List.length_append]at XS ⊢;refine fin A' c' w2 _ XS (λk q=>q) ⟨hq.kept.mono λk q=>⟨q.1,λR=>R.elim q.2 (λR=>absurd q.1 (Nat.not_lt.2 R))⟩⟩
         ·have V7:l2= []:=List.eq_nil_of_length_eq_zero h0;subst V7;refine⟨_,_,_,_,run_append_nothing w t t ty T S aa.und hi A0 l.length c0 ho.own.JW _ (Src.ofNil _ aa.und d),?_⟩;have:=fin A0 c0 w (X id) (by rw[List.append_nil];exact ho) (λk q=>.inl q) (Ch.refl _ _);rw[List.append_nil]at this;exact this
        ·exact h.elim
       ·exact h.elim
      ·exact h.elim
     ·split at h
      ·rename_i Q;obtain⟨aA,h⟩:=h;have VP:l2.length<=9223372036854775807:=by
        have:=Nat.le_mul_of_pos_right l2.length ah;omega
       refine key Q ?_;refine qw aa V6 VP aA λA' c' w2 XS hq=>?_;exact uJ hI q hq XS (λk q=>q.1) rfl (h A' c')
      ·exact h.elim
     ·exact h.elim
    ·exact h.elim
   ·exact h.elim
  ·split at h
   ·rename_i x y t t' G ab;have an:args= #[x,y]:=by apply Array.ext';simpa using G
    have az:aN= #[t,t']:=by apply Array.ext';simpa using ab
    subst an;subst az;exact GP hI q h
   ·exact h.elim
  ·exact h.elim
 case buildSlice t len parts=>
  split at h
  ·rename_i e tt S z XC;obtain⟨aa,hi,W,Sa,ah⟩:=ug XC;split at h
   ·rename_i cells hf hb;split at h
    ·rename_i l hl;simp only[Bool.and_eq_true]at hb;have I:0<len:=by simpa[Nat.blt_eq]using hb.1
     have O:len*S.size<=16777216:=Nat.le_of_ble_eq_true hb.2;have a3:0<S.size:=by rw[Sa];exact(U.en tt).pos
     have bb:0<len*S.size:=Nat.mul_pos I a3;obtain⟨aC,a4⟩:=Bh hl;refine⟨rfl,?_⟩;have J:(execOp (ev fr) {dst:=dst,op:=.buildSlice t len parts,type:=ty,pos:=pos,after:=after,guard:=gd}).run P w=.ok (.value (.slice (some ⟨w.heap.size,0,none⟩) len len)) (w.alloc (.cells cells e)):=by
      have:=Go.run_buildSlice (P:=P) w t e len (parts.map fun(ix:Nat×Operand)=>(ix.1,ev fr ix.2)) cells S z aa.und hi W (by omega) (by omega) hf;simp only[execOp];rw[Sem.run_bind,this];rfl
     rw[J];have Ts:cells.size=len*(U.en tt).size:=by
      rw[<-Array.length_toList,<-a4,ek,aC]
     have Tf:=World.ownsRow_lit (base:=0) (e:=e) (size:=(U.en tt).size) w cells len (Nat.zero_le _) (by
      have:=Nat.le_mul_of_pos_right len a3;simp only[maxLen];omega) Ts
     refine uJ hI q (Z:=λk=>k=w.heap.size) (show Pu w (w.alloc (.cells cells e))from(made (w2:=w.alloc (.cells cells e)) rfl rfl).pu) ⟨⟨?_,λa G=>by injection G with G;rw[<-G]⟩,rfl⟩ (λk e=>by rw[e];exact Nat.le_refl _) (by rw[aC]) (h w.heap.size);rw[a4,aC];exact Tf
    ·exact h.elim
   ·exact h.elim
  ·exact h.elim
 case lookup T x ix ok=>
  cases ok with
  |false=>exact h.elim
  | true=>
   simp only at h;split at h
   ·rename_i g i z r l Q hi W hm;obtain⟨rfl,h⟩:=h;obtain⟨j,t,s,H,a7⟩:=tu hm;obtain⟨K,E,I,O,h3⟩:=LF W w;have J:=Gb I O h3 (U.AD (hI.sat.res j _ H) a7) i;refine⟨rfl,?_⟩;rw[mm (s:=Instr.lookup T (.map (some (r 0))) (.int .u32 i) true) (by simp[wu,Q,hi]) w J];exact⟨none,st,X,[],Fc h,trivial,hI,q,rfl,λi hi=>(by cases hi),λi hi=>(by cases hi),Nat.le_refl _,λ_ _ _=>⟨rfl,rfl⟩,λi hi=>(by cases hi),λi I O=>by omega,Ch.refl _ _,λi a G=>⟨a,G,dH.refl a⟩,λi hi=>(by cases hi)⟩
   ·exact h.elim
 case makeSlice t l c=>
  split at h
  ·rename_i a b e tt S z a8 a9 XC;obtain⟨aa,hi,W,Sa,ah⟩:=ug XC;split at h
   ·rename_i x Q;obtain⟨⟨rfl,h0,hb⟩,h⟩:=h;have VP:a<=9223372036854775807:=by
     have h9:(1:Int)*a<=(S.bytes:Int)*a:=Int.mul_le_mul_of_nonneg_right (by omega) h0;omega
    have J:=run_make (P:=P) w t e S z aa.und hi W .i64 .i64 a a h0 (Int.le_refl _) hb VP;refine⟨rfl,?_⟩;rw[mm (s:=Instr.makeSlice t (.int .i64 a) (.int .i64 a)) (by simp[wu,a8,a9]) w J];have S2:=Db (x:=x) (U.jn Q) a.toNat;have hlen:(List.replicate a.toNat x).length=a.toNat:=List.length_replicate;rw[Sa];have Tf:=World.ownsRow_lit (base:=0) (e:=e) (size:=(U.en tt).size) w (madeCells z.cells (a.toNat *(U.en tt).size)) a.toNat (Nat.zero_le _) (by simp only[maxLen];omega) (size_madeCells _ _);refine uJ hI q (Z:=λk=>k=w.heap.size) (l:=List.replicate a.toNat x) (c:=a.toNat) (T:=e) (A:=some ⟨w.heap.size,0,none⟩) ((made (w2:=w.alloc (.cells (madeCells z.cells (a.toNat *(U.en tt).size)) e)) rfl rfl).pu) ⟨⟨?_,λa G=>by injection G with G;rw[<-G]⟩,rfl⟩ (λk e=>by rw[e];exact Nat.le_refl _) (by rw[hlen]) ?_
    ·rw[S2,hlen];exact Tf
    ·have:=h w.heap.size;rw[hlen]at this;exact this
   ·exact h.elim
  ·exact h.elim
theorem E6 {o:Oper}{K:eF U}{Y:Bool}(l:∀f c,tbl.c f=some c->LV U P f c/\bE P f=true)(hI:Inv w0 k0 X0 may st.rs X w)(b:aG st.rs fr st.kn)(h:op2 U P tbl may k0 o (ev fr) st K):
 opW P Y (G9 fr w0 k0 X0 may st X w K) o (ev fr) w λv w'=>∃k st' p M,K v k st'/\KnO st'.rs v k/\eg w0 k0 X0 may fr st X w st' p w' M:=by
 unfold op2 at h;split at h
 ·exact IW l hI b h
 ·obtain⟨v,k,d,j,q⟩:=xD hI.sat b h;have r:=q w (Kept.refl _ _);refine⟨?_,?_⟩
  ·obtain⟨dst,op,ty,pos,after,gd⟩:=o;cases op<;>first|rfl|skip
   exact absurd (show sq P _ _ _ from h) (λt=>t.elim)
  ·rw[r];exact⟨k,st,X,[],d,j,hI,b,rfl,λi hi=>(by cases hi),λi hi=>(by cases hi),Nat.le_refl _,λ_ _ _=>⟨rfl,rfl⟩,λi hi=>(by cases hi),λi d j=>by omega,Ch.refl _ _,λi a u=>⟨a,u,dH.refl a⟩,λi hi=>(by cases hi)⟩
structure Steps(w0:World)(k0:Nat)(X0:Nat->Nat->Prop)(may:List Nat)(st:St U)(X:Nat->Nat->Prop)(st':St U)(X':Nat->Nat->Prop)(w':World):Prop where
 inv:Inv w0 k0 X0 may st'.rs X' w'
 len:st.rs.length<=st'.rs.length
 md:∃L,st'.md=L++st.md/\(∀i,i∈L->i∈may\/k0<=i)/\∀i,i<st.rs.length->i ∉ L->nth st'.rs i=nth st.rs i/\X' i=X i
 root:∀i a,nth st.rs i=some a->∃b,nth st'.rs i=some b/\dH a b
theorem Steps.refl(h:Inv w0 k0 X0 may st.rs X w):Steps w0 k0 X0 may st X st X w:=⟨h,Nat.le_refl _,⟨[],rfl,λi hi=>(by cases hi),λ_ _ _=>⟨rfl,rfl⟩⟩,λi a b=>⟨a,b,dH.refl a⟩⟩
theorem Steps.trans {j l:St U}{o p:Nat->Nat->Prop}{w1 w2:World}(h:Steps w0 k0 X0 may st X j o w1)(k:Steps w0 k0 X0 may j o l p w2):Steps w0 k0 X0 may st X l p w2:=by
 obtain⟨L,q,r,t⟩:=h.md;obtain⟨M,u,v,hm⟩:=k.md;exact⟨k.inv,Nat.le_trans h.len k.len,⟨M++L,by rw[u,q,List.append_assoc],λi hi=>(List.mem_append.1 hi).elim (v i) (r i),λi hi d=>by
  rw[List.mem_append,not_or]at d;obtain⟨e1,x⟩:=hm i (Nat.lt_of_lt_of_le hi h.len) d.1;obtain⟨y,z⟩:=t i hi d.2;exact⟨e1.trans y,x.trans z⟩⟩,λi a A=>by
  obtain⟨b,hb,B⟩:=h.root i a A;obtain⟨c,C,F⟩:=k.root i b hb;exact⟨c,C,B.trans F⟩⟩
theorem eg.steps {st':St U}{b:Nat->Nat->Prop}{w':World}{M:List Nat}(h:eg w0 k0 X0 may fr st X w st' b w' M):Steps w0 k0 X0 may st X st' b w':=⟨h.inv,h.len,⟨M,h.md,h.can,λi hi hm=>h.same i hi hm⟩,h.root⟩
theorem Steps.kn {st' j:St U}{k:Nat->Nat->Prop}{w':World}(h:Steps w0 k0 X0 may st X st' k w')(i:j.rs=st'.rs)(l:j.md=st'.md):Steps w0 k0 X0 may st X j k w':=by
 obtain⟨a,b,c,d⟩:=h;exact⟨by rw[i];exact a,by rw[i];exact b,by rw[i,l];exact c,by rw[i];exact d⟩
variable {n:Nat}{N:List Nat}{ops:Array Oper}
theorem jG {dst:Option Tmp}{v:Value}{F G:Fr->Prop}(h:kq n N fr dst v F)(b:∀j,F j->G j):kq n N fr dst v G:=by
 unfold kq at h ⊢;cases dst with
 |none=>exact b _ h
 | some d=>
  simp only at h ⊢;split at h
  ·split at h
   ·cases v with
    |int k x=>exact λz i=>b _ (h z i)
    |bool x=>exact λz i=>b _ (h z i)
    |_=>exact b _ h
   ·exact b _ h
  ·exact h.elim
def Aft(w0:World)(k0:Nat)(X0:Nat->Nat->Prop)(may:List Nat)(st:St U)(X:Nat->Nat->Prop)(ds:List Deferred)(K:Fr->St U->Prop)(b:Fr)(w':World):Prop:=∃st' d,Steps w0 k0 X0 may st X st' d w'/\aG st'.rs b st'.kn/\b.ds=ds/\K b st'
def HP(M:Fr->Oper->World->aV->Prop)(n:Nat)(N:List Nat)(ops:Array Oper)(K:Fr->World->Prop):List Oper->Fr->World->Prop
 | [],fr,w=>K fr w
 | o::rest,fr,w=>jl ops o fr
  (λfr=>M fr o w (λv w'=>kq n N fr o.dst v λb=>HP M n N ops K rest b w'))
  (λfr=>kq n N fr o.dst undef λb=>HP M n N ops K rest b w)
def oy(n:Nat)(ws:List Nat)(a0:Act)(Q:QF):Exit->Act->World->Prop
 |.outgrown,_,_=>False
 |x,a,w=>∃fr,Rep n fr a/\Q x fr w/\Agr ws a0 a
theorem oC {Qp:Fr->List PanicEntry->World->Prop}{K:Fr->World->Prop}{ws:List Nat}{a0:Act}{r:Option Nat}:
 ∀(l:List Oper),(∀o∈l,∀d,o.dst=some d->d∈ws)->∀(fr:Fr)(a:Act)(w:World),Rep n fr a->Agr ws a0 a->HP (λfr o w K=>opW P true (some (Qp fr)) o (ev fr) w K) n N ops K l fr w->
  wpListIn (WF r) 0 P ops (oy n ws a0 λx fr w=>match x with|.normal=>K fr w|.panic ch=>Qp fr ch w|_=>False) l a w
 | [],_,fr,a,w,j,b,h=>⟨fr,j,h,b⟩
 | o::rest,hd,fr,a,w,j,b,h=>by
  obtain⟨k,p,i⟩:=lK j h;simp only[wpListIn];rcases i with⟨hw,i⟩|⟨hw,i⟩
  ·rw[if_pos hw];refine EZ (K:=λk w'=>HP (λfr o w K=>opW P true (some (Qp fr)) o (ev fr) w K) n N ops K rest k w') p b (hd o (List.mem_cons_self ..)) i ?_ ?_
   ·intro q z w2 t u A;exact oC rest (λv y=>hd v (List.mem_cons_of_mem _ y)) q z w2 t u A
   ·intro ch w' hq;exact⟨k,p,hq,b⟩
  ·rw[if_neg (by rw[hw];simp)];obtain⟨q,t,u⟩:=iU p i;exact⟨lS,oC rest (λv y=>hd v (List.mem_cons_of_mem _ y)) q _ w t (b.trans (Agr.put a o.dst undef (hd o (List.mem_cons_self ..)))) u⟩
theorem Iy {k:Option Kn}{A B:Prop}{rs:List (Res U)}{v:Value}(h:CU k A B)(b:KnO rs v k):B:=by
 unfold CU at h;split at h
 ·exact b.elim
 ·exact h
theorem tV {K:Fr->St U->Prop}{F:List PanicEntry->Fr->St U->Prop}(p:∀f c,tbl.c f=some c->LV U P f c/\bE P f=true):∀(l:List Oper)(fr:Fr)(st0 st:St U)(b X:Nat->Nat->Prop)(w:World)(ds:List Deferred),Steps w0 k0 X0 may st0 b st X w->aG st.rs fr st.kn->fr.ds=ds->FW U P tbl may k0 n N ops K F l fr st->
 HP (λfr o w K=>opW P true (some λch w'=>Aft w0 k0 X0 may st0 b ds (F ch) fr w') o (ev fr) w K) n N ops (Aft w0 k0 X0 may st0 b ds K) l fr w
 | [],fr,st0,st,b,X,w,ds,hS,i,hd,h=>⟨st,X,hS,i,hd,h⟩
 | o::rest,fr,st0,st,b,X,w,ds,hS,i,hd,h=>by
  refine mR h (λH q j h=>?_) (λH q j h=>?_)
  ·have r:=i.same q;refine uH (E0 (E6 p hS.inv r h) ?_) λv w' hp=>?_
   ·rintro ch w' ⟨v,st',t,M,rfl,u,d⟩;exact⟨st',t,hS.trans d.steps,d.kn,by rw[j,hd],u⟩
   ·obtain⟨k,st',t,M,u,G,d⟩:=hp;refine jG (kO (Iy u G) d.kn G) λx hp=>?_;obtain⟨y,e1,z,A,B,C⟩:=hp;exact tV p rest x st0 y b t w' ds ((hS.trans d.steps).kn e1 z) (by rw[e1];exact A) (by rw[B,j,hd]) C
  ·have r:=i.same q;refine jG (kO h r trivial) λx hp=>?_;obtain⟨y,e1,z,A,B,C⟩:=hp;exact tV p rest x st0 y b X w ds (hS.kn e1 z) (by rw[e1];exact A) (by rw[B,j,hd]) C
theorem Inv.drew(h:Inv w0 k0 X0 may st.rs X w):Inv w0 k0 X0 may st.rs X w.drew:=h.pu (Pu.aU w)
structure BOk(V:List Nat)(rd:List (Nat×List Nat))(b:Nat->Nat->Prop)(rs:List (Res U))(X:Nat->Nat->Prop)(w:World):Prop where
 has:∀i id k,id∈sm i rd->id<rs.length->X id k->b i k
 all:∀i k,i∈V->b i k
 only:∀i k,i ∉ V->b i k->k<w.heap.size/\∀j,j<rs.length->rwB rs j=true->X j k->j∈sm i rd
end
end
end V
end Go.Proofs.YtjiflmkpbkeocaaGreatDoor
