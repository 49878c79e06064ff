/- SvcAll returns true for every input of bulk at most 1048576; each argument reads behind the call as it read before. -/
import Derived.Test.YtbcmefndjggkpaaGreatDoorD1
import Derived.Test.YtbcmefndjggkpaaGreatDoorProg
import Derived.KernelRfl
set_option linter.unusedVariables false
set_option linter.unusedSimpArgs false
set_option maxRecDepth 100000
set_option maxHeartbeats 1000000
namespace Go.Proofs.YtbcmefndjggkpaaGreatDoor
open Go.Proofs.Tryz (prog)
namespace V
open Go Go.RowKit
open Go.IntKind (i64 u32 u64 wrap_i64 wrap_u32)
open Enc (enc)
section
inductive CS where
 |v (s:Sh)|k (p:PK)
inductive RSh where
 |ob (t:Nat)|blk (l:List CS)|lst (t:Nat)
structure CC where
 live:List (Nat×Sh2)
 kns:List (Nat×Kn)
 wr:List Nat
 rsh:List (Nat×RSh)
inductive An where
 |leaf
 |two (l r:An)
 |node (ad:List (Key×Nat×TypeId))(cut:Option CC)(V:List Nat)(rd:List (Nat×List Nat))(l r:An)
abbrev An.r'(a:An):An:=.two .leaf a
def An.ad:An->List (Key×Nat×TypeId)
 |.node a _ _ _ _ _=>a
 |_=>[]
def An.cut:An->Option CC
 |.node _ c _ _ _ _=>c
 |_=>none
def An.V:An->List Nat
 |.node _ _ v _ _ _=>v
 |_=>[]
def An.rd:An->List (Nat×List Nat)
 |.node _ _ _ d _ _=>d
 |_=>[]
def An.l:An->An
 |.leaf=>.leaf
 |.two l _=>l
 |.node _ _ _ _ l _=>l
def An.r:An->An
 |.leaf=>.leaf
 |.two _ r=>r
 |.node _ _ _ _ _ r=>r
def SlT:List (Nat×Sh2)->Type->Type
 | [],T=>T
 |(_,s)::r,T=>Iw s (SlT r T)
def CST:List CS->Type->Type
 | [],T=>T
 |.v s::r,T=>ShT s (CST r T)
 |.k _::r,T=>CST r T
def B3(U:Uni):List (Nat×RSh)->Type->Type
 | [],T=>T
 |(_,.ob t)::r,T=>U.ty t->B3 U r T
 |(_,.blk l)::r,T=>CST l (B3 U r T)
 |(_,.lst t)::r,T=>Option Addr->Nat->List (U.el t)->B3 U r T
abbrev JT2(U:Uni)(c:CC):Type:=SlT c.live (B3 U c.rsh Prop)
def KS {T:Type}:(l:List (Nat×Sh2))->SlT l T->Fr->(T->Prop)->Prop
 | [],J,_,F=>F J
 |(s,sh)::r,J,fr,F=>BJ sh J (lk fr.g s fr.e) λb=>KS r b fr F
def CG {T:Type}(id:Nat)(kn:List (Key×Kn)):(l:List CS)->CST l T->Nat->List Value->(T->Prop)->Prop
 | [],J,_,[],F=>F J
 |.v s::r,J,i,v::vs,F=>Ic s J v λb=>CG id kn r b (i+1) vs F
 | .k p::r,J,i,_::vs,F=>match ef (.c id i) kn with
  | some q=>(match q.eq (.p p)with
   |true=>CG id kn r J (i+1) vs F
   |false=>False)
  |none=>False
 |_,_,_,_,_=>False
def sK {U:Uni}{T:Type}(rs:List (Res U))(kn:List (Key×Kn)):(l:List (Nat×RSh))->B3 U l T->(T->Prop)->Prop
 | [],J,F=>F J
 | (id,.ob t)::r,J,F=>match nth rs id with
  |some (.ob b _ s)=>if h:b=t then sK rs kn r (J (h▸s)) F else False
  |_=>False
 | (id,.blk l)::r,J,F=>match nth rs id with
  |some (.blk _ cs _)=>CG id kn l J 0 cs λd=>sK rs kn r d F
  |_=>False
 | (id,.lst t)::r,J,F=>match nth rs id with
  |some (.lst b _ _ A c l)=>if h:b=t then sK rs kn r (J A c (h▸l)) F else False
  |_=>False
def Ez(kn:List (Key×Kn)):List (Nat×Kn)->Bool
 | []=>true
 | (s,k)::r=>match ef (.s s) kn with
  | some q=>(match q.eq k with
   |true=>Ez kn r
   |false=>false)
  |none=>false
def j6(n:Nat):List CS->Bool
 | []=>true
 |.v _::r=>j6 n r
 | .k p::r=>match Nat.blt p.id n with
  |true=>j6 n r
  |false=>false
def fR(n:Nat):List (Nat×RSh)->Bool
 | []=>true
 | (i,.blk l)::r=>match Nat.blt i n && j6 n l with
  |true=>fR n r
  |false=>false
 | (i,_)::r=>match Nat.blt i n with
  |true=>fR n r
  |false=>false
def pQ(n:Nat):List (Nat×Kn)->Bool
 | []=>true
 | (_,.p k)::r=>match Nat.blt k.id n with
  |true=>pQ n r
  |false=>false
 |_::_=>false
def qu {U:Uni}(c:CC)(n:Nat)(J:JT2 U c)(fr:Fr)(st:St U):Prop:=
 match Ez st.kn c.kns && (jN (λi=>Nat.ble n i || mq i (aV (·.1) c.rsh)) st.md && (fR n c.rsh && pQ n c.kns))with
 |true=>KS c.live J fr λb=>sK st.rs st.kn c.rsh b λp=>p
 |false=>False
inductive AV where
 |v (x:Value)|k (p:PK)
inductive UP (U:Uni) where
 |ob (t:Nat)(s:U.ty t)|blk (l:List AV)|lst (t:Nat)(A:Option Addr)(c:Nat)(l:List (U.el t))
def alS {T:Type}:(l:List (Nat×Sh2))->SlT l T->(T->List (Nat×Value)->Prop)->Prop
 | [],J,F=>F J []
 |(s,sh)::r,J,F=>Dx sh J λb v=>alS r b λd vs=>F d ((s,v)::vs)
def Im {T:Type}:(l:List CS)->CST l T->(T->List AV->Prop)->Prop
 | [],J,F=>F J []
 |.v s::r,J,F=>EU s J λd v=>Im r d λb l=>F b (.v v::l)
 |.k p::r,J,F=>Im r J λb l=>F b (.k p::l)
def Ge {U:Uni}{T:Type}:(l:List (Nat×RSh))->B3 U l T->(T->List (Nat×UP U)->Prop)->Prop
 | [],J,F=>F J []
 |(id,.ob t)::r,J,F=>∀s:U.ty t,Ge r (J s) λb us=>F b ((id,.ob t s)::us)
 |(id,.blk l)::r,J,F=>Im l J λb cs=>Ge r b λd us=>F d ((id,.blk cs)::us)
 |(id,.lst t)::r,J,F=>∀(A:Option Addr)(c:Nat)(l:List (U.el t)),Ge r (J A c l) λb us=>F b ((id,.lst t A c l)::us)
def kP {U:Uni}(rs:List (Res U)):AV->Value
 |.v x=>x
 |.k p=>(den U rs p).getD undef
def lU {U:Uni}(i:Nat):List (Nat×UP U)->Option (UP U)
 | []=>none
 | (j,u)::r=>match Nat.beq j i with
  |true=>some u
  |false=>lU i r
def lay {U:Uni}(f:Nat->Res U->Option (Res U)):Nat->List (Res U)->Option (List (Res U))
 |_,[]=>some []
 | i,r::l=>match f i r,lay f (i+1) l with
  |some r',some l'=>some (r'::l')
  |_,_=>none
def Lq {U:Uni}(us:List (Nat×UP U))(i:Nat)(r:Res U):Option (Res U):=
 match lU i us with
 |some (.ob t s)=>eu r (.ob t s)
 |some (.lst t A c l)=>eu r (.lst t A c l)
 |_=>some r
def MD {U:Uni}(b:List (Res U))(us:List (Nat×UP U))(i:Nat)(r:Res U):Option (Res U):=
 match lU i us with
 |some (.blk l)=>eu r (.blk (aV (kP b) l))
 |_=>some r
def yY(id:Nat):Nat->List CS->List (Key×Kn)
 |_,[]=>[]
 |i,.v _::r=>yY id (i+1) r
 |i,.k p::r=>(.c id i,.p p)::yY id (i+1) r
def Ef:List (Nat×RSh)->List (Key×Kn)
 | []=>[]
 |(id,.blk l)::r=>yY id 0 l++Ef r
 |_::r=>Ef r
def CM:List (Nat×Kn)->List (Key×Kn)
 | []=>[]
 |(s,k)::r=>(.s s,k)::CM r
def mr {U:Uni}(rs:List (Res U)):List (Nat×Kn)->List (Nat×Value)
 | []=>[]
 |(s,.p k)::r=>(s,(den U rs k).getD undef)::mr rs r
 |_::r=>mr rs r
def CC.wr2(c:CC):List Nat:=aV (·.1) c.kns++c.wr
def Dz {U:Uni}(c:CC)(J:JT2 U c)(st:St U)(e:List (Nat×Value))(F:List (Nat×Value)->St U->Prop):Prop:=
 alS c.live J λh vs=>Ge c.rsh h λp us=>p->match lay (Lq us) 0 st.rs with
  | some d=>(match lay (MD d us) 0 d with
   |some b=>yP (G4 b (aV (·.1) c.rsh))<| F (vs++mr b c.kns++forget c.wr2 e) ⟨b,CM c.kns++(Ef c.rsh++fL (λa _=>match a with|.s s=>!(mq s c.wr2)|_=>true) (fT (aV (·.1) c.rsh) st.kn)),[]⟩
   |none=>False)
  |none=>False
def wT {U:Uni}(fr:Fr)(st:St U):Key->Option Value
 |.s i=>some (lk fr.g i fr.e)
 | .c id off=>match nth st.rs id with
  |some (.blk _ cs _)=>nth cs off
  |_=>none
 |.l _ _=>none
def Da {U:Uni}(k0 s j:Nat)(st:St U):Option (St U):=match ef (.s s) st.kn with
 | some (.p (.sl i 0))=>(match Nat.beq i j with
  |true=>some st
  | false=>(match nth st.rs i,nth st.rs j with
   | some (.lst t true T A c l),some (.lst b true d _ _ _)=>(match Nat.ble k0 i && Nat.ble k0 j && (Nat.beq t b && Nat.beq T d)with
    |true=>some ⟨cV (cV st.rs j (.lst t true T A c l)) i (.lst t true T none 0 []),(.s s,.p (.sl j 0))::fT [i,j] st.kn,i::j::st.md⟩
    |false=>none)
   |_,_=>none))
 |_=>none
def Ee {U:Uni}(k0:Nat)(fr:Fr)(s j:Nat)(st:St U)(F:St U->Prop):Prop:=match ef (.s s) st.kn with
 |none=>den U st.rs (.sl j 0)=some (lk fr.g s fr.e)/\F ⟨st.rs,(.s s,.p (.sl j 0))::st.kn,st.md⟩
 | some _=>(match Da k0 s j st with
  |some st'=>F st'
  |none=>False)
def lG {U:Uni}(k0:Nat)(fr:Fr):List (Key×Nat×TypeId)->St U->(St U->Prop)->Prop
 | [],st,F=>F st
 | (key,tt,T)::r,st,F=>match Nat.ble 1000 tt,key with
  |true,.s s=>Ee k0 fr s (tt - 1000) st λst'=>lG k0 fr r st' F
  | _,_=>(match wT fr st key with
   |some (.slice none 0 0)=>lG k0 fr r ⟨st.rs++ [.lst tt true T none 0 []],(key,.p (.sl st.rs.length 0))::fL (λa _=>!(a.eq key)) st.kn,st.md⟩ F
   |_=>False)
section
variable (U:Uni)(P:Program)(tbl:Tb U)(may:List Nat)(k0:Nat)
def rH(i:Nat):List (Nat×List Nat)->List Nat
 | []=>[]
 | (j,l)::r=>match Nat.beq j i with
  |true=>l
  |false=>rH i r
def K6(all:Bool)(V:List Nat)(rd:List (Nat×List Nat))(i:Nat)(o:Oper)(kn:List (Key×Kn)):Bool:=
 match o.op with
 | .load _ x=>(match all || mq i V with
  |true=>true
  | false=>(match kf kn x with
   |some (.p k)=>mq k.id (rH i rd)
   |_=>false))
 |_=>true
def Dv(V:List Nat)(rd:List (Nat×List Nat))(M b:List Nat):Bool:=
 jN (λi=>!(mq i V) && jN (λj=>!(mq j (rH i rd))) M) b
def v9(n:Nat)(N:List Nat)(ops:Array Oper)(all:Bool)(V:List Nat)(rd:List (Nat×List Nat))(K:Fr->St U->Prop):Nat->Array Bool->Fr->St U->Prop
 | 0,listed,fr,st=>match Region.ready .any ops listed with
  | []=>K fr st
  |_=>False
 | fuel+1,listed,fr,st=>match Region.ready .any ops listed with
  | []=>K fr st
  | i0::r0=>match jM P ops listed (i0::r0)with
   | some i=>match ops[i]? with
    | some o=>jg ops o fr
     (λfr=>match HJ o,K6 all V rd i o st.kn with
      |false,true=>pP U P o (ev fr) st λv k=>AG U n N fr o.dst v k st λb st'=>v9 n N ops all V rd K fuel (listed.setIfInBounds i true) b st'
      |_,_=>False)
     (λfr=>AG U n N fr o.dst undef none st λb st'=>v9 n N ops all V rd K fuel (listed.setIfInBounds i true) b st')
    |none=>False
   | none=>match all with
    |true=>False
    | false=>Dy (λi=>match ops[i]? with
     | some o=>jg ops o fr
      (λfr=>op2 U P tbl may k0 o (ev fr) st λv k st'=>CY k False<| match Dv V rd (jZ (st'.md.length - st.md.length) st'.md) (behind ops listed i)with
       |true=>AG U n N fr o.dst v k st' λb d=>v9 n N ops all V rd K fuel (listed.setIfInBounds i true) b d
       |false=>False)
      (λfr=>AG U n N fr o.dst undef none st λb st'=>v9 n N ops all V rd K fuel (listed.setIfInBounds i true) b st')
     |none=>False) (i0::r0)
abbrev QF2:=Exit->Fr->St U->Prop
def lv(st:St U)(l:List Nat):St U:= {st with md:=st.md++l}
def tG(may:List Nat)(k0:Nat)(c:Code)(a:An)(Q:QF2 U)(fr:Fr)(st:St U)(F:QF2 U->St U->Prop):Prop:=
 match a.cut with
 |none=>F Q st
 | some b=>match uT b.wr2 (writes c) && jN (l4 may k0) (aV (·.1) b.rsh)with
  | true=>∃J:JT2 U b,F (λx d st'=>match x with
   |.normal=>qu b st.rs.length J d st'
   |x=>Q x d (lv U st' st.md)) {st with md:= []}/\∀g:Nat->Value,Dz b J st fr.e λe st'=>Q .normal ⟨e,g,fr.ds⟩ (lv U st' (aV (·.1) b.rsh++st.md))
  |false=>False
def tH(k0:Nat)(a:An)(Q:QF2 U)(fr:Fr)(st:St U)(F:QF2 U->St U->Prop):Prop:=lG k0 fr a.ad st λst'=>F Q st'
def jy(may:List Nat)(k0:Nat)(c:Code)(a:An)(Q:QF2 U)(fr:Fr)(st:St U)(F:QF2 U->St U->Prop):Prop:=tH U k0 a Q fr st λQ st=>tG U may k0 c a Q fr st F
def k8(n:Nat)(N:List Nat):Code->An->QF2 U->Fr->St U->Prop
 |.skip,_,Q,fr,st=>Q .normal fr st
 |.region id ops false,a,Q,fr,st=>jy U may k0 (.region id ops false) a Q fr st λQ st=>Fc U P tbl may k0 n N ops (Q .normal) (λch=>Q (.panic ch)) ops.toList fr st
 | .region id ops true,a,Q,fr,st=>jy U may k0 (.region id ops true) a Q fr st λQ st=>match Region.noSelect ops,fW ops.toList with
  |true,true=>v9 U P tbl may k0 n N ops (mE P ops.toList) a.V a.rd (Q .normal) ops.size (Array.replicate ops.size false) fr st
  |_,_=>False
 |.seq x y,a,Q,fr,st=>jy U may k0 (.seq x y) a Q fr st λQ st=>k8 n N x a.l (λe d st'=>match e with|.normal=>k8 n N y a.r Q d st'|e=>Q e d st') fr st
 | .cond c x y,a,Q,fr,st=>jy U may k0 (.cond c x y) a Q fr st λQ st=>match ev fr c with
  |.bool b=>split b (k8 n N x a.l Q fr st) (k8 n N y a.r Q fr st)
  |_=>False
 | .block id c,a,Q,fr,st=>jy U may k0 (.block id c) a Q fr st λQ st=>k8 n N c a.l (λe d st'=>match e with
  |.exit i=>(match Nat.beq i id with|true=>Q .normal d st'|false=>Q (.exit i) d st')
  |e=>Q e d st') fr st
 | .loop c,a,Q,fr,st=>tH U k0 a Q fr st λQ st=>match a.cut with
  |none=>False
  | some h=>match uT h.wr2 (writes c) && jN (l4 may k0) (aV (·.1) h.rsh)with
   | true=>∃I:Nat->JT2 U h,(∃m,qu h st.rs.length (I m) fr {st with md:= []})/\∀(m:Nat)(g:Nat->Value),Dz h (I m) st fr.e λe st'=>
    k8 n N c a.l (λx d j=>match x with
     |.normal=>∃m',m'<m/\qu h st.rs.length (I m') d j
     |x=>Q x d (lv U j (aV (·.1) h.rsh++st.md))) ⟨e,g,fr.ds⟩ st'
   |false=>False
 |.exit id,_,Q,fr,st=>Q (.exit id) fr st
 |.ret,_,Q,fr,st=>Q .ret fr st
 |.label _,_,Q,fr,st=>Q .normal fr st
 | .scope c,a,Q,fr,st=>jy U may k0 (.scope c) a Q fr st λQ st=>k8 n N c a.l (λe d st'=>match e with
  |.goto _=>False
  |e=>Q e d st') fr st
 |_,_,_,_,_=>False
def ml(fr:Fr)(st:St U):List ResultVar->(List Value->List (Option Kn)->Prop)->Prop
 | [],F=>F [] []
 |.tmp t::r,F=>ml fr st r λvs b=>F (lk fr.g t fr.e::vs) (ef (.s t) st.kn::b)
 |.cell a t::r,F=>xx U P t (ef (.s a) st.kn) st λv k=>ml fr st r λvs b=>F (v::vs) (k::b)
def wU:Res U->Upd U
 |.ob t _ s=>.ob t s
 |.blk _ cs _=>.blk cs
 |.lst t _ _ A c l=>.lst t A c l
def posOf(i:Nat):List Nat->Nat->Option Nat
 | [],_=>none
 | j::r,p=>match Nat.beq j i with
  |true=>some p
  |false=>posOf i r (p+1)
def og(k:Nat)(b:List Nat)(i:Nat):Option Nat:=
 match Nat.blt i k with
 |true=>some i
 |false=>(posOf i b 0).map (k+ ·)
def tq(k0:Nat):Option PK->Bool
 |none=>false
 |some p=>Nat.ble k0 p.id
def HN(k0:Nat):Option Kn->Bool
 |none=>false
 |some (.p p)=>Nat.ble k0 p.id
 |some (.t l)=>nL (tq k0) l
 |some (.ag l)=>nL (tq k0) l
 |some .pan=>false
 |some (.w p _)=>Nat.ble k0 p.id
 | some (.f a b)=>match nL (tq k0) a with
  |true=>true
  |false=>nL (tq k0) b
def pZ(k0:Nat)(cE:List Nat):List (Key×Kn)->Bool
 | []=>false
 | (.c i _,k)::r=>(match mq i cE with
  | true=>(match HN k0 (some k)with
   |true=>true
   |false=>pZ k0 cE r)
  |false=>pZ k0 cE r)
 |(_,_)::r=>pZ k0 cE r
def Nj(k0:Nat)(cE b:List Nat)(k:Option Kn)(kn:List (Key×Kn)):List Nat:=
 match b with
 | []=>[]
 | n::r=>match Nat.beq n 1000000 with
  | true=>(match HN k0 k with
   |true=>r
   | false=>(match pZ k0 cE kn with
    |true=>r
    |false=>[]))
  |false=>n::r
def Lx(cE b:List Nat)(Q:Ou U->Prop)(v:Value)(k:Option Kn)(st:St U):Prop:=
 match jJ (nth st.rs) cE,jJ (nth st.rs) b,jN (λi=>Nat.ble k0 i) b && qD b with
 |some us,some d,true=>Q ⟨v,EA (og k0 b) k,aV (wU U) us,d,lW (og k0 b) (fL (λa _=>match a with|.c i _=>mq i cE || mq i b|.l i _=>mq i b|_=>false) st.kn)⟩
 |_,_,_=>False
def HR(cE b:List Nat)(Q:Ou U->Prop)(v:Value)(k:Option Kn)(st:St U):Prop:=Lx U k0 cE (Nj k0 cE b k st.kn) Q v k st
def wj:Nat->List (Option Kn)->List (Key×Kn)
 |_,[]=>[]
 |i,none::r=>wj (i+1) r
 |i,some k::r=>(.s i,k)::wj (i+1) r
def rT {U:Uni}(rs:List (Res U)):List (Key×Kn)->Bool
 | []=>true
 | (_,.p p)::r=>(match den U rs p with
  |some _=>rT rs r
  |none=>false)
 | (_,.ag l)::r=>(match jN (λo=>match o with|some p=>F1 rs p|none=>true) l with
  |true=>rT rs r
  |false=>false)
 |_::_=>false
def Ay(cE d:List Nat)(Q:Ou U->Prop)(fn:Func)(fr:Fr)(st:St U):Prop:=
 ml U P fr st fn.results.toList λvs b=>(match vs,b with
  | [v],[k]=>HR U k0 cE d Q v k st
  |vs,b=>HR U k0 cE d Q (.tuple ⟨vs⟩) (some (.t (aV ki b))) st)
def Mc(N:List Nat)(fn:Func)(h:An)(b:List Nat)(args:List Value)(d:List (Option Kn))(rs:List (Res U))(kc:List (Key×Kn))(Q:Ou U->Prop):Prop:=
 match fn.body,Nat.ble args.length fn.ntmps && rT rs (wj 0 d++kc)with
 | some c,true=>k8 U P tbl may k0 fn.ntmps N c h (λe fr st=>match fr.ds,e with
  | [],.normal=>Ay U P k0 may b Q fn fr st
  | [],.ret=>Ay U P k0 may b Q fn fr st
  | [],.panic [⟨v,false,false⟩]=>HR U k0 may b Q v (some .pan) st
  |_,_=>False) ⟨num 0 args,λ_=>undef,[]⟩ ⟨rs,wj 0 d++kc,[]⟩
 |_,_=>False
def MQ(b:Nat):List Oper->Option Nat
 | [⟨none,.defer ⟨.value (.func f),d,_⟩,_,_,_,none⟩]=>(match d.toList,Nat.beq f b with
  | [.tmp t],true=>some t
  |_,_=>none)
 |_=>none
def Nv(a:Key)(k:Kn):Bool:=match a,k with
 |.s _,.p (.loc _ _)=>true
 |_,_=>false
def MC(cE:List Nat)(id off:Nat)(v:Value)(st:St U)(F:St U->Prop):Prop:=
 match nth st.rs id with
 | some (.blk g cs T)=>(match Nat.blt off cs.length && l4 cE k0 id with
  |true=>F ⟨cV st.rs id (.blk g (cV cs off v) T),fL Nv st.kn,id::st.md⟩
  |false=>False)
 |_=>False
def NI(T:TypeId)(id off:Nat)(cE b:List Nat)(Q:Ou U->Prop)(fn:Func):QF2 U:=λe fr st=>match e with
 |.normal=>Ay U P k0 cE b Q fn fr st
 |.ret=>Ay U P k0 cE b Q fn fr st
 | .panic [⟨.iface d (.int .u32 x),false,false⟩]=>(match Nat.beq d T with
  |true=>MC U k0 cE id off (.int .u32 x) st λst'=>Ay U P k0 cE b Q fn fr st'
  |false=>False)
 |_=>False
def Ni(b:Nat)(T:TypeId)(N:List Nat)(fn:Func)(d:An)(h:List Nat)(code:Code)(Q:Ou U->Prop)(fr0:Fr)(st0:St U):Prop:=
 match code with
 | .seq (.region i0 i false) (.seq (.region _ j false) c)=>k8 U P tbl may k0 fn.ntmps N (.region i0 i false) .leaf (λe fr st=>match e with
  | .normal=>(match MQ b j.toList with
   | some t=>(match ef (.s t) st.kn with
    |some (.p (.loc id off))=>k8 U P tbl may k0 fn.ntmps N c d (NI U P k0 T id off may h Q fn) ⟨fr.e,fr.g,[⟨.fn (.func b) #[],#[lk fr.g t fr.e]⟩]⟩ st
    |_=>False)
   |none=>False)
  |_=>False) fr0 st0
 |_=>False
def Nh(d:Nat)(T:TypeId)(N:List Nat)(fn:Func)(h:An)(i:List Nat)(args:List Value)(b:List (Option Kn))(rs:List (Res U))(kc:List (Key×Kn))(Q:Ou U->Prop):Prop:=
 match fn.body,Nat.ble args.length fn.ntmps && rT rs (wj 0 b++kc)with
 |some c,true=>Ni U P tbl may k0 d T N fn h i c Q ⟨num 0 args,λ_=>undef,[]⟩ ⟨rs,wj 0 b++kc,[]⟩
 |_,_=>False
end
section
variable {U:Uni}
def alC {T:Type}:(c:CP)->c.T T->(T->AV->Prop)->Prop
 |.int k,J,F=>∀x:Int,F (J x) (.v (.int k x))
 |.bool,J,F=>∀x:Bool,F (J x) (.v (.bool x))
 |.str,J,F=>∀x:ByteArray,F (J x) (.v (.string x))
 |.any,J,F=>∀x:Value,F (J x) (.v x)
 |.hdr,J,F=>∀(A:Option Addr)(n c:Nat),F (J A n c) (.v (.slice A n c))
 |.nsl,J,F=>F J (.v (.slice none 0 0))
 |.nil,J,F=>F J (.v (.pointer none))
 |.fn f,J,F=>F J (.v (.func (.func f) ⟨[]⟩ ⟨[]⟩))
 |.ptr j,J,F=>F J (.k (.loc j 0))
 |.obj j path,J,F=>F J (.k (.obj j path 0))
 |.sl j,J,F=>F J (.k (.sl j 0))
def DA {T:Type}:(l:List CP)->D8 l T->(T->List AV->Prop)->Prop
 | [],J,F=>F J []
 |c::l,J,F=>alC c J λb v=>DA l b λd vs=>F d (v::vs)
inductive AA where
 |one (a:AV)|agg (l:List AV)
def alA {T:Type}:(a:AP)->a.T U T->(T->AA->Prop)->Prop
 |.one c,J,F=>alC c J λb v=>F b (.one v)
 |.agg l,J,F=>DA l J λb vs=>F b (.agg vs)
 |.enc tt,J,F=>∀x:U.el tt,F (J x) (.agg (aV .v ((U.en tt).enc x)))
def zh {T:Type}:(l:List AP)->Eb U l T->(T->List AA->Prop)->Prop
 | [],J,F=>F J []
 |a::l,J,F=>alA a J λb v=>zh l b λd vs=>F d (v::vs)
inductive PR (U:Uni) where
 |ob (t:Nat)(r:Nat->Nat)(s:U.ty t)(lk:List (Nat×Nat×Nat))|blk (g:Nat)(l:List AV)(T:TypeId)|lst (t:Nat)(own:Bool)(T:TypeId)(A:Option Addr)(c:Nat)(l:List (U.el t))
def alR {T:Type}:(p:RP)->p.T U T->(T->PR U->Prop)->Prop
 |.ob t lk,J,F=>∀(r:Nat->Nat)(s:U.ty t),F (J r s) (.ob t r s lk)
 |.blk l T,J,F=>∀g:Nat,DA l (J g) λb cs=>F b (.blk g cs T)
 |.lst t own T,J,F=>∀(A:Option Addr)(c:Nat)(l:List (U.el t)),F (J A c l) (.lst t own T A c l)
def zg {T:Type}:(l:List RP)->Gl U l T->(T->List (PR U)->Prop)->Prop
 | [],J,F=>F J []
 |p::l,J,F=>alR p J λb x=>zg l b λd xs=>F d (x::xs)
def PR.kB:PR U->Res U
 |.ob t r s _=>.ob t r s
 |.blk g _ T=>.blk g [] T
 |.lst t own T A c l=>.lst t own T A c l
def PR.fin(rs:List (Res U)):PR U->Res U
 |.ob t r s _=>.ob t r s
 |.blk g l T=>.blk g (aV (kP rs) l) T
 |.lst t own T A c l=>.lst t own T A c l
def fG(l:List (PR U)):List (Res U):=aV (PR.fin (aV PR.kB l)) l
def vd(rs:List (Res U)):AA->Value
 |.one a=>kP rs a
 |.agg l=>.agg ⟨aV (kP rs) l⟩
def avK:AV->Option PK
 |.v _=>none
 |.k p=>some p
def Gh:AA->Option Kn
 |.one (.k p)=>some (.p p)
 |.one (.v _)=>none
 | .agg l=>(match nL isK (aV avK l)with
  |true=>some (.ag (aV avK l))
  |false=>none)
def JZ(id:Nat):Nat->List AV->List (Key×Kn)
 |_,[]=>[]
 |i,.v _::r=>JZ id (i+1) r
 |i,.k p::r=>(.c id i,.p p)::JZ id (i+1) r
def CW:Nat->List (PR U)->List (Key×Kn)
 |_,[]=>[]
 |i,.blk _ l _::r=>JZ i 0 l++CW (i+1) r
 |i,_::r=>CW (i+1) r
def lkK(i:Nat):List (Nat×Nat×Nat)->List (Key×Kn)
 | []=>[]
 |(p,j,q)::l=>(.l i p,.p (.obj j q 0))::lkK i l
def yL:Nat->List (PR U)->List (Key×Kn)
 |_,[]=>[]
 |i,.ob _ _ _ lk::r=>lkK i lk++yL (i+1) r
 |i,_::r=>yL (i+1) r
abbrev fr0:Fr:=⟨[],λ_=>undef,[]⟩
abbrev jl(k:Option Kn)(v:Value):Ending:=match k with
 |some .pan=>.panicked [⟨v,false,false⟩]
 |_=>.returned v
structure sD(rs:List (Res U))(cE:List Nat)(X:Nat->Nat->Prop)(w:World)(out:Ou U)(w':World)(rs':List (Res U))(X':Nat->Nat->Prop):Prop where
 sat:Sat (rs'++out.news) X' w'
 ch:Ch (λk=>∃j,j∈cE/\X j k) w w'
 same:∀i,i<rs.length->i ∉ cE->X' i=X i
 grow:∀i,i∈cE->∀k,X' i k->X i k\/w.heap.size<=k
 new:∀i,rs.length<=i->i<rs.length+out.news.length->∀k,X' i k->w.heap.size<=k
 kr:out.kr=some .pan\/KnO (rs'++out.news) out.res out.kr
 kc:∀key k,(key,k)∈out.kc->(∀i,key≠ .s i)->gu (rs'++out.news) fr0 key k
def bu(rs:List (Res U))(cE:List Nat)(X:Nat->Nat->Prop)(w:World)(Q:Ou U->Prop)(e:Ending)(w':World):Prop:=∃out rs' X',e=jl out.kr out.res/\Q out/\cv rs cE out.upd=some rs'/\sD rs cE X w out w' rs' X'
def LV(U:Uni)(P:Program)(f:Nat)(c:Ctr U):Prop:=zh c.args c.body λB d=>zg c.res B λB b=>∀Q:Ou U->Prop,B Q->∀(X:Nat->Nat->Prop)(w:World),Sat (fG b) X w->aK (fG b) fr0 (yL 0 b)->Calls P f ⟨aV (vd (aV PR.kB b)) d⟩ w λe w'=>∃out rs' X',e=jl out.kr out.res/\Q out/\cv (fG b) c.cE out.upd=some rs'/\sD (fG b) c.cE X w out w' rs' X'
def Vc2(U:Uni)(P:Program)(tbl:Tb U)(N:List Nat)(fn:Func)(h:An)(i:List Nat)(c:Ctr U):Prop:=zh c.args c.body λB d=>zg c.res B λB b=>∀Q:Ou U->Prop,B Q->yP (fG b) (Mc U P tbl c.cE c.res.length N fn h i (aV (vd (aV PR.kB b)) d) (aV Gh d) (fG b) (CW 0 b++yL 0 b) Q)
def VcD(U:Uni)(P:Program)(tbl:Tb U)(h:Nat)(T:TypeId)(N:List Nat)(fn:Func)(i:An)(j:List Nat)(c:Ctr U):Prop:=zh c.args c.body λB d=>zg c.res B λB b=>∀Q:Ou U->Prop,B Q->yP (fG b) (Nh U P tbl c.cE c.res.length h T N fn i j (aV (vd (aV PR.kB b)) d) (aV Gh d) (fG b) (CW 0 b++yL 0 b) Q)
end
end
section
section
variable {U:Uni}{P:Program}{tbl:Tb U}{may:List Nat}{k0:Nat}
theorem iW {α β:Type}(f:α->β):∀l,aV f l=l.map f
 | []=>rfl
 |a::l=>by simp[aV,iW f l]
theorem cj {α β:Type}(f:α->β):∀(l:List α)(i:Nat),nth (aV f l) i=(nth l i).map f
 | [],_=>rfl
 |_::_,0=>rfl
 |_::l,i+1=>cj f l i
@[simp] theorem uE {α β:Type}(f:α->β):∀l:List α,(aV f l).length=l.length
 | []=>rfl
 |_::l=>by simp[aV,uE f l]
theorem gC {x:Nat}:∀ {l:List Nat},mq x l=true↔x∈l
 | []=>by simp[mq]
 | y::r=>by
  unfold mq;split
  ·rename_i h;have:=Nat.eq_of_beq_eq_true h;simp[this]
  ·rename_i h;have b:¬x=y:=by rintro rfl;simp at h
   rw[gC];simp[b]
theorem oq:∀ {l:List Nat},qD l=true->l.Nodup
 | [],_=>List.nodup_nil
 | x::r,h=>by
  unfold qD at h;split at h
  ·cases h
  ·rename_i hm;refine List.nodup_cons.2 ⟨λb=>?_,oq h⟩;rw[gC.2 b]at hm;cases hm
theorem dK {α:Type}{f:α->Bool}:∀ {l:List α},jN f l=true↔∀x∈l,f x=true
 | []=>by simp[jN]
 | a::r=>by
  unfold jN;split
  ·rename_i h;rw[dK];simp[h]
  ·rename_i h;simp[h]
theorem BO {α:Type}{f:α->Bool}:∀ {l:List α},nL f l=true↔∃x∈l,f x=true
 | []=>by simp[nL]
 | a::r=>by
  unfold nL;split
  ·rename_i h;simp[h]
  ·rename_i h;rw[BO];simp[h]
theorem uD {α β:Type}{f:α->Option β}:∀ {l:List α}{r:List β},jJ f l=some r->r.length=l.length/\∀i a,nth l i=some a->∃b,f a=some b/\nth r i=some b
 | [],r,h=>by
  simp only[jJ,Option.some.injEq]at h;subst h;exact⟨rfl,λi a hi=>by simp[nth]at hi⟩
 | a::l,r,h=>by
  unfold jJ at h;split at h
  ·rename_i b p j k;injection h with h
   subst h;obtain⟨n,o⟩:=uD k;refine⟨by simp[n],λi x d=>?_⟩;cases i with
   |zero=>simp[nth]at d;subst d;exact⟨b,j,rfl⟩
   |succ i=>exact o i x d
  ·cases h
theorem fx {α:Type}:∀(n:Nat)(l:List α),jZ n l=l.take n
 |0,_=>by simp[jZ]
 |n+1,[]=>by simp[jZ]
 |n+1,a::l=>by simp[jZ,fx n l]
theorem fZ {α:Type}:∀(n:Nat)(l:List α),mB n l=l.drop n
 |0,_=>by simp[mB]
 |n+1,[]=>by simp[mB]
 |n+1,a::l=>by simp[mB,fZ n l]
theorem Am {α:Type}:∀(l:List α)(i:Nat)(x:α),cV l i x=l.set i x
 | [],_,_=>by simp[cV]
 |_::_,0,_=>rfl
 |_::l,i+1,x=>by simp[cV,Am l i x]
theorem rF:∀(vs cs:List Value)(o:Nat),setAt ⟨cs⟩ o vs=⟨ik cs o vs⟩
 | [],_,_=>rfl
 | v::r,cs,o=>by
  have e:(Array.mk cs).setIfInBounds o v=⟨cV cs o v⟩:=by apply Array.ext';simp[Am]
  simp only[setAt,ik,e];exact rF r _ _
@[simp] theorem Fm {α:Type}:∀(vs cs:List α)(o:Nat),(ik cs o vs).length=cs.length
 | [],_,_=>rfl
 |v::r,cs,o=>by simp[ik,Fm r]
theorem nm {α:Type}:∀(vs cs:List α)(o i:Nat),o+vs.length<=cs.length->nth (ik cs o vs) i=if o<=i/\i<o+vs.length then nth vs (i - o)else nth cs i
 | [],cs,o,i,h=>by
  simp only[ik,List.length_nil,Nat.add_zero];rw[if_neg (by omega)]
 | v::r,cs,o,i,h=>by
  simp only[List.length_cons]at h;simp only[ik,List.length_cons];rw[nm r _ _ _ (by simp;omega),bY];by_cases b:o+1<=i/\i<o+1+r.length
  ·rw[if_pos b,if_pos (by omega)];have:i - o=(i - (o+1))+1:=by omega
   rw[this];rfl
  ·rw[if_neg b];by_cases d:i=o
   ·subst d;rw[if_pos ⟨rfl,by omega⟩,if_pos (by omega)];simp[nth]
   ·rw[if_neg (by omega),if_neg (by omega)]
theorem fA {f:Key->Kn->Bool}{key:Key}{k:Kn}:∀ {l:List (Key×Kn)},(key,k)∈fL f l->(key,k)∈l/\f key k=true
 | [],h=>by cases h
 | (a,q)::r,h=>by
  unfold fL at h;split at h
  ·rename_i b;rcases List.mem_cons.1 h with e|h
   ·injection e with d i;subst d;subst i;exact⟨List.mem_cons_self ..,b⟩
   ·have:=fA h;exact⟨List.mem_cons_of_mem _ this.1,this.2⟩
  ·have:=fA h;exact⟨List.mem_cons_of_mem _ this.1,this.2⟩
theorem Key.ow:∀ {a b:Key},a.eq b=true->a=b
 |.s a,.s b,h=>by rw[Nat.eq_of_beq_eq_true h]
 | .c a b,.c x y,h=>by
  simp only[Key.eq,Bool.and_eq_true]at h;rw[Nat.eq_of_beq_eq_true h.1,Nat.eq_of_beq_eq_true h.2]
 | .l a b,.l x y,h=>by
  simp only[Key.eq,Bool.and_eq_true]at h;rw[Nat.eq_of_beq_eq_true h.1,Nat.eq_of_beq_eq_true h.2]
 |.s _,.l _ _,h=>by cases h
 |.l _ _,.s _,h=>by cases h
 |.c _ _,.l _ _,h=>by cases h
 |.l _ _,.c _ _,h=>by cases h
 |.s _,.c _ _,h=>by cases h
 |.c _ _,.s _,h=>by cases h
theorem xB {key:Key}{k:Kn}:∀ {l:List (Key×Kn)},ef key l=some k->(key,k)∈l
 | [],h=>by cases h
 | (a,q)::r,h=>by
  unfold ef at h;split at h
  ·rename_i he;injection h with h
   subst h;rw[Key.ow he];exact List.mem_cons_self ..
  ·exact List.mem_cons_of_mem _ (xB h)
theorem PK.ow:∀ {a b:PK},a.eq b=true->a=b
 | .loc a b,.loc x y,h=>by
  simp only[PK.eq,Bool.and_eq_true]at h;rw[Nat.eq_of_beq_eq_true h.1,Nat.eq_of_beq_eq_true h.2]
 | .obj a b c,.obj x y z,h=>by
  simp only[PK.eq,Bool.and_eq_true]at h;rw[Nat.eq_of_beq_eq_true h.1,Nat.eq_of_beq_eq_true h.2.1,Nat.eq_of_beq_eq_true h.2.2]
 | .sl a b,.sl x y,h=>by
  simp only[PK.eq,Bool.and_eq_true]at h;rw[Nat.eq_of_beq_eq_true h.1,Nat.eq_of_beq_eq_true h.2]
 |.loc ..,.obj ..,h|.loc ..,.sl ..,h|.loc ..,.el ..,h|.obj ..,.loc ..,h|.obj ..,.sl ..,h|.obj ..,.el ..,h|.sl ..,.loc ..,h|.sl ..,.obj ..,h|.sl ..,.el ..,h|.el ..,.loc ..,h|.el ..,.obj ..,h|.el ..,.sl ..,h|.el ..,.el ..,h=>by cases h
theorem Kn.ow {a b:Kn}(h:a.eq b=true):a=b/\∃p,a=.p p:=by
 cases a<;>cases b<;>simp only[Kn.eq]at h<;>first|cases h|skip
 rename_i p q;exact⟨by rw[PK.ow h],p,rfl⟩
def Kn.has(p:PK):Kn->Prop
 |.p k=>k=p
 |.t l=>∃j,nth l j=some (some p)
 |.ag l=>∃j,nth l j=some (some p)
 |.f a b=>(∃j,nth a j=some (some p))\/∃j,nth b j=some (some p)
 |.pan=>False
 |.w k _=>k=p
theorem jW.mono {rs rs':List (Res U)}{v:Value}{k:Kn}(h:jW rs v k)(hd:∀p,k.has p->∀u,den U rs p=some u->den U rs' p=some u):jW rs' v k:=by
 cases k with
 |pan=>exact h
 |p k=>exact hd k rfl _ h
 |w k n=>obtain⟨a,c,i,o⟩:=h;exact⟨a,c,hd k rfl _ i,o⟩
 | t l=>
  obtain⟨vs,i,o⟩:=h;exact⟨vs,i,λj k d=>by obtain⟨u,hu,q⟩:=o j k d;exact⟨u,hu,hd k ⟨j,d⟩ _ q⟩⟩
 | ag l=>
  obtain⟨vs,i,o⟩:=h;exact⟨vs,i,λj k d=>by obtain⟨u,hu,q⟩:=o j k d;exact⟨u,hu,hd k ⟨j,d⟩ _ q⟩⟩
 | f a b=>
  obtain⟨f,fs,cs,i,r,o,x⟩:=h;exact⟨f,fs,cs,i,r,λj k d=>by obtain⟨u,hu,q⟩:=o j k d;exact⟨u,hu,hd k (.inl ⟨j,d⟩) _ q⟩,λj k d=>by obtain⟨u,hu,q⟩:=x j k d;exact⟨u,hu,hd k (.inr ⟨j,d⟩) _ q⟩⟩
theorem jo {α:Type}:∀ {l:List α}{i:Nat}{x:α},nth l i=some x->x∈l
 |a::l,0,x,h=>by simp[nth]at h;subst h;exact List.mem_cons_self ..
 |a::l,i+1,x,h=>List.mem_cons_of_mem _ (jo (l:=l) h)
theorem Kn.C5 {k:Kn}{i:Nat}(h:k.ofList i=false){p:PK}(o:k.has p):p.ofList i=false:=by
 have key:∀ {l:List (Option PK)},nL (xl i) l=false->∀j,nth l j=some (some p)->p.ofList i=false:=by
  intro l q j d;cases he:p.ofList i
  ·rfl
  ·have:nL (xl i) l=true:=BO.2 ⟨some p,jo d,he⟩;rw[q]at this;cases this
 cases k with
 |pan=>exact o.elim
 |p k=>cases o;exact h
 |w k n=>cases o;exact h
 |t l=>obtain⟨j,d⟩:=o;exact key h j d
 |ag l=>obtain⟨j,d⟩:=o;exact key h j d
 | f a b=>
  simp only[Kn.ofList]at h;split at h
  ·cases h
  ·rename_i r;rcases o with⟨j,d⟩|⟨j,d⟩
   ·exact key r j d
   ·exact key h j d
inductive eC:Res U->Res U->Prop
 |blk (g:Nat)(cs cs':List Value)(T:TypeId):cs.length=cs'.length->eC (.blk g cs T) (.blk g cs' T)
 |ob (t:Nat)(r:Nat->Nat)(s s':U.ty t):eC (.ob t r s) (.ob t r s')
 |lst (t:Nat)(own:Bool)(T:TypeId)(A A':Option Addr)(c c':Nat)(l l':List (U.el t)):eC (.lst t own T A c l) (.lst t own T A' c' l')
theorem eC.refl:∀a:Res U,eC a a
 |.blk g cs T=>.blk g cs cs T rfl
 |.ob t r s=>.ob t r s s
 |.lst t own T A c l=>.lst t own T A A c c l l
theorem eC.den {a b:Res U}(h:eC a b){p:PK}{v:Value}(d:p.ofList p.id=false\/a=b)(hd:cQ U p (some a)=some v):cQ U p (some b)=some v:=by
 rcases d with d|rfl
 ·cases h<;>cases p<;>simp only[cQ,PK.ofList,PK.id,reduceCtorEq]at hd d ⊢ <;>first|exact hd|(simp at d)
 ·exact hd
theorem BI {r r':Res U}{u:Upd U}(h:eu r u=some r'):eC r r':=by
 cases r<;>cases u<;>simp only[eu]at h<;>first|cases h|skip
 ·split at h
  ·rename_i d;injection h with h;subst h
   exact .blk _ _ _ _ (Nat.eq_of_beq_eq_true d).symm
  ·cases h
 ·split at h
  ·rename_i t r s i j b;subst b;injection h with h;subst h
   exact .ob _ _ _ _
  ·cases h
 ·split at h
  ·rename_i t own T A c l i A' c' l' b;subst b;injection h with h;subst h
   exact .lst _ _ _ _ _ _ _ _ _
  ·cases h
theorem eC.trans {a b c:Res U}(h:eC a b)(k:eC b c):eC a c:=by
 cases h<;>cases k
 ·rename_i d _ i;exact .blk _ _ _ _ (d.trans i)
 ·exact .ob _ _ _ _
 ·exact .lst _ _ _ _ _ _ _ _ _
theorem uR {rs rs':List (Res U)}{M:List Nat}(hs:∀i,i<rs.length->i ∉ M->nth rs' i=nth rs i)(j:∀i,i∈M->∀a,nth rs i=some a->∃b,nth rs' i=some b/\eC a b)
 {p:PK}(k:p.id ∉ M\/p.ofList p.id=false){v:Value}(hd:den U rs p=some v):den U rs' p=some v:=by
 unfold den at hd ⊢;cases d:nth rs p.id with
 |none=>rw[d]at hd;cases p<;>simp[cQ]at hd
 | some a=>
  rw[d]at hd;by_cases hm:p.id∈M
  ·obtain⟨b,l,n⟩:=j _ hm a d;rw[l];exact n.den (.inl (k.elim (λh=>absurd hm h) id)) hd
  ·rw[hs _ (bG d) hm,d];exact hd
theorem gu.Nk {rs:List (Res U)}{fr b:Fr}(h:∀i,lk b.g i b.e=lk fr.g i fr.e){key:Key}{k:Kn}(d:gu rs fr key k):gu rs b key k:=by
 cases key with
 |s i=>show jW rs (lk b.g i b.e) k;rw[h];exact d
 |c id off=>exact d
 |l id path=>exact d
theorem aK.same {rs:List (Res U)}{fr b:Fr}{kn:List (Key×Kn)}(h:aK rs fr kn)(he:∀i,lk b.g i b.e=lk fr.g i fr.e):aK rs b kn:=λkey k d=>(h key k d).Nk he
theorem aK.app {rs:List (Res U)}{fr:Fr}{a b:List (Key×Kn)}(h:aK rs fr a)(k:aK rs fr b):aK rs fr (a++b):=λkey q hq=>(List.mem_append.1 hq).elim (h key q) (k key q)
theorem aK.nil {rs:List (Res U)}{fr:Fr}:aK rs fr []:=λ_ _ h=>by cases h
theorem aK.get {rs:List (Res U)}{fr:Fr}{kn:List (Key×Kn)}(h:aK rs fr kn){key:Key}{k:Kn}(b:ef key kn=some k):gu rs fr key k:=h _ _ (xB b)
theorem aK.kf {rs:List (Res U)}{fr:Fr}{kn:List (Key×Kn)}(h:aK rs fr kn)(x:Operand):KnO rs (ev fr x) (V.kf kn x):=by
 cases x with
 | tmp t=>
  show KnO rs (lk fr.g t fr.e) (ef (.s t) kn);cases b:ef (.s t) kn with
  |none=>exact trivial
  |some k=>exact h.get b
 |const v=>exact trivial
 |global g=>exact trivial
 |func f=>exact trivial
theorem aK.jK {rs rs':List (Res U)}{fr:Fr}{kn:List (Key×Kn)}{M:List Nat}(h:aK rs fr kn)(hs:∀i,i<rs.length->i ∉ M->nth rs' i=nth rs i)(x:∀i,i∈M->∀a,nth rs i=some a->∃b,nth rs' i=some b/\eC a b)
 {y:List (Key×Kn)}(B:∀key k,(key,k)∈y->(key,k)∈kn/\(∀p,k.has p->p.id ∉ M\/p.ofList p.id=false)/\∀id off,key=.c id off->id ∉ M\/∃g cs z T,nth rs id=some (.blk g cs T)/\nth rs' id=some (.blk g z T)/\nth z off=nth cs off):aK rs' fr y:=by
 intro key k hm;obtain⟨C,F,o⟩:=B key k hm;have q:=h key k C;have hd:∀p,k.has p->∀u,den U rs p=some u->den U rs' p=some u:=λp G u hu=>uR hs x (F p G) hu;cases key with
 |s i=>exact jW.mono q hd
 | c id off=>
  obtain⟨g,cs,T,v,d,n,A⟩:=q;rcases o id off rfl with o|⟨S,V,H,W,j,I,J⟩
  ·exact⟨g,cs,T,v,by rw[hs _ (bG d) o];exact d,n,A.mono hd⟩
  ·rw[d]at j;injection j with j
   injection j with j N O
   subst j;subst N;subst O;exact⟨g,H,T,v,I,by rw[J];exact n,A.mono hd⟩
 | l id path=>
  obtain⟨t,r,s,d,n⟩:=q;by_cases hm:id∈M
  ·obtain⟨b,Q,R⟩:=x id hm _ d;cases R;exact⟨t,r,_,Q,n.mono hd⟩
  ·exact⟨t,r,s,by rw[hs _ (bG d) hm];exact d,n.mono hd⟩
theorem xd {key:Key}{k:Kn}:∀ {M:List Nat}{kn:List (Key×Kn)},(key,k)∈fT M kn->(key,k)∈kn/\∀i∈M,k.ofList i=false/\∀off,key≠ .c i off
 | [],kn,h=>⟨h,λi hi=>by cases hi⟩
 | i::r,kn,h=>by
  unfold fT at h;obtain⟨l,n⟩:=xd h;obtain⟨o,b⟩:=fA l;simp only[Bool.and_eq_true,Bool.not_eq_true']at b;refine⟨o,λj d=>?_⟩;rcases List.mem_cons.1 d with rfl|d
  ·refine⟨b.1,λoff e=>?_⟩;subst e;simp at b
  ·exact n j d
theorem aK.fT {rs rs':List (Res U)}{fr:Fr}{kn:List (Key×Kn)}{M:List Nat}(h:aK rs fr kn)(hs:∀i,i<rs.length->i ∉ M->nth rs' i=nth rs i)(j:∀i,i∈M->∀a,nth rs i=some a->∃b,nth rs' i=some b/\eC a b):aK rs' fr (V.fT M kn):=by
 refine h.jK hs j λkey k l=>?_;obtain⟨n,d⟩:=xd l;refine⟨n,λp o=>?_,λid off e=>?_⟩
 ·by_cases hm:p.id∈M
  ·exact .inr (Kn.C5 (d _ hm).1 o)
  ·exact .inl hm
 ·by_cases hm:id∈M
  ·exact absurd e ((d id hm).2 off)
  ·exact .inl hm
theorem HG {rs:List (Res U)}{fr b:Fr}{kn:List (Key×Kn)}{d:Nat}{v:Value}{k:Option Kn}(h:aK rs fr kn)(o:KnO rs v k)(p:lk b.g d b.e=v)(r:∀i,i≠d->lk b.g i b.e=lk fr.g i fr.e):aK rs b (Bf (.s d) k kn):=by
 have key:aK rs b (fL (λa _=>!(a.eq (.s d))) kn):=by
  intro a q hq;obtain⟨hm,t⟩:=fA hq;have j:=h a q hm;cases a with
  | s i=>
   have u:i≠d:=by rintro rfl;simp[Key.eq]at t
   show jW rs (lk b.g i b.e) q;rw[r i u];exact j
  |c id off=>exact j
  |l id path=>exact j
 unfold Bf;split
 ·exact key
 ·rename_i q;intro a z n;rcases List.mem_cons.1 n with e|n
  ·injection e with x y
   subst x;subst y;show jW rs (lk b.g d b.e) z;rw[p];exact o
  ·exact key a z n
theorem yK(g:Nat->Value)(d i:Nat)(v:Value)(e:List (Nat×Value)):lk g i ((d,v)::e)=if i=d then v else lk g i e:=by
 simp only[lk];split
 ·rename_i h;rw[if_pos (Nat.eq_of_beq_eq_true h)]
 ·rename_i h;rw[if_neg (by rintro rfl;simp at h)]
theorem kF {n:Nat}{N:List Nat}{fr:Fr}{dst:Option Tmp}{v:Value}{k:Option Kn}{st:St U}{F:Fr->St U->Prop}(h:AG U n N fr dst v k st F)(l:aK st.rs fr st.kn)(o:KnO st.rs v k):
 kh n N fr dst v λj=>∃st',st'.rs=st.rs/\st'.md=st.md/\aK st.rs j st'.kn/\j.ds=fr.ds/\F j st':=by
 unfold AG at h;unfold kh at h ⊢;cases dst with
 |none=>exact⟨st,rfl,rfl,l,rfl,h⟩
 | some d=>
  dsimp only at h ⊢;split at h
  ·rename_i q;have fin:∀u,u=v->F ⟨(d,u)::fr.e,fr.g,fr.ds⟩ {st with kn:=Bf (.s d) k st.kn}->∃st':St U,st'.rs=st.rs/\st'.md=st.md/\aK st.rs ⟨(d,u)::fr.e,fr.g,fr.ds⟩ st'.kn/\fr.ds=fr.ds/\F ⟨(d,u)::fr.e,fr.g,fr.ds⟩ st':=by
    intro u hu p;subst hu;exact⟨{st with kn:=Bf (.s d) k st.kn},rfl,rfl,HG l o (by rw[yK,if_pos rfl]) (λi hi=>by rw[yK,if_neg hi]),rfl,p⟩
   split at h
   ·rename_i r;cases v with
    |int t x=>intro z b;exact fin _ (by rw[b]) (h z b)
    |bool x=>intro z b;exact fin _ (by rw[b]) (h z b)
    |_=>exact fin _ rfl h
   ·exact fin _ rfl h
  ·exact h.elim
theorem mu {ops:Array Oper}{o:Oper}{fr:Fr}{yes no u v:Fr->Prop}(h:jg ops o fr yes no)(q:∀k,(∀i,lk k.g i k.e=lk fr.g i fr.e)->k.ds=fr.ds->yes k->u k)(r:∀k,(∀i,lk k.g i k.e=lk fr.g i fr.e)->k.ds=fr.ds->no k->v k):jg ops o fr u v:=by
 unfold jg at h ⊢;split at h
 ·exact q fr (λ_=>rfl) rfl h
 ·rename_i j want y;split at h
  ·rename_i d hd;split at h
   ·rename_i b n;have p:∀t,lk fr.g d fr.e=.bool t->∀i,lk fr.g i ((d,.bool t)::fr.e)=lk fr.g i fr.e:=by
     intro t x i;rw[yK];split
     ·rename_i e;rw[e,x]
     ·rfl
    rcases iC h with⟨rfl,l⟩|⟨rfl,l⟩
    ·refine aj (λ_=>?_) (λe=>by cases e);cases want
     ·exact r _ (p _ n) rfl l
     ·exact q _ (p _ n) rfl l
    ·refine aj (λe=>by cases e) (λ_=>?_);cases want
     ·exact q _ (p _ n) rfl l
     ·exact r _ (p _ n) rfl l
   ·exact r fr (λ_=>rfl) rfl h
   ·exact h.elim
  ·exact h.elim
theorem FD {o:Oper}{ρ:Operand->Value}{F:Value->Prop}(d:∀v,ρ (.const v)=v)(b:∀t x,o.op≠ .load t x)(h:rK P o ρ F)(w:World):∃v,F v/\∀w',w'.os=w.os->w'.tape=w.tape->w'.output=w.output->(execOp ρ o).run P w'=.ok (.value v) w':=by
 have hw:rJ P none o ρ {w with heap:= #[]} F False:=by
  unfold rK rJ at h;unfold rJ;generalize o.op=op at h b ⊢;cases op<;>first|exact h|exact absurd rfl (b _ _)
 rcases qB d hw with⟨v,i,j⟩|l
 ·exact⟨v,i,λw' n p q=>j w' ⟨n,p,q,Nat.zero_le _,λk r=>absurd r (Nat.not_lt_zero _)⟩⟩
 ·exact l.elim
def rdX(o:Oper)(kn:List (Key×Kn))(X:Nat->Nat->Prop):Nat->Prop:=
 match o.op with
 | .load _ x=>(match V.kf kn x with
  |some (.p k)=>X k.id
  |_=>λ_=>False)
 |_=>λ_=>False
theorem Dl {s:TypeId}{x:Value}{f:Nat}{F:Value->Prop}(h:lz P s x f F):∃fields fd p,P.underlying s=some (.struct fields)/\fields[f]? =some fd/\x=.pointer (some p)/\F (.pointer (some (p.add fd.offset)))/\∀w,(Instr.fieldAt s x f).run P w=.ok (.pointer (some (p.add fd.offset))) w:=by
 have key:∀fields fd p,P.underlying s=some (.struct fields)->fields[f]? =some fd->x=.pointer (some p)->∀w,(Instr.fieldAt s x f).run P w=.ok (.pointer (some (p.add fd.offset))) w:=by
  intro fields fd p j k l w;have n:lz P s x f λv=>v=.pointer (some (p.add fd.offset)):=by
   unfold lz at h ⊢;subst l;rw[j]at h ⊢;simp only at h ⊢;rw[k]at h ⊢;simp only at h ⊢;split at h
   ·rename_i i hi;split at h
    ·exact ar p rfl rfl
    ·exact h.elim
   ·exact h.elim
  obtain⟨v,o,q⟩:=uP n;rw[q w,o]
 have t:=h;unfold lz at h;split at h
 ·rename_i fields hs;split at h
  ·rename_i fd b;split at h
   ·split at h
    ·split at h
     ·obtain⟨p,d,r⟩:=dU h;exact⟨fields,fd,p,hs,b,by rw[d],r,key fields fd p hs b (by rw[d])⟩
     ·exact h.elim
    ·exact h.elim
   ·exact h.elim
  ·exact h.elim
 ·exact h.elim
theorem HM {t:TypeId}{p:Addr}{i:Value}{F:Value->Prop}(h:nK P t (.pointer (some p)) i F):∃n e k ix,P.underlying t=some (.array n e)/\i=.int k ix/\F (.pointer (some (p.add (ix.toNat *bw P e))))/\∀w,(Instr.indexAt t (.pointer (some p)) i).run P w=.ok (.pointer (some (p.add (ix.toNat *bw P e)))) w:=by
 unfold nK at h;cases hu:P.underlying t with
 |none=>rw[hu]at h;exact h.elim
 | some d=>
  rw[hu]at h;cases d<;>first|exact h.elim|skip
  rename_i n e;cases i<;>first|exact h.elim|skip
  rename_i k ix;simp only at h;split at h
  ·rename_i he;obtain⟨b,h⟩:=h;obtain⟨q,hq,j⟩:=dU h;injection hq with hq
   subst hq;refine⟨n,e,k,ix,rfl,rfl,j,λw=>?_⟩;have l:nK P t (.pointer (some p)) (.int k ix) λv=>v=.pointer (some (p.add (ix.toNat *bw P e))):=by
    unfold nK;rw[hu];simp only[he];exact⟨b,ar p rfl rfl⟩
   obtain⟨v,o,r⟩:=kK l;rw[r w,o]
  ·exact h.elim
theorem JM {t e:TypeId}{A:Option Addr}{n c:Nat}{k:IntKind}{ix:Int}{p:Addr}(b:P.underlying t=some (.slice e))(he:hasType P e=true)(d:0<=ix/\ix<n)(h:A=some p)(w:World):(Instr.indexAt t (.slice A n c) (.int k ix)).run P w=.ok (.pointer (some (p.add (ix.toNat *bw P e)))) w:=by
 have i:nK P t (.slice A n c) (.int k ix) λv=>v=.pointer (some (p.add (ix.toNat *bw P e))):=by
  unfold nK;rw[b];simp only[he];exact⟨d,ar p h rfl⟩
 obtain⟨v,j,l⟩:=kK i;rw[l w,j]
theorem RS.rd {X:Nat->Prop}{w:World}{t:Nat}{own:Bool}{T:TypeId}{A:Option Addr}{c:Nat}{l:List (U.el t)}(h:RS X w (.lst t own T A c l)):Rd w X A l.length c l:=by
 cases own
 ·exact h
 ·have b:Rd w (λk=>X k/\k<w.heap.size) A l.length c l:=h.1.rd;exact b.mono (λk d=>d.1) h.2
theorem RS.ls {X:Nat->Prop}{w:World}{r:Res U}{li:Nat}{L:Ls U.el}(h:RS X w r)(b:iA r li=some L):Rd w X L.A L.l.length L.c L.l:=by
 unfold iA at b;split at b
 ·injection b with b
  subst b;exact RS.rd h
 ·exact U.nS h b
 ·cases b
theorem eB {α:Type}{o:Option α}{F:α->Prop}(h:ir o F):∃a,o=some a/\F a:=by
 cases o with
 |none=>exact h.elim
 |some a=>exact⟨a,rfl,h⟩
theorem kG {t:TypeId}{cs:List Value}{off:Nat}{v:Value}(h:j4 P t cs off=some v){w:World}{p:Addr}(d:∀j u,j<bw P t->nth cs (off+j)=some u->w.cell? (p.add j)=some u):(Instr.loadAt t (.pointer (some p))).run P w=.ok v w:=by
 unfold j4 at h;split at h
 ·rename_i q;simp only[Bool.and_eq_true]at q;obtain⟨k,F,z,A⟩:=q;have A:off+bw P t<=cs.length:=Nat.le_of_ble_eq_true A;have b:jd (eV P t)=bw P t:=Nat.eq_of_beq_eq_true z;refine mi (s:=eV P t) k F z ?_;have hd:∀j,nth (cs.drop off) j=nth cs (off+j):=λj=>by rw[aY,aY,List.getElem?_drop]
  split at h
  ·rename_i s hs;have:=d 0 v (by rw[<-b,hs];simp[jd]) (by simpa using h);rw[hs];simpa[jq,Addr.add]using this
  ·rename_i l hs;injection h with h
   subst h;rw[hs]at b ⊢;simp only[jd]at b;have hlen:(cs.drop off |>.take l.length).length=l.length:=by simp;omega
   simp only[jq,fx,fZ,hlen,Nat.beq_refl];have key:∀(vs:List Value)(i:Nat),(∀j u,vs[j]? =some u->w.cell? (p.add (i+j))=some u)->aL w p i vs:=by
    intro vs
    induction vs with
    |nil=>intro _ _;exact trivial
    | cons x r G=>
     intro i B;have C:=B 0 x rfl;have k:=G (i+1) λj u hu=>by rw[show i+1+j=i+(j+1)by omega];exact B (j+1) u (by simpa using hu)
     cases r with
     |nil=>exact C
     |cons y r=>exact⟨C,k⟩
   refine key _ 0 λj u hu=>?_;rw[Nat.zero_add];have o:j<l.length:=by have:=(List.getElem?_eq_some_iff.1 hu).1;omega
   refine d j u (by omega) ?_;rw[aY,<-List.getElem?_drop,<-hu,List.getElem?_take,if_pos o]
  ·rename_i n hs;injection h with h
   subst h;rw[hs]at b ⊢;simp only[jd]at b;refine⟨by simp[fx,fZ];omega,λj u hu=>?_⟩;simp only[fx,fZ]at hu;have o:j<n:=by
    have:=(Array.getElem?_eq_some_iff.1 hu).1;simp at this;omega
   refine d j u (by omega) ?_;rw[aY,<-List.getElem?_drop];have:((cs.drop off).take n)[j]? =some u:=by simpa using hu
   rwa[List.getElem?_take,if_pos o]at this
 ·cases h
theorem Kept.BB {B:Nat->Prop}{w w':World}(k:Kept B w w'){p:Addr}(b:B p.block){v:Value}(h:w.cell? p=some v):w'.cell? p=some v:=(k.cell b).trans h
theorem oX:∀ {n k j i:Nat},nth (upN n k) j=some i->i=n+j
 |n,0,j,i,h=>by simp[upN,nth]at h
 |n,k+1,0,i,h=>by simp[upN,nth]at h;omega
 |n,k+1,j+1,i,h=>by have:=oX (n:=n+1) (k:=k) (j:=j) h;omega
theorem lf:∀(n k:Nat),(upN n k).length=k
 |_,0=>rfl
 |n,k+1=>by simp[upN,lf (n+1) k]
theorem FE {o:Option Kn}{p:PK}(h:ki o=some p):o=some (.p p):=by
 unfold ki at h;split at h
 ·injection h with h;rw[h]
 ·cases h
theorem Ga {st:St U}{fr:Fr}{id off g:Nat}{cs:List Value}{T t:TypeId}{v:Value}(n:aK st.rs fr st.kn)(o:nth st.rs id=some (.blk g cs T))(b:j4 P t cs off=some v)(hs:l9 P t=false):KnO st.rs v (Dr id off st.kn v):=by
 unfold Dr;split
 ·rename_i v2 l;split
  ·refine⟨l,rfl,λj p d=>?_⟩;rw[cj]at d;cases hu:nth (upN 0 l.toList.length) j with
   |none=>rw[hu]at d;cases d
   | some i=>
    rw[hu]at d;have q:i=j:=by have:=oX hu;omega
    subst q;have k:=bG hu;rw[lf]at k;injection d with d
    obtain⟨z,A,B,u,h,r,x⟩:=n.get (FE d);rw[o]at h;injection h with h
    injection h with _ h _
    subst h;refine⟨u,?_,x⟩;have key:∀m,i<(jZ m (mB off cs)).length->(jZ m (mB off cs))[i]? =some u:=λm hm=>by
     rw[fx,fZ]at hm ⊢;rw[List.getElem?_take,if_pos (by simp at hm;omega),List.getElem?_drop,<-aY];exact r
    unfold j4 at b;unfold l9 at hs;split at b
    ·split at b
     ·rename_i y;rw[y]at hs;cases hs
     ·injection b with b;injection b with b
      subst b;simpa using key _ k
     ·injection b with b;injection b with b
      subst b;simpa using key _ k
    ·cases b
  ·trivial
 ·trivial
theorem Lj {t:TypeId}{id li off:Nat}{i:Int}{r:Res U}{rs:List (Res U)}{X:Nat->Prop}{w:World}{L:Ls U.el}{y:U.el L.t}{v:Value}(n:RS X w r)(o:nth rs id=some r)(p:iA r li=some L)(u:L.l[i.toNat]? =some y)(b:j4 P t ((U.en L.t).enc y) off=some v):KnO rs v (neK U P t id li i off r):=by
 unfold neK;split
 ·rename_i tt q s;split
  ·rename_i l;simp only[Bool.and_eq_true]at l;obtain⟨x,d,h⟩:=l;have h:off=0:=Nat.eq_of_beq_eq_true h;subst h;obtain⟨j,z,A⟩:=U.xn (t:=tt) (r:=q) (s:=s) n x p u;have hu:v=.slice j.A j.l.length j.c:=by
    rw[A]at b;unfold j4 at b;unfold l9 at d;split at b
    ·split at b
     ·injection b with b;exact b.symm
     ·rename_i k;rw[k]at d;cases d
     ·rename_i k;rw[k]at d;cases d
    ·cases b
   show den U rs (.sl id (i.toNat+1))=some v;simp only[den,PK.id,o,cQ,iA,z,hu]
  ·trivial
 ·trivial
theorem xw {t:TypeId}{x:Value}{k:Option Kn}{st:St U}{X:Nat->Nat->Prop}{w:World}{K:Value->Option Kn->Prop}(G:Sat st.rs X w){fr:Fr}(hk:aK st.rs fr st.kn)(M:KnO st.rs x k)(h:xx U P t k st K):
 ∃v kv,K v kv/\KnO st.rs v kv/\∀w',Kept (match k with|some (.p k)=>X k.id|_=>λ_=>False) w w'->(Instr.loadAt t x).run P w'=.ok v w':=by
 unfold xx at h;split at h
 ·rename_i id off;split at h
  ·rename_i g cs T d;obtain⟨v,b,z⟩:=eB h;have hd:den U st.rs (.loc id off)=some x:=M;simp only[den,PK.id,d,cQ,Option.some.injEq]at hd;subst hd;obtain⟨N,O,Q⟩:=G.res id _ d;refine⟨v,_,z,?_,λw' hw=>kG b λj u R hu=>?_⟩
   ·cases hs:l9 P t
    ·exact Ga hk d b hs
    ·simp only;cases hq:ef (.c id off) st.kn with
     |none=>exact trivial
     | some q=>
      obtain⟨g',ah,T',u,n,H,e3⟩:=hk.get hq;rw[d]at n;injection n with n
      injection n with _ n _
      subst n;have:v=u:=by
       unfold j4 at b;unfold l9 at hs;split at b
       ·split at b
        ·rw[H]at b;injection b with b;exact b.symm
        ·rename_i B;rw[B]at hs;cases hs
        ·rename_i B;rw[B]at hs;cases hs
       ·cases b
      rw[this];exact e3
   ·refine Kept.BB hw (by rw[block_add];exact N) ?_;rw[cm];exact Q.cell (by rw[aY]at hu;simpa using hu)
  ·exact h.elim
 ·rename_i id path off;split at h
  ·rename_i tt r s d;split at h
   rotate_left
   ·split at h
    ·rename_i c cs UC;obtain⟨I,h⟩:=h;obtain⟨v,b,z⟩:=eB h;have hd:den U st.rs (.obj id path off)=some x:=M;simp only[den,PK.id,d,cQ,Option.some.injEq]at hd;subst hd;obtain⟨O,QC⟩:=U.tF (G.res id _ d) UC I;refine⟨v,_,z,trivial,λw' hw=>kG b λj u R hu=>?_⟩;refine Kept.BB hw (by rw[block_add];exact O) ?_;rw[Nat.zero_add,aY]at hu;rw[cm];exact QC j u hu
    ·exact h.elim
   ·rename_i f hf;obtain⟨u,hu,h⟩:=eB h;obtain⟨v,b,z⟩:=eB h;have hd:den U st.rs (.obj id path off)=some x:=M;simp only[den,PK.id,d,cQ,Option.some.injEq]at hd;subst hd;obtain⟨O,I⟩:=U.uL (G.res id _ d) hf hu;refine⟨v,_,z,?_,λw' hw=>kG b λj y R C=>?_⟩
    ·cases hs:l9 P t
     ·exact trivial
     ·have ae:u=v:=by
       unfold j4 at b;unfold l9 at hs;split at b
       ·split at b
        ·injection b
        ·rename_i B;rw[B]at hs;cases hs
        ·rename_i B;rw[B]at hs;cases hs
       ·cases b
      subst ae;cases f with
      |v y=>exact trivial
      | o p o=>
       have aa:den U st.rs (.obj id p o)=some u:=by
        simp only[den,PK.id,d,cQ];exact hu
       cases o with
       |succ o=>exact aa
       | zero=>
        show KnO st.rs u (match ef (.l id p) st.kn with
         |some k=>some k
         |none=>some (.p (.obj id p 0)))
        cases hl:ef (.l id p) st.kn with
        |none=>exact aa
        | some k=>
         obtain⟨t',r',s',n,H⟩:=hk.get hl;rw[d]at n;injection n with n
         cases n;simp only[fvV,Option.some.injEq]at hu;rw[<-hu];exact H
      | l i=>
       show den U st.rs (.sl id i)=_;simp only[den,PK.id,d,cQ];simp only[fvV]at hu;simp only[iA];cases F:U.li tt r s i with
       |none=>rw[F]at hu;cases hu
       |some L=>simp only[F]at hu ⊢;exact hu
    ·cases j with
     | zero=>
      simp only[Nat.zero_add,nth,Option.some.injEq]at C;subst C;exact Kept.BB hw (by rw[block_add];exact O) I
     |succ j=>simp[nth]at C
  ·exact h.elim
 ·rename_i id li i off;split at h
  ·rename_i r d;split at h
   ·rename_i L F;have hd:den U st.rs (.el id li i off)=some x:=M;simp only[den,PK.id,d,cQ,F]at hd;split at hd
    ·rename_i Q;injection hd with hd
     subst hd;have hr:=(G.res id _ d).ls F;obtain⟨p,y,S,C,hZ,I⟩:=hr.ld Q.1 Q.2;split at h
     ·rename_i _ ho;have ho:off=0:=Nat.eq_of_beq_eq_true ho;subst ho;split at h
      ·rename_i J;have J:(U.en L.t).size=1:=Nat.eq_of_beq_eq_true J;obtain⟨hle,h⟩:=h;obtain⟨v,b,z⟩:=eB h;refine⟨v,_,z,trivial,λw' hw=>kG b λj u R hu=>?_⟩;rw[Nat.zero_add,mC,cj]at hu;cases V:nth (upN 0 (bw P t)) j with
       |none=>rw[V]at hu;cases hu
       | some A=>
        rw[V]at hu;have O4:A=j:=by have:=oX V;omega
        subst O4;have OP:=bG V;rw[lf]at OP;injection hu with hu
        have ab:=List.getElem?_eq_getElem (l:=L.l) (i:=i.toNat+A) (by omega);obtain⟨p',W,an,VG⟩:=hr.cell _ _ ab;rw[S]at W;injection W with W
        subst W;have h0:=VG 0 (by show 0<(U.en L.t).size;omega);have n:elA U L.t L.A i 0=p.add i.toNat:=by unfold elA;rw[S,J];simp[Addr.add]
        rw[n];refine Kept.BB hw (by rw[block_add,block_add];exact hZ) ?_;have H:(p.add ((i.toNat+A)*Enc.size (U.el L.t))).add 0=(p.add i.toNat).add A:=by
         rw[show Enc.size (U.el L.t)=1 from J,add_add,add_add,Nat.mul_one,Nat.add_zero]
        rw[H]at h0;have hu:hd1 (enc (L.l.getD (i.toNat+A) (U.df L.t)))=u:=hu;rw[h0,<-hu,List.getD_eq_getElem?_getD,ab];show(enc L.l[i.toNat+A])[0]? =some (hd1 (enc L.l[i.toNat+A]));have hl:(enc L.l[i.toNat+A]).length=1:=by rw[dw];exact J
        match he:enc L.l[i.toNat+A],hl with
        | [a],_=>rfl
      ·exact h.elim
     obtain⟨v,b,z⟩:=eB h;have N:L.l.getD i.toNat (U.df L.t)=y:=by rw[List.getD_eq_getElem?_getD,C];rfl
     refine⟨v,_,z,Lj (G.res id _ d) d F C (N▸b),λw' hw=>kG b λj u R hu=>?_⟩;rw[N]at hu;have af:off+j<Enc.size (U.el L.t):=by have:=bG hu;rw[<-dw y];exact this
     have h2:=I (off+j) af;refine Kept.BB hw ?_ ?_
     ·unfold elA;rw[S];simp only[Option.getD_some,block_add];exact hZ
     ·unfold elA;rw[S];simp only[Option.getD_some];rw[add_add];rw[aY]at hu;exact h2.trans hu
    ·cases hd
   ·exact h.elim
  ·exact h.elim
 ·exact h.elim
theorem AZ(ρ:Operand->Value)(a:Array Operand):(⟨aV ρ a.toList⟩:Array Value)=a.map ρ:=by
 apply Array.ext';simp[iW]
theorem Bq {rs:List (Res U)}{cs:List Value}:∀ {l:List (Nat×PK)}{F:Prop},Ly rs cs l F->F/\∀o p,(o,p)∈l->den U rs p=nth cs o
 | [],F,h=>⟨h,λ_ _ h=>by cases h⟩
 | (a,b)::l,F,h=>by
  obtain⟨d,i⟩:=Bq h.2;refine⟨d,λo p hm=>?_⟩;rcases List.mem_cons.1 hm with e|hm
  ·injection e with j k;subst j;subst k;exact h.1
  ·exact i o p hm
theorem uY {j:Nat}{p:PK}:∀ {l:List (Nat×PK)},zb j l=some p->(j,p)∈l
 | (a,b)::l,h=>by
  unfold zb at h;split at h
  ·rename_i he;injection h with h
   subst h;rw[<-Nat.eq_of_beq_eq_true he];exact List.mem_cons_self ..
  ·exact List.mem_cons_of_mem _ (uY h)
theorem Lf {rs:List (Res U)}{p q:PK}{l:Nat}{v:Value}{a:Addr}(h:PK.on l p=some q)(d:den U rs p=some v)(hq:den U rs q=some (.pointer (some a))):∃b,v=.pointer (some b)/\a=b.add l:=by
 cases p<;>simp only[PK.on,Option.some.injEq,reduceCtorEq]at h
 ·rename_i id off;subst h;unfold den at d hq;simp only[PK.id]at d hq;cases i:nth rs id with
  |none=>rw[i]at d;simp[cQ]at d
  | some r=>
   rw[i]at d hq;cases r<;>simp only[cQ,reduceCtorEq,Option.some.injEq,Value.pointer.injEq]at d hq
   exact⟨_,d.symm,by rw[<-hq,cm]⟩
 ·rename_i id path off;subst h;unfold den at d hq;simp only[PK.id]at d hq;cases i:nth rs id with
  |none=>rw[i]at d;simp[cQ]at d
  | some r=>
   rw[i]at d hq;cases r<;>simp only[cQ,reduceCtorEq,Option.some.injEq,Value.pointer.injEq]at d hq
   exact⟨_,d.symm,by rw[<-hq,cm]⟩
theorem Bd {d l:Nat}:∀ {o:Option Value},Lp d o=some l->(o=none/\l=d)\/∃k,o=some (.int k (l:Int))
 |none,h=>.inl ⟨rfl,by injection h with h;exact h.symm⟩
 |some (.int k (.ofNat n)),h=>.inr ⟨k,by injection h with h;rw[h];rfl⟩
theorem GL {t:TypeId}{k:Option Kn}{lo hi:Option Value}{st:St U}{K:Value->Option Kn->Prop}{v:Value}(i:KnO st.rs v k)(h:KN U P t k lo hi st K):∃(a:Value)(n:Nat)(k':Option Kn),K a k'/\KnO st.rs a k'/\n9 P t v lo hi none (λu=>u=a) False:=by
 unfold KN at h;split at h
 ·rename_i n e p l y z;split at h
  ·rename_i d q A B;split at h
   ·rename_i u a o hq r;simp only[Bool.and_eq_true]at r;obtain⟨C,j,F,hle⟩:=r;have j:bw P e=1:=Nat.eq_of_beq_eq_true j;rw[Nat.blt_eq]at F;have hle:d<=n:=Nat.le_of_ble_eq_true hle;obtain⟨b,rfl,rfl⟩:=Lf B o hq;have i:den U st.rs p=some v:=i;rw[o]at i;injection i with i
    subst i;refine⟨_,0,_,h,⟨_,_,hq,rfl⟩,?_⟩;unfold n9;rw[y];simp only[C,Option.isNone_none,Bool.true_or,Bool.and_self];refine ar b rfl ?_;have x:sk lo d λl'=>∀a',a'=some (if n=l' then b else b.add (l'*bw P e))->∀n',n'=d - l'->∀c',c'=n - l'->Value.slice a' n' c'=.slice (some (b.add l)) (d - l) (n - l):=by
     have fin:∀a',a'=some (if n=l then b else b.add (l*bw P e))->∀n',n'=d - l->∀c',c'=n - l->Value.slice a' n' c'=.slice (some (b.add l)) (d - l) (n - l):=by
      rintro _ rfl _ rfl _ rfl;rw[if_neg (by omega),j,Nat.mul_one]
     rcases Bd z with⟨rfl,rfl⟩|⟨k,rfl⟩
     ·exact fin
     ·refine⟨⟨by omega,by omega⟩,?_⟩;rw[Int.toNat_natCast];exact fin
    rcases Bd A with⟨rfl,rfl⟩|⟨k,rfl⟩
    ·exact x
    ·refine⟨⟨by omega,by show(d:Int)<=(n:Nat);omega⟩,?_⟩;rw[Int.toNat_natCast];exact x
   ·exact h.elim
  ·exact h.elim
 ·exact h.elim
theorem xt {o:Oper}{fr:Fr}{st:St U}{X:Nat->Nat->Prop}{w:World}{K:Value->Option Kn->Prop}(hS:Sat st.rs X w)(Q:aK st.rs fr st.kn)(h:pP U P o (ev fr) st K):
 ∃v k,K v k/\KnO st.rs v k/\∀w',Kept (rdX o st.kn X) w w'->(execOp (ev fr) o).run P w'=.ok (.value v) w':=by
 have hc:∀v,ev fr (.const v)=v:=λ_=>rfl;have hp:∀F:Value->Prop,(∀t x,o.op≠ .load t x)->rK P o (ev fr) F->∃v,F v/\∀w',Kept (rdX o st.kn X) w w'->(execOp (ev fr) o).run P w'=.ok (.value v) w':=λF hl hF=>by
  obtain⟨v,z,C⟩:=FD hc hl hF w;exact⟨v,z,λw' hw=>C w' hw.os hw.tape hw.output⟩
 have ab:(∀t x,o.op≠ .load t x)->rK P o (ev fr) (λv=>K v none)->∃v k,K v k/\KnO st.rs v k/\∀w',Kept (rdX o st.kn X) w w'->(execOp (ev fr) o).run P w'=.ok (.value v) w':=λhl hF=>by
  obtain⟨v,z,C⟩:=hp _ hl hF;exact⟨v,none,z,trivial,C⟩
 obtain⟨dst,op,ty,pos,after,guard⟩:=o;cases op<;>first
  |exact ab (λ_ _ e=>by cases e) h
  |skip
 case move x=>exact⟨_,_,h,Q.kf x,λ_ _=>rfl⟩
 case assign x=>exact⟨_,_,h,Q.kf x,λ_ _=>rfl⟩
 case build t ps=>
  obtain⟨v,z,C⟩:=hp _ (λ_ _ e=>by cases e) h;unfold H7 at z;split at z
  ·exact⟨v,none,z,trivial,C⟩
  ·split at z
   ·rename_i cs;obtain⟨z,h3⟩:=Bq z;refine⟨_,_,z,⟨cs,rfl,λj k A=>?_⟩,C⟩;rw[cj]at A;cases d:nth (upN 0 cs.toList.length) j with
    |none=>rw[d]at A;cases A
    | some i=>
     rw[d]at A;have O4:i=j:=by have:=oX d;omega
     subst O4;injection A with A
     have:=h3 _ _ (uY A);have OP:=bG d;rw[lf]at OP;obtain⟨u,hu⟩:=dF (l:=cs.toList) (i:=i) OP;exact⟨u,by rw[aY]at hu;simpa using hu,by rw[this,hu]⟩
   ·exact z.elim
 case load t x=>
  obtain⟨v,kv,z,C,h3⟩:=xw hS Q (Q.kf x) h;refine⟨v,kv,z,C,λw' hw=>?_⟩;have:=h3 w' hw;simp[execOp,this]
 case nilCheck x=>
  simp only[pP]at h;split at h
  ·rename_i p b;refine⟨_,_,h,by rw[<-b];exact Q.kf x,λw' _=>?_⟩;simp[execOp,b]
  ·exact h.elim
 case fieldAddr s x f=>
  have h:lz P s (ev fr x) f (λv=>K v (yN P s f (V.kf st.kn x))):=h;obtain⟨fields,fd,p,z,C,h3,h4,h5⟩:=Dl h;refine⟨_,_,h4,?_,λw' _=>by simp[execOp,h5]⟩;have b:=Q.kf x;rw[h3]at b;unfold yN;split
  ·rename_i k H;rw[H]at b;rw[z];simp only[C];have b:den U st.rs k=some (.pointer (some p)):=b;cases k with
   | loc id off=>
    show den U st.rs _=_;unfold den at b ⊢;simp only[PK.id]at b ⊢;cases d:nth st.rs id with
    |none=>rw[d]at b;simp[cQ]at b
    | some r=>
     rw[d]at b;cases r<;>simp only[cQ,reduceCtorEq,Option.some.injEq,Value.pointer.injEq]at b ⊢
     rw[<-b,cm]
   | el id li i off=>
    show den U st.rs _=_;unfold den at b ⊢;simp only[PK.id]at b ⊢;cases d:nth st.rs id with
    |none=>rw[d]at b;simp[cQ]at b
    | some r=>
     rw[d]at b;simp only[cQ]at b ⊢;cases B:iA r li with
     |none=>rw[B]at b;cases b
     | some L=>
      simp only[B]at b ⊢;split at b
      ·rename_i J;rw[if_pos J];injection b with b
       injection b with b
       injection b with b
       rw[<-b];unfold elA;rw[<-add_add]
      ·cases b
   | obj id path off=>
    show den U st.rs _=_;unfold den at b ⊢;simp only[PK.id]at b ⊢;cases d:nth st.rs id with
    |none=>rw[d]at b;simp[cQ]at b
    | some r=>
     rw[d]at b;cases r<;>simp only[cQ,reduceCtorEq,Option.some.injEq,Value.pointer.injEq]at b ⊢
     rw[<-b,cm]
   |sl _ _=>exact trivial
  ·exact trivial
 case sliceToArrayPointer arr x=>
  simp only[pP]at h;have b:=Q.kf x;split at h
  ·rename_i id li H;rw[H]at b;have b:den U st.rs (.sl id li)=some (ev fr x):=b;split at h
   ·rename_i r n e d O;split at h
    ·rename_i L B;simp only[den,PK.id,d,cQ,B,Option.some.injEq]at b;obtain⟨⟨h0,hle⟩,I⟩:=h;obtain⟨p,y,R,_⟩:=((hS.res id _ d).ls B).ld (i:=0) (by omega) (by omega);have e1:elA U L.t L.A 0 0=p:=by unfold elA;rw[R];simp[Addr.add]
     obtain⟨v,G,M⟩:=hp (λv=>v=.pointer (some p)) (λ_ _ e=>by cases e) (by
      show(match P.underlying arr,ev fr x with
       |some (.array n _),.slice a len _=>n<=len/\Value.pointer a=.pointer (some p)
       |_,_=>False)
      rw[O,<-b,R];exact⟨hle,rfl⟩)
     subst G;rw[e1]at I;refine⟨_,_,I,?_,M⟩;show den U st.rs (.el id li 0 0)=_;simp only[den,PK.id,d,cQ,B];rw[if_pos (by omega),e1]
    ·exact h.elim
   ·exact h.elim
  ·rename_i q n H;rw[H]at b;obtain⟨a,c,z,C⟩:=(b:∃a c,den U st.rs q=some (.pointer (some a))/\ev fr x=.slice (some a) n c);split at h
   ·rename_i N e v O hd;rw[z]at hd;injection hd with hd
    subst hd;split at h
    ·rename_i hle;obtain⟨v,G,M⟩:=hp (λv=>v=.pointer (some a)) (λ_ _ e=>by cases e) (by
      show(match P.underlying arr,ev fr x with
       |some (.array n _),.slice a len _=>n<=len/\Value.pointer a=.pointer (some _)
       |_,_=>False)
      rw[O,C];exact⟨Nat.le_of_ble_eq_true hle,rfl⟩)
     subst G;exact⟨_,_,h,z,M⟩
    ·exact h.elim
   ·exact h.elim
  ·exact h.elim
 case indexAddr t x i=>
  simp only[pP]at h;have b:=Q.kf x;split at h
  ·rename_i id li k ix H hi;rw[H]at b;have b:den U st.rs (.sl id li)=some (ev fr x):=b;split at h
   ·rename_i r e d O;split at h
    ·rename_i L B;simp only[den,PK.id,d,cQ,B,Option.some.injEq]at b;split at h
     ·rename_i he;simp only[Bool.and_eq_true]at he;have O8:bw P e=(U.en L.t).size:=Nat.eq_of_beq_eq_true he.2;obtain⟨J,I⟩:=h;obtain⟨p,y,R,_⟩:=((hS.res id _ d).ls B).ld J.1 J.2;have G:elA U L.t L.A ix 0=p.add (ix.toNat *bw P e):=by
       unfold elA;rw[R,O8];simp[Addr.add]
      refine⟨_,_,I,?_,λw' _=>?_⟩
      ·show den U st.rs (.el id li ix 0)=_;simp only[den,PK.id,d,cQ,B];rw[if_pos J]
      ·have:=JM (P:=P) (c:=L.c) (k:=k) O he.1 J R w';rw[G];simp[execOp,<-b,hi,this]
     ·exact h.elim
    ·exact h.elim
   ·exact h.elim
  ·rename_i id path off k ix H hi;rw[H]at b;have b:den U st.rs (.obj id path off)=some (ev fr x):=b;split at h
   ·rename_i tt r s li n e d S O;split at h
    ·rename_i L B;simp only[den,PK.id,d,cQ,Option.some.injEq]at b;split at h
     ·rename_i he;simp only[Bool.and_eq_true]at he;have O8:bw P e=(U.en L.t).size:=Nat.eq_of_beq_eq_true he.2;obtain⟨⟨J,Rf⟩,I⟩:=h;unfold Uni.ix1 at S;rw[d]at S;have R:=U.rU S B;have W:nK P t (ev fr x) (ev fr i) (λv=>v=.pointer (some ((Addr.mk (r path) off none).add (ix.toNat *bw P e)))):=by
       unfold nK;rw[O,<-b,hi];simp only[he.1];exact⟨⟨J.1,Rf⟩,ar _ rfl rfl⟩
      obtain⟨v,G,M⟩:=kK W;have aa:elA U L.t L.A ix 0=(Addr.mk (r path) off none).add (ix.toNat *bw P e):=by
       unfold elA;rw[R,O8];simp[Addr.add]
      refine⟨_,_,I,?_,λw' _=>?_⟩
      ·show den U st.rs (.el id li ix 0)=_;simp only[den,PK.id,d,cQ,iA,B];rw[if_pos J]
      ·rw[aa,<-G];simp[execOp,M]
     ·split at h
      ·rename_i he;simp only[Bool.and_eq_true]at he;have z:(U.en L.t).size=1:=Nat.eq_of_beq_eq_true he.2.1;have ah:0<bw P e:=by have:=he.2.2;rwa[Nat.blt_eq]at this
       obtain⟨⟨J,Rf⟩,I⟩:=h;unfold Uni.ix1 at S;rw[d]at S;have R:=U.rU S B;have W:nK P t (ev fr x) (ev fr i) (λv=>v=.pointer (some ((Addr.mk (r path) off none).add (ix.toNat *bw P e)))):=by
        unfold nK;rw[O,<-b,hi];simp only[he.1];exact⟨J,ar _ rfl rfl⟩
       obtain⟨v,G,M⟩:=kK W;obtain⟨k,rfl⟩:∃k:Nat,ix=(k:Int):=⟨ix.toNat,by omega⟩;rw[Int.toNat_natCast]at Rf;have hmul:(k+1)*bw P e=k*bw P e+bw P e:=by rw[Nat.add_mul,Nat.one_mul]
       have P7:((k:Int)*(bw P e:Nat)).toNat=k*bw P e:=by rw[<-Int.natCast_mul,Int.toNat_natCast]
       have aa:elA U L.t L.A ((k:Int)*(bw P e:Nat)) 0=(Addr.mk (r path) off none).add (k*bw P e):=by
        unfold elA;rw[R,P7,z];simp[Addr.add]
       refine⟨_,_,I,?_,λw' _=>?_⟩
       ·show den U st.rs (.el id li ((k:Int)*(bw P e:Nat)) 0)=_;simp only[den,PK.id,d,cQ,iA,B];rw[if_pos ⟨by rw[<-Int.natCast_mul];omega,by rw[<-Int.natCast_mul];omega⟩]
       ·rw[Int.toNat_natCast]at G;rw[aa,<-G];simp[execOp,M]
      ·exact h.elim
    ·exact h.elim
   ·exact h.elim
  ·rename_i id li i0 k ix H hi;rw[H]at b;have b:den U st.rs (.el id li i0 0)=some (ev fr x):=b;split at h
   ·rename_i r n e d O;split at h
    ·rename_i L B;simp only[den,PK.id,d,cQ,B]at b;split at b
     case isFalse=>cases b
     rename_i h0;injection b with b
     split at h
     ·rename_i he;simp only[Bool.and_eq_true]at he;have z:(U.en L.t).size=1:=Nat.eq_of_beq_eq_true he.2.2;have C:bw P e=1:=Nat.eq_of_beq_eq_true he.2.1;obtain⟨⟨J,Rf⟩,I⟩:=h;have W:nK P t (ev fr x) (ev fr i) (λv=>v=.pointer (some ((elA U L.t L.A i0 0).add (ix.toNat *bw P e)))):=by
       unfold nK;rw[O,<-b,hi];simp only[he.1];exact⟨J,ar _ rfl rfl⟩
      obtain⟨v,G,M⟩:=kK W;have aa:elA U L.t L.A (i0+ix) 0=(elA U L.t L.A i0 0).add (ix.toNat *bw P e):=by
       unfold elA;rw[z,C,add_add,add_add,add_add];congr 1;omega
      refine⟨_,_,I,?_,λw' _=>?_⟩
      ·show den U st.rs (.el id li (i0+ix) 0)=_;simp only[den,PK.id,d,cQ,B];rw[if_pos ⟨by omega,Rf⟩]
      ·rw[aa,<-G];simp[execOp,M]
     ·exact h.elim
    ·exact h.elim
   ·exact h.elim
  ·rename_i id off k ix H hi;rw[H]at b;have b:den U st.rs (.loc id off)=some (ev fr x):=b;unfold den at b;simp only[PK.id]at b;cases d:nth st.rs id with
   |none=>rw[d]at b;simp[cQ]at b
   | some r=>
    rw[d]at b;cases r<;>simp only[cQ,reduceCtorEq,Option.some.injEq]at b
    rename_i g cs T;rw[<-b]at h;obtain⟨n,e,k',an,z,C,h3,h4⟩:=HM h;rw[hi]at C;injection C with C ae
    subst C;subst ae;refine⟨_,_,h3,?_,λw' _=>by simp[execOp,<-b,h4]⟩;show den U st.rs _=_;simp only[den,PK.id,d,cQ,HW,z];rw[cm]
  ·exact h.elim
 case extract x i=>
  simp only[pP]at h;split at h
  ·rename_i vs b;obtain⟨v,G,I⟩:=eB h;have Tt:vs[i]? =some v:=by rw[aY]at G;simpa using G
   refine⟨v,_,I,?_,λw' _=>?_⟩
   ·unfold HH;split
    ·rename_i l H;split
     ·rename_i p hl;have:=Q.kf x;rw[H,b]at this;obtain⟨az,e,hh⟩:=this;injection e with e
      subst e;obtain⟨u,hu,hd⟩:=hh i p hl;rw[Tt]at hu;injection hu with hu
      subst hu;exact hd
     ·exact trivial
    ·exact trivial
   ·simp[execOp,Instr.extract,b,Tt]
  ·exact h.elim
 case makeFunc f first cap=>
  refine⟨_,_,h,?_,λw' _=>by rw[AZ,AZ];rfl⟩;have key:∀(a:Array Operand)(j:Nat)(k:PK),nth (aV (λx=>ki (V.kf st.kn x)) a.toList) j=some (some k)->∃u,(⟨aV (ev fr) a.toList⟩:Array Value)[j]? =some u/\den U st.rs k=some u:=by
   intro a j k A;rw[cj]at A;cases d:nth a.toList j with
   |none=>rw[d]at A;cases A
   | some x=>
    rw[d]at A;injection A with A
    refine⟨ev fr x,?_,?_⟩
    ·rw[aY]at d;simp[iW,d]
    ·have:=Q.kf x;unfold ki at A;dsimp only at A;split at A
     ·rename_i q hq;injection A with A
      subst A;rw[hq]at this;exact this
     ·cases A
  exact⟨_,_,_,rfl,by simp,key first,key cap⟩
 case binOp op t x y aA=>
  simp only[pP]at h;split at h
  ·exact h.elim
  ·exact ab (λ_ _ e=>by cases e) h
 case slice t x lo hi mx=>
  cases mx with
  |some _=>exact h.elim
  | none=>
   simp only[pP]at h;have b:=Q.kf x;split at h
   ·rename_i id path off H;rw[H]at b;have b:den U st.rs (.obj id path off)=some (ev fr x):=b;split at h
    ·rename_i tt r s li n e d S O;split at h
     ·rename_i L B;simp only[den,PK.id,d,cQ,Option.some.injEq]at b;split at h
      ·rename_i he;obtain⟨⟨⟨hl,hc⟩,aC⟩,I⟩:=h;unfold Uni.ix1 at S;rw[d]at S;have R:=U.rU S B;have W:n9 P t (ev fr x) none none none (λv=>v=.slice L.A L.l.length L.c) False:=by
        unfold n9;rw[O,<-b];simp only[he,Option.isNone_none,Bool.true_or,Bool.and_self];refine ar _ rfl ?_;unfold oE sm sk;intro a' af n' WE c' VG;subst af WE VG;rw[if_neg (by omega),R,hl,hc];simp[Addr.add]
       rcases n8 W with⟨v,G,M⟩|h
       ·refine⟨_,_,I,?_,λw' _=>?_⟩
        ·show den U st.rs (.sl id li)=_;simp only[den,PK.id,d,cQ,iA,B]
        ·rw[<-G];simp[execOp,M]
       ·exact h.elim
      ·exact h.elim
     ·exact h.elim
    ·exact h.elim
   ·obtain⟨a,n,k,I,P7,W⟩:=GL b h;rcases n8 W with⟨v,G,M⟩|h
    ·refine⟨_,_,I,P7,λw' _=>?_⟩;rw[<-G];simp[execOp,M]
    ·exact h.elim
end
end
end V
open Go Go.RowKit V
open Go.IntKind (i64 u32 u64 wrap_i64 wrap_u32)
def aU(a b:Int):Int:=u32.wrap (a+b)
def tC(a b:Int):Int:=u32.wrap (BitVec.ofInt u32.bits a ^^^ BitVec.ofInt u32.bits b).toNat
def Ig(a b:Int):Int:=u32.wrap (BitVec.ofInt u32.bits a &&& BitVec.ofInt u32.bits b).toNat
def Ns(a:Int):Int:=u32.wrap (BitVec.ofInt u32.bits (if u32.signed then -1 else u32.max) ^^^ BitVec.ofInt u32.bits a).toNat
def oe(w n:Int):Int:=u32.wrap (BitVec.ofInt u32.bits (w.fdiv (2 ^ (min n.toNat u32.bits))) ||| BitVec.ofInt u32.bits (u32.wrap (w*2 ^ (min (32 - n).toNat u32.bits)))).toNat
theorem Ms {k:Int}(h: -31<=k/\k<= -1):u64.wrap (BitVec.ofInt u64.bits (u64.wrap k) &&& BitVec.ofInt u64.bits 31).toNat=32+k:=by
 have:∀j:Fin 31,u64.wrap (BitVec.ofInt u64.bits (u64.wrap (-(j.val+1:Int))) &&& BitVec.ofInt u64.bits 31).toNat=32+ -(j.val+1:Int):=by decide+kernel
 have b:=this ⟨(-k - 1).toNat,by omega⟩;simp only[]at b
 rwa[show(-(((-k - 1).toNat:Nat)+1:Int))=k by omega]at b
theorem lg {x:Int}(h:0<=x/\x<18446744073709551616):u64.wrap x=x:=by rw[IntKind.wrap_u64];omega
theorem rot_eq {x k:Int}(h: -31<=k/\k<= -1):u32.wrap (BitVec.ofInt u32.bits (u32.wrap (x*2 ^ (min (32+k).toNat u32.bits))) ||| BitVec.ofInt u32.bits (x.fdiv (2 ^ (min (u64.wrap (32 - (32+k))).toNat u32.bits)))).toNat=oe x (-k):=by
 rw[lg (by omega),BitVec.or_comm,show 32 - (32+k)= -k by omega];unfold oe;rw[show 32 - -k=32+k by omega]
def sg0(a:Int):Int:=tC (tC (oe a 7) (oe a 18)) (a.fdiv (2 ^ 3))
def sg1(b:Int):Int:=tC (tC (oe b 17) (oe b 19)) (b.fdiv (2 ^ 10))
abbrev back(l:List Int)(t k:Int):Int:=l.getD (Int.toNat (i64.wrap (t - k))) 0
def ua(l:List Int)(t:Int):Int:=aU (aU (aU (back l t 16) (sg0 (back l t 15))) (back l t 7)) (sg1 (back l t 2))
theorem CO(l:List Int)(t:Int):aU (aU (aU (sg1 (back l t 2)) (back l t 7)) (sg0 (back l t 15))) (back l t 16)=ua l t:=by
 unfold ua;generalize sg1 _=a;generalize sg0 _=b;generalize back l t 7=c;generalize back l t 16=d;simp only[aU,u32_eq];omega
def ao(b:List Int):Nat->List Int
 |0=>b++List.replicate 48 0
 |k+1=>(ao b k).set (16+k) (ua (ao b k) ((16+k:Nat):Int))
theorem dH {b:List Int}(h:b.length=16):∀k,(ao b k).length=64
 |0=>by simp[ao,h]
 |k+1=>by simp[ao,dH h k]
theorem rG {b:List Int}{t:Int}(h:16<=t/\t<64):ao b ((i64.wrap (t+1)).toNat - 16)=(ao b (t.toNat - 16)).set t.toNat (ua (ao b (t.toNat - 16)) t):=by
 rw[av (by omega),show(t+1).toNat - 16=(t.toNat - 16)+1 by omega,ao,show 16+(t.toNat - 16)=t.toNat by omega,show((t.toNat:Nat):Int)=t by omega]
def im(b:List Int)(t:Int):List Int:=if t<16 then b.take t.toNat++List.replicate (64 - t.toNat) 0 else ao b (t.toNat - 16)
theorem iD {b:List Int}(h:b.length=16){t:Int}(d:0<=t/\t<=64):(im b t).length=64:=by
 unfold im;split
 ·simp[h];omega
 ·exact dH h _
theorem CQ {b:List Int}(h:b.length=16){t:Int}(d:0<=t/\t<16):im b (i64.wrap (t+1))=(im b t).set t.toNat (b.getD t.toNat 0):=by
 have j:im b (i64.wrap (t+1))=b.take (t.toNat+1)++List.replicate (64 - (t.toNat+1)) 0:=by
  unfold im;rw[av (by omega)];split
  ·rw[show(t+1).toNat=t.toNat+1 by omega]
  ·rw[show(t+1).toNat - 16=0 by omega,show t.toNat+1=16 by omega,ao,List.take_of_length_le (by omega)]
 rw[j];unfold im;rw[if_pos d.2];apply List.ext_getElem?;intro i;simp only[List.getElem?_append,List.getElem?_set,List.length_take,List.length_append,List.length_replicate,List.getElem?_take,List.getElem?_replicate,List.getD_eq_getElem?_getD,h];have k:=List.getElem?_eq_getElem (l:=b) (i:=t.toNat) (by omega);by_cases hi:i=t.toNat
 ·subst hi;rw[k];have n:t.toNat<min (t.toNat+1) 16:=by omega
  have o:t.toNat<min t.toNat 16+(64 - t.toNat):=by omega
  simp[n,o]
 ·grind
theorem Aq {b:List Int}{t:Int}(d:16<=t/\t<64):im b (i64.wrap (t+1))=(im b t).set t.toNat (ua (im b t) t):=by
 unfold im;rw[if_neg (by rw[av (by omega)];omega),if_neg (by omega)];exact rG d
theorem CR {b:List Int}{t:Int}(h:¬t<64)(d:t<=64):im b t=ao b 48:=by
 have:t=64:=by omega
 subst this;rfl
@[ext] structure S8 where
 (a b c d e f g h:Int)
deriving DecidableEq
abbrev g80(l:List U32):S8:=S8.mk (vG l 0) (vG l 1) (vG l 2) (vG l 3) (vG l 4) (vG l 5) (vG l 6) (vG l 7)
abbrev g81(l:List U32):S8:=S8.mk (vG l 1) (vG l 2) (vG l 3) (vG l 4) (vG l 5) (vG l 6) (vG l 7) (vG l 8)
abbrev v8(s:S8):List Value:= [O s.a,O s.b,O s.c,O s.d,O s.e,O s.f,O s.g,O s.h]
abbrev w8(s:S8):Array Value:= #[O s.a,O s.b,O s.c,O s.d,O s.e,O s.f,O s.g,O s.h]
def S8.T1(k w:Int)(s:S8):Int:=aU (aU (aU (aU s.h (tC (tC (oe s.e 6) (oe s.e 11)) (oe s.e 25))) (tC (Ig s.e s.f) (Ig (Ns s.e) s.g))) k) w
def S8.T2(s:S8):Int:=aU (tC (tC (oe s.a 2) (oe s.a 13)) (oe s.a 22)) (tC (tC (Ig s.a s.b) (Ig s.a s.c)) (Ig s.b s.c))
def S8.rnd(k w:Int)(s:S8):S8:=⟨aU (s.T1 k w) s.T2,s.a,s.b,s.c,aU s.d (s.T1 k w),s.e,s.f,s.g⟩
def aG(K W:List Int)(s:S8):Nat->S8
 |0=>s
 |t+1=>S8.rnd (K.getD t 0) (W.getD t 0) (aG K W s t)
theorem dE {K W:List Int}{s:S8}{t:Int}(h:0<=t/\t<64):aG K W s (i64.wrap (t+1)).toNat=S8.rnd (K.getD t.toNat 0) (W.getD t.toNat 0) (aG K W s t.toNat):=by
 rw[av (by omega),show(t+1).toNat=t.toNat+1 by omega,aG]
def S8.add(s v:S8):S8:=⟨aU v.a s.a,aU v.b s.b,aU v.c s.c,aU v.d s.d,aU v.e s.e,aU v.f s.f,aU v.g s.g,aU v.h s.h⟩
def gz(K:List Int)(s:S8)(b:List Int):S8:=s.add (aG K (ao b 48) s 64)
def S8.first:S8:=⟨1779033703,3144134277,1013904242,2773480762,1359893119,2600822924,528734635,1541459225⟩
def S8.ok(s:S8):Prop:=(0<=s.a/\s.a<4294967296)/\(0<=s.b/\s.b<4294967296)/\(0<=s.c/\s.c<4294967296)/\(0<=s.d/\s.d<4294967296)/\(0<=s.e/\s.e<4294967296)/\(0<=s.f/\s.f<4294967296)/\(0<=s.g/\s.g<4294967296)/\(0<=s.h/\s.h<4294967296)
theorem gh(a b:Int):0<=aU a b/\aU a b<4294967296:=by unfold aU;rw[u32_eq];omega
theorem S8.mF(s v:S8):(s.add v).ok:=⟨gh _ _,gh _ _,gh _ _,gh _ _,gh _ _,gh _ _,gh _ _,gh _ _⟩
namespace V
theorem mD:u32.bits=32:=rfl
def nor(x y:Int):Int:=((x.toNat ||| y.toNat:Nat):Int)
def JD(x y:Int):Int:=((x.toNat &&& y.toNat:Nat):Int)
def FM(x y:Int):Int:=((x.toNat ^^^ y.toNat:Nat):Int)
theorem eO {n:Nat}{x:Int}(b:0<=x)(h:x<2 ^ n):(BitVec.ofInt n x).toNat=x.toNat:=by
 rw[BitVec.toNat_ofInt,Int.emod_eq_of_lt b (by exact_mod_cast h)]
theorem oh {x y:Int}(b:0<=x/\x<4294967296)(d:0<=y/\y<4294967296):u32.wrap (BitVec.ofInt u32.bits x ||| BitVec.ofInt u32.bits y).toNat=nor x y:=by
 have h:=BitVec.isLt (BitVec.ofInt 32 x ||| BitVec.ofInt 32 y);rw[mD,bp (by omega),BitVec.toNat_or,eO b.1 b.2,eO d.1 d.2];rfl
theorem tu {x y:Int}(b:0<=x/\x<4294967296)(d:0<=y/\y<4294967296):u32.wrap (BitVec.ofInt u32.bits x &&& BitVec.ofInt u32.bits y).toNat=JD x y:=by
 have h:=BitVec.isLt (BitVec.ofInt 32 x &&& BitVec.ofInt 32 y);rw[mD,bp (by omega),BitVec.toNat_and,eO b.1 b.2,eO d.1 d.2];rfl
theorem IT {x y:Int}(b:0<=x/\x<4294967296)(d:0<=y/\y<4294967296):u32.wrap (BitVec.ofInt u32.bits x ^^^ BitVec.ofInt u32.bits y).toNat=FM x y:=by
 have h:=BitVec.isLt (BitVec.ofInt 32 x ^^^ BitVec.ofInt 32 y);rw[mD,bp (by omega),BitVec.toNat_xor,eO b.1 b.2,eO d.1 d.2];rfl
theorem FN {x y:Int}(b:0<=x/\x<4294967296)(d:0<=y/\y<4294967296):0<=nor x y/\nor x y<4294967296:=by
 have:x.toNat ||| y.toNat<2 ^ 32:=Nat.or_lt_two_pow (by omega) (by omega)
 unfold nor;omega
theorem oo {x y:Int}(b:0<=x/\x<4294967296)(d:0<=y/\y<4294967296):0<=FM x y/\FM x y<4294967296:=by
 have:x.toNat ^^^ y.toNat<2 ^ 32:=Nat.xor_lt_two_pow (by omega) (by omega);unfold FM;omega
theorem iQ(k:Nat){a y:Int}(b:0<=a)(d:0<=y)(h:y<2 ^ k):nor (2 ^ k*a) y=2 ^ k*a+y:=by
 obtain⟨a,rfl⟩:=Int.eq_ofNat_of_zero_le b;obtain⟨y,rfl⟩:=Int.eq_ofNat_of_zero_le d;have i:y<2 ^ k:=by exact_mod_cast h
 have e:((2:Int) ^ k*(a:Int)).toNat=2 ^ k*a:=by
  rw[show(2:Int) ^ k*(a:Int)=((2 ^ k*a:Nat):Int)by push_cast;rfl,Int.toNat_natCast]
 unfold nor;rw[e,Int.toNat_natCast,<-Nat.two_pow_add_eq_or_of_lt i]
 push_cast;rfl
theorem pI(x y:Int):nor x y=nor y x:=by unfold nor;rw[Nat.or_comm]
theorem qE(k:Nat){x:Int}(b:0<=x):JD x (2 ^ k - 1)=x % 2 ^ k:=by
 obtain⟨x,rfl⟩:=Int.eq_ofNat_of_zero_le b;have d:0<2 ^ k:=Nat.two_pow_pos k;have e:((2:Int) ^ k - 1).toNat=2 ^ k - 1:=by
  have:((2:Int) ^ k)=((2 ^ k:Nat):Int):=by push_cast;rfl
  omega
 unfold JD;rw[e,Int.toNat_natCast,Nat.and_two_pow_sub_one_eq_mod]
 push_cast;rfl
theorem kM {x:Int}(n:Nat):x.fdiv (2 ^ n)=x / 2 ^ n:=Int.fdiv_eq_ediv_of_nonneg x (Int.pow_nonneg (by omega))
end V
section
def LO(K:List Int):Nat->S8->List U32->S8×List U32
 |0,s,l=>(s,l)
 |f+1,s,l=>if 16<=l.length then LO K f (gz K s ((l.take 16).map U32.v)) (l.drop 16)else(s,l)
def bn(K:List Int)(s:S8)(l:List U32):S8×List U32:=LO K (l.length / 16) s l
theorem dN {K:List Int}{s:S8}{l:List U32}(h:l.length<16):bn K s l=(s,l):=by
 unfold bn;rw[Nat.div_eq_of_lt h];rfl
theorem dL {K:List Int}{s:S8}{l:List U32}(h:16<=l.length):bn K s l=bn K (gz K s ((l.take 16).map U32.v)) (l.drop 16):=by
 unfold bn;rw[show l.length / 16=(l.drop 16).length / 16+1 by rw[List.length_drop];omega,LO,if_pos h]
theorem jP {K:List Int}{p:S8->List U32->Prop}(b:∀s l,l.length<16->p s l)(d:∀s l,16<=l.length->p (gz K s ((l.take 16).map U32.v)) (l.drop 16)->p s l):∀(n:Nat)(s:S8)(l:List U32),l.length=n->p s l:=by
 intro n
 induction n using Nat.strongRecOn with
 | ind n i=>
  intro s l j;by_cases h:l.length<16
  ·exact b s l h
  ·exact d s l (by omega) (i (l.drop 16).length (by rw[List.length_drop];omega) _ _ rfl)
theorem u7(K:List Int)(s:S8)(l:List U32):(bn K s l).2.length=l.length % 16:=by
 refine jP (K:=K) (p:=λs l=>(bn K s l).2.length=l.length % 16) (λs l h=>?_) (λs l h b=>?_) _ s l rfl
 ·simp only[dN h];rw[Nat.mod_eq_of_lt h]
 ·simp only[dL h];rw[b,List.length_drop];omega
theorem BT(K:List Int)(s:S8)(l:List U32)(x:U32):bn K s (l++ [x])=if(bn K s l).2.length+1=16 then(gz K (bn K s l).1 (((bn K s l).2++ [x]).map U32.v),[])else((bn K s l).1,(bn K s l).2++ [x]):=by
 refine jP (K:=K) (p:=λs l=>bn K s (l++ [x])=if(bn K s l).2.length+1=16 then(gz K (bn K s l).1 (((bn K s l).2++ [x]).map U32.v),[])else((bn K s l).1,(bn K s l).2++ [x])) (λs l h=>?_) (λs l h b=>?_) _ s l rfl
 ·simp only[dN h];split
  ·rename_i d;rw[dL (by simp;omega),List.take_of_length_le (by simp;omega),List.drop_of_length_le (by simp;omega),dN (by simp)]
  ·rw[dN (by simp;omega)]
 ·simp only[dL h];rw[dL (by simp;omega),List.take_append_of_le_length h,List.drop_append_of_le_length h,b]
theorem DC(K:List Int)(s:S8)(l:List U32):∀x∈(bn K s l).2,x∈l:=by
 refine jP (K:=K) (p:=λs l=>∀x∈(bn K s l).2,x∈l) (λs l h=>?_) (λs l h b=>?_) _ s l rfl
 ·simp only[dN h];exact λx h=>h
 ·simp only[dL h];exact λx d=>List.mem_of_mem_drop (b x d)
theorem qR(K:List Int)(s:S8)(l:List U32):s.ok->(bn K s l).1.ok:=by
 refine jP (K:=K) (p:=λs l=>s.ok->(bn K s l).1.ok) (λs l h=>?_) (λs l h b=>?_) _ s l rfl
 ·simp only[dN h];exact λh=>h
 ·simp only[dL h];exact λ_=>b (S8.mF _ _)
theorem jB {l:List U32}(h:16<=l.length):(l.take 16).map U32.v= [(l.getD 0 ⟨0⟩).v,(l.getD 1 ⟨0⟩).v,(l.getD 2 ⟨0⟩).v,(l.getD 3 ⟨0⟩).v,(l.getD 4 ⟨0⟩).v,(l.getD 5 ⟨0⟩).v,(l.getD 6 ⟨0⟩).v,(l.getD 7 ⟨0⟩).v,(l.getD 8 ⟨0⟩).v,(l.getD 9 ⟨0⟩).v,(l.getD 10 ⟨0⟩).v,(l.getD 11 ⟨0⟩).v,(l.getD 12 ⟨0⟩).v,(l.getD 13 ⟨0⟩).v,(l.getD 14 ⟨0⟩).v,(l.getD 15 ⟨0⟩).v]:=by
 rcases l with _|⟨a,_|⟨b,_|⟨c,_|⟨d,_|⟨e,_|⟨f,_|⟨g,_|⟨h,_|⟨i,_|⟨j,_|⟨k,_|⟨m,_|⟨n,_|⟨o,_|⟨p,_|⟨q,r⟩⟩⟩⟩⟩⟩⟩⟩⟩⟩⟩⟩⟩⟩⟩⟩
 all_goals first|rfl|(simp at h;done)
theorem sr {l:List U32}(h:l.length=16):l.map U32.v= [(l.getD 0 ⟨0⟩).v,(l.getD 1 ⟨0⟩).v,(l.getD 2 ⟨0⟩).v,(l.getD 3 ⟨0⟩).v,(l.getD 4 ⟨0⟩).v,(l.getD 5 ⟨0⟩).v,(l.getD 6 ⟨0⟩).v,(l.getD 7 ⟨0⟩).v,(l.getD 8 ⟨0⟩).v,(l.getD 9 ⟨0⟩).v,(l.getD 10 ⟨0⟩).v,(l.getD 11 ⟨0⟩).v,(l.getD 12 ⟨0⟩).v,(l.getD 13 ⟨0⟩).v,(l.getD 14 ⟨0⟩).v,(l.getD 15 ⟨0⟩).v]:=by
 rw[<-jB (by omega),List.take_of_length_le (by omega)]
theorem su {K:List Int}{s:S8}{a l:List U32}{i:Int}{x:U32}{S:S8}{b:List U32}(h:bn K s (a++l.take i.toNat)=(S,b))(hi:0<=i/\i<9000000000000000000)(d:l[i.toNat]? =some x):
 bn K s (a++l.take (i64.wrap (i+1)).toNat)=if b.length+1=16 then(gz K S ((b++ [x]).map U32.v),[])else(S,b++ [x]):=by
 rw[av (by omega),show(i+1).toNat=i.toNat+1 by omega,List.take_add_one,d,<-List.append_assoc,Option.toList_some,BT,h]
theorem Fq {l:List Int}{r:List U32}{i:Int}{x:U32}(h:0<=i/\i<16)(b:r[i.toNat]? =some x):il l 10 ((r.map U32.v).take (i64.wrap (i+1)).toNat)=(il l 10 ((r.map U32.v).take i.toNat)).set (Int.toNat (i64.wrap (10+i))) x.v:=by
 have d:i.toNat<r.length:=(List.getElem?_eq_some_iff.1 b).1;rw[av (by omega),av (by omega),show(i+1).toNat=i.toNat+1 by omega,List.take_add_one,List.getElem?_map,b,Option.map_some,Option.toList_some,wX,List.length_take,List.length_map,show(10+i).toNat=10+min i.toNat r.length by omega]
structure Dg where
 st:S8
 n:Int
 waits:List U32
namespace Dg
def new:Dg:=⟨S8.first,0,[]⟩
def add(K:List Int)(d:Dg)(l:List U32):Dg:=if(l.length:Int)>36028797018963968 - d.n then d else⟨(bn K d.st (d.waits++l)).1,d.n+l.length,(bn K d.st (d.waits++l)).2⟩
structure Ok(d:Dg):Prop where
 n:0<=d.n/\d.n<=36028797018963968
 len:d.waits.length=(d.n % 16).toNat
 st:d.st.ok
 words:∀x∈d.waits,0<=x.v/\x.v<4294967296
theorem ot:new.Ok:=⟨by decide,rfl,by unfold S8.ok new S8.first;decide,by simp[new]⟩
theorem mF {K:List Int}{d:Dg}{l:List U32}(h:d.Ok)(i:∀x∈l,0<=x.v/\x.v<4294967296):(d.add K l).Ok:=by
 unfold add;split
 ·exact h
 ·have k:=h.n;have hw:=h.len;refine⟨⟨by show 0<=d.n+_;omega,by show d.n+_<=_;omega⟩,?_,qR _ _ _ h.st,λx j=>?_⟩
  ·show(bn K d.st (d.waits++l)).2.length=((d.n+l.length) % 16).toNat;rw[u7,List.length_append,hw];omega
  ·rcases List.mem_append.1 (DC _ _ _ x j)with b|b
   ·exact h.words x b
   ·exact i x b
def save(d:Dg):List Int:= [d.st.a,d.st.b,d.st.c,d.st.d,d.st.e,d.st.f,d.st.g,d.st.h,d.n / 4294967296,d.n % 4294967296]++(d.waits.map U32.v++List.replicate (16 - d.waits.length) 0)
def KV(l:List U32):S8:=⟨(l.getD 0 ⟨0⟩).v,(l.getD 1 ⟨0⟩).v,(l.getD 2 ⟨0⟩).v,(l.getD 3 ⟨0⟩).v,(l.getD 4 ⟨0⟩).v,(l.getD 5 ⟨0⟩).v,(l.getD 6 ⟨0⟩).v,(l.getD 7 ⟨0⟩).v⟩
def nOf(l:List U32):Int:=(l.getD 8 ⟨0⟩).v*4294967296+(l.getD 9 ⟨0⟩).v
def load(l:List U32):Dg:=⟨KV l,nOf l,(l.drop 10).take (nOf l % 16).toNat⟩
theorem save_eq {d:Dg}(h:d.Ok){x y:Int}{n:Nat}(b:x=d.n / 4294967296)(i:y=d.n % 4294967296)(j:d.waits.length=n):
 il (((il (List.replicate 26 0) 0 (List.take (min 8 8) [d.st.a,d.st.b,d.st.c,d.st.d,d.st.e,d.st.f,d.st.g,d.st.h])).set 8 x).set 9 y) 10 ((List.map U32.v d.waits).take (min n 16))=d.save:=by
 have k:=h.len;have o:=h.n;subst b i j;rw[List.take_of_length_le (l:=List.map U32.v d.waits) (by simp;omega)];have e:(((il (List.replicate 26 0) 0 (List.take (min 8 8) [d.st.a,d.st.b,d.st.c,d.st.d,d.st.e,d.st.f,d.st.g,d.st.h])).set 8 (d.n / 4294967296)).set 9 (d.n % 4294967296))= [d.st.a,d.st.b,d.st.c,d.st.d,d.st.e,d.st.f,d.st.g,d.st.h,d.n / 4294967296,d.n % 4294967296]++(List.replicate d.waits.length 0++List.replicate (16 - d.waits.length) 0):=by
  rw[List.replicate_append_replicate,show d.waits.length+(16 - d.waits.length)=16 by omega];rfl
 rw[e];exact tX [d.st.a,d.st.b,d.st.c,d.st.d,d.st.e,d.st.f,d.st.g,d.st.h,d.n / 4294967296,d.n % 4294967296] (d.waits.map U32.v) _ _ (by simp)
theorem GQ {n:Int}(h:0<=n/\n<=36028797018963968):u32.wrap ((u64.wrap n:Int).fdiv (2 ^ 32))=n / 4294967296:=by
 rw[lg (by omega),kM,bp (by omega)];rfl
def bK(l:List U32):Int:=
 if l.length≠26 then 20 else if nOf l>36028797018963968\/(nOf l<16/\KV l≠S8.first)then 20
 else if(l.drop (10+(nOf l % 16).toNat)).all (λx=>x.v==0)then 0 else 20
def zero:Dg:=⟨⟨0,0,0,0,0,0,0,0⟩,0,[]⟩
def j4(l:List U32):Dg:=if bK l=0 then load l else zero
theorem j5 {l:List U32}(h:l.length=26)(b:¬(nOf l>36028797018963968\/(nOf l<16/\KV l≠S8.first))){i:Nat}{x:U32}(d:(l.drop (10+(nOf l % 16).toNat))[i]? =some x)(j:¬x.v=0):bK l=20:=by
 unfold bK;rw[if_neg (by simpa using h),if_neg b,if_neg];rw[List.all_eq_true];intro k;exact j (by simpa using k x (List.mem_of_getElem? d))
end Dg
structure DgL where
 Y:Nat->Prop
 a:Option Addr
 n:Nat
 c:Nat
def DgL.X(L:DgL)(g:Nat):Nat->Prop:=λk=>k=g\/L.Y k
structure kY(w:World)(g:Nat)(L:DgL)(D:Dg):Prop where
 blk:∃T,Blk w g #[.int .u32 D.st.a,.int .u32 D.st.b,.int .u32 D.st.c,.int .u32 D.st.d,.int .u32 D.st.e,.int .u32 D.st.f,.int .u32 D.st.g,.int .u32 D.st.h,.int .i64 D.n,.slice L.a L.n L.c] T
 rd:Rd w L.Y L.a L.n L.c D.waits
 off:¬L.Y g
variable {w w':World}{g:Nat}{L:DgL}{D:Dg}{X:Nat->Prop}
theorem kY.lt(h:kY w g L D):∀k,L.X g k->k<w.heap.size:=by
 rintro k (rfl|d)
 ·obtain⟨T,b⟩:=h.blk;exact b.lt
 ·exact h.rd.lt k d
theorem kY.ch(h:kY w g L D)(d:Ch X w w')(i:∀k,L.X g k->¬X k):kY w' g L D:=
 ⟨h.blk.imp λ_ b=>d.blk b (i g (.inl rfl)),h.rd.ch d λk d=>i k (.inr d),h.off⟩
theorem kY.pu(h:kY w g L D)(b:Pu w w'):kY w' g L D:=h.ch b (by simp)
end
structure Mem where
 S:Nat
 I:Nat
 pg:Bool->Nat->Nat->Int
namespace Mem
def cnt(m:Mem)(s:Bool):Nat:=match s with
 |true=>m.S
 |false=>m.I
def has(m:Mem)(s:Bool)(p:Int):Bool:=decide (0<=p/\p<(m.cnt s:Int))
def eF(o:Int):Bool:=decide (0<=o/\o<1024)
def aI(m:Mem)(s:Bool)(p o:Int):Int:=if m.has s p && eF o then m.pg s p.toNat o.toNat else 0
def tick(m:Mem)(_:Int):Mem:=m
def fill(m:Mem)(s:Bool)(p:Nat)(f:Nat->Int):Mem:= {m with pg:=λb d h=>if b=s/\d=p then f h else m.pg b d h}
def put(m:Mem)(s:Bool)(p o:Nat)(v:Int):Mem:=m.fill s p λb=>if b=o then v else m.pg s p b
def err(m:Mem)(s:Bool)(p o:Int):Int:=if m.has s p then(if eF o then 0 else 70)else 5
def write(m:Mem)(s:Bool)(p o v:Int):Mem:=if m.has s p && eF o then(m.put s p.toNat o.toNat v).tick 1 else m
def cX(m:Mem)(s:Bool)(p:Int):Int:=if m.has s p then 0 else 5
def zero(m:Mem)(s:Bool)(p:Int):Mem:=if m.has s p then(m.fill s p.toNat λ_=>0).tick 1024 else m
def fresh(S I:Nat):Mem:= {S,I,pg:=λ_ _ _=>0}
@[simp] theorem MY(m:Mem)(n:Int)(s:Bool):(m.tick n).cnt s=m.cnt s:=by cases s<;>rfl
@[simp] theorem MZ(m:Mem)(b:Bool)(p:Nat)(f:Nat->Int)(s:Bool):(m.fill b p f).cnt s=m.cnt s:=by cases s<;>rfl
@[simp] theorem Nf(m:Mem)(b:Bool)(p o:Nat)(v:Int)(s:Bool):(m.put b p o v).cnt s=m.cnt s:=by cases s<;>rfl
theorem fB {m:Mem}{s:Bool}{p:Int}(h:m.has s p=true):0<=p/\p<(m.cnt s:Int):=by simpa[has]using h
theorem fC {m:Mem}{s:Bool}{p:Int}(h:m.has s p=true):p.toNat<m.cnt s:=by have:=fB h;omega
theorem jt {o:Int}(h:eF o=true):0<=o/\o<1024:=by simpa[eF]using h
end Mem
def EM:List Nat:=(rgN 2 194++ [220])
theorem Ds:gn prog EM=true:=by kernel_rfl
theorem ak:prog.follows .mixedOrders=true:=by kernel_rfl
abbrev aN(a:Ann):Ann:=.node none .leaf a
abbrev cg(R:bq)(e:Ending)(w:World):Prop:=∃v,e=.returned v/\R v w
theorem rvc(N:List Nat)(b:Ann){f:FuncId}{fn:Func}{args:List Value}{R:bq}{w:World}{F:Prop}(d:prog.funcs[f]? =some fn)(h:F)(he:F=vcF prog EM N fn b args R none w:=by kernel_rfl):Calls prog f ⟨args⟩ w (cg R):=
 wg d Ds ak (he.mp h)
theorem GA(m:oA)(u:Bool)(v:Int){R:bq}{w:World}(h:∀(j:Nat)(b:World),j=w.heap.size->b=w.alloc (.cells #[vB u,J v] 39)->ay m λA=>∃x:oA,∃q B:Nat,b.cell? (A.add 1)=some (.slice x q B)/\∃y:Bool,b.cell? ((vA j).add 0)=some (vB y)/\split y (ay m λC=>∃z:oA,∃r F:Nat,b.cell? (C.add 0)=some (.slice z r F)/\∃k:Bool->World->Prop,(∃l:Int,b.cell? ((vA j).add 1)=some (J l)/\split (decide ((l:Int)<0)) (k true b) (∃n:Int,b.cell? ((vA j).add 1)=some (J n)/\k (decide ((n:Int)>=((r:Nat):Int))) b))/\∀(G:Nat->Value)(o:Bool),∀d,k o d->split o (R (.pointer none) d) (∃i:Int,d.cell? ((vA j).add 1)=some (J i)/\(0<=(i:Int)/\(i:Int)<((r:Nat):Int))/\ay z λt=>∃p:oA,d.cell? (t.add (Int.toNat i*1))=some (.pointer p)/\R (.pointer p) d)) (∃k:Bool->World->Prop,(∃l:Int,b.cell? ((vA j).add 1)=some (J l)/\split (decide ((l:Int)<0)) (k true b) (∃n:Int,b.cell? ((vA j).add 1)=some (J n)/\k (decide ((n:Int)>=((q:Nat):Int))) b))/\∀(G:Nat->Value)(o:Bool),∀d,k o d->split o (R (.pointer none) d) (∃i:Int,d.cell? ((vA j).add 1)=some (J i)/\(0<=(i:Int)/\(i:Int)<((q:Nat):Int))/\ay x λt=>∃p:oA,d.cell? (t.add (Int.toNat i*1))=some (.pointer p)/\R (.pointer p) d))):Calls prog 89 #[(.pointer m),(.agg #[vB u,J v])] w (cg R):=rvc [] (aN (aN (aN (.node none (.node none (.node (some ⟨[(25,.one (.bool))],(rgN 16 10)⟩) .leaf .leaf) .leaf) .leaf)))) Tryz.func89 h
theorem DZ(m:oA)(i:Bool)(j:Int){R:bq}{w:World}(h:∀(d:Nat)(b:World),d=w.heap.size->b=w.alloc (.cells #[vB i,J j] 39)->∃k:Bool,∃l:Int,(b.cell? ((vA d).add 0)=some (vB k)/\b.cell? ((vA d).add 1)=some (J l))/\Calls prog 89 #[(.pointer m),(.agg #[vB k,J l])] b λe o=>∃n:oA,e=.returned (.pointer n)/\R (vB (!n.isNone)) o):Calls prog 176 #[(.pointer m),(.agg #[vB i,J j])] w (cg R):=rvc [] (.leaf) Tryz.func176 h
theorem sX(m:oA){R:bq}{w:World}(h:ay m λd=>∃i:oA,∃b j:Nat,w.cell? (d.add 1)=some (.slice i b j)/\R (J ((b:Nat):Int)) w):Calls prog 45 #[(.pointer m)] w (cg R):=rvc [] (.leaf) Tryz.func45 h
theorem Cm(n:Int){R:bq}{w:World}(h:∃j:oA,∃d k:Nat,∃l,(Instr.makeSlice 91 (J n) (J n):Sem Value).run prog w=.ok (.slice j d k) l/\∃I:Nat->Int->World->Prop,(∃m,I m 0 l)/\∀(m:Nat)(u:Nat->Value)(b:Int),∀i,I m b i->split (decide ((b:Int)<((d:Nat):Int))) (∀(o:Nat)(p:World),o=i.heap.size->p=i.alloc (.cells (Array.replicate 1024 (O 0)) 161)->(0<=(b:Int)/\(b:Int)<((d:Nat):Int))/\ay j λr=>aF p (r.add (Int.toNat b*1)) [(.pointer (pvA o))] λt=>∃q,q<m/\I q (i64.wrap (b+1)) t) (R (.slice j d k) i)):Calls prog 49 #[J n] w (cg R):=rvc [] (aN (aN (.node none (aN (.node none (.node (some ⟨[(9,.one (.int .i64))],[4,9,10,11,12,13,14,15,16,17]⟩) .leaf .leaf) .leaf)) .leaf))) Tryz.func49 h
theorem DX(bz d:Int){R:bq}{w:World}(h:∃b:Bool->World->Prop,(split (decide ((bz:Int)<1)) (b true w) (split (decide ((bz:Int)>64)) (b true w) (split (decide ((d:Int)<1)) (b true w) (b (decide ((d:Int)>64)) w))))/\∀(x:Nat->Value)(j:Bool),∀i,b j i->split j (R (.tuple #[(.pointer none),J 1]) i) (Calls prog 49 #[J bz] i λe v=>∃k:oA,∃l n:Nat,e=.returned (.slice k l n)/\Calls prog 49 #[J d] v λe o=>∃p:oA,∃q r:Nat,e=.returned (.slice p q r)/\∀(t:Nat)(u:World),t=o.heap.size->u=o.alloc (.cells #[(.slice k l n),(.slice p q r),J 0] 94)->R (.tuple #[(.pointer (pvA t)),J 0]) u)):Calls prog 14 #[J bz,J d] w (cg R):=rvc [] (aN (.node none (.node none (.node (some ⟨[(19,.one (.bool))],(rgN 6 14)⟩) .leaf .leaf) .leaf) .leaf)) Tryz.func14 h
theorem Cl(m:oA)(n:Bool)(o off:Int){R:bq}{w:World}(h:∀(j:Nat)(b:World),j=w.heap.size->b=w.alloc (.cells #[vB n,J o] 39)->∃p:Bool,∃q:Int,(b.cell? ((vA j).add 0)=some (vB p)/\b.cell? ((vA j).add 1)=some (J q))/\Calls prog 89 #[(.pointer m),(.agg #[vB p,J q])] b λe k=>∃l:oA,e=.returned (.pointer l)/\∃d:Bool->World->Prop,(split l.isNone (d true k) (split (decide ((off:Int)<0)) (d true k) (d (decide ((off:Int)>=1024)) k)))/\∀(v:Nat->Value)(r:Bool),∀i,d r i->split r (R (O 0) i) (ay l λu=>(0<=(off:Int)/\(off:Int)<((1024:Nat):Int))/\∃t:Int,i.cell? (u.add (Int.toNat off*1))=some (O t)/\R (O t) i)):Calls prog 47 #[(.pointer m),(.agg #[vB n,J o]),J off] w (cg R):=rvc [] (aN (aN (.node none (.node none (.node (some ⟨[(20,.one (.bool))],(rgN 11 10)⟩) .leaf .leaf) .leaf) .leaf))) Tryz.func47 h
theorem Ck(m:oA)(k:Bool)(l off:Int){R:bq}{w:World}(h:∀(d:Nat)(b:World),d=w.heap.size->b=w.alloc (.cells #[vB k,J l] 39)->∃n:Bool,∃o:Int,(b.cell? ((vA d).add 0)=some (vB n)/\b.cell? ((vA d).add 1)=some (J o))/\Calls prog 72 #[(.pointer m),(.agg #[vB n,J o]),J off] b λe i=>∃p:oA,∃j:Int,e=.returned (.tuple #[(.pointer p),J j])/\split ((j:Int) !=0) (R (.tuple #[O 0,J j]) i) (ay p λr=>∃q:Int,i.cell? r=some (O q)/\R (.tuple #[O q,J 0]) i)):Calls prog 135 #[(.pointer m),(.agg #[vB k,J l]),J off] w (cg R):=rvc [] (.leaf) Tryz.func135 h
theorem wJ(m:oA){R:bq}{w:World}(h:ay m λd=>∃i:oA,∃b j:Nat,w.cell? (d.add 0)=some (.slice i b j)/\R (J ((b:Nat):Int)) w):Calls prog 46 #[(.pointer m)] w (cg R):=rvc [] (.leaf) Tryz.func46 h
theorem zI(m:oA)(k:Bool)(l times:Int){R:bq}{w:World}(h:∀(d:Nat)(b:World),d=w.heap.size->b=w.alloc (.cells #[vB k,J l] 39)->∃n:Bool,∃o:Int,(b.cell? ((vA d).add 0)=some (vB n)/\b.cell? ((vA d).add 1)=some (J o))/\Calls prog 89 #[(.pointer m),(.agg #[vB n,J o])] b λe i=>∃j:oA,e=.returned (.pointer j)/\split j.isNone (R (.tuple #[(.pointer none),J 5]) i) (ay m λq=>∃p:Int,i.cell? (q.add 2)=some (J p)/\ay m λr=>aF i (r.add 2) [J (i64.wrap (p+(i64.wrap (times*1024))))] λt=>R (.tuple #[(.pointer j),J 0]) t)):Calls prog 90 #[(.pointer m),(.agg #[vB k,J l]),J times] w (cg R):=rvc [] (.leaf) Tryz.func90 h
theorem Cj(m:oA)(n:Bool)(o off:Int){R:bq}{w:World}(h:∀(i:Nat)(b:World),i=w.heap.size->b=w.alloc (.cells #[vB n,J o] 39)->∃p:Bool,∃q:Int,(b.cell? ((vA i).add 0)=some (vB p)/\b.cell? ((vA i).add 1)=some (J q))/\Calls prog 89 #[(.pointer m),(.agg #[vB p,J q])] b λe j=>∃k:oA,e=.returned (.pointer k)/\split k.isNone (R (.tuple #[(.pointer none),J 5]) j) (∃l:Bool->World->Prop,(split (decide ((off:Int)<0)) (l true j) (l (decide ((off:Int)>=1024)) j))/\∀(z:Nat->Value)(r:Bool),∀d,l r d->split r (R (.tuple #[(.pointer none),J 70]) d) (ay m λu=>∃t:Int,d.cell? (u.add 2)=some (J t)/\ay m λv=>aF d (v.add 2) [J (i64.wrap (t+1))] λx=>ay k λy=>(0<=(off:Int)/\(off:Int)<((1024:Nat):Int))/\R (.tuple #[(.pointer (some (y.add (Int.toNat off*1)))),J 0]) x))):Calls prog 72 #[(.pointer m),(.agg #[vB n,J o]),J off] w (cg R):=rvc [] (aN (aN (aN (.node none (.node none (.node (some ⟨[(19,.one (.bool))],(rgN 14 6)⟩) .leaf .leaf) .leaf) .leaf)))) Tryz.func72 h
theorem zH(m:oA)(j:Bool)(k off v:Int){R:bq}{w:World}(h:∀(i:Nat)(b:World),i=w.heap.size->b=w.alloc (.cells #[vB j,J k] 39)->∃l:Bool,∃n:Int,(b.cell? ((vA i).add 0)=some (vB l)/\b.cell? ((vA i).add 1)=some (J n))/\Calls prog 72 #[(.pointer m),(.agg #[vB l,J n]),J off] b λe o=>∃p:oA,∃d:Int,e=.returned (.tuple #[(.pointer p),J d])/\split ((d:Int)==0) (ay p λq=>aF o q [O v] λr=>R (J d) r) (R (J d) o)):Calls prog 35 #[(.pointer m),(.agg #[vB j,J k]),J off,O v] w (cg R):=rvc [] (.leaf) Tryz.func35 h
theorem Ci(m:oA)(j:Bool)(k:Int){R:bq}{w:World}(h:∀(i:Nat)(b:World),i=w.heap.size->b=w.alloc (.cells #[vB j,J k] 39)->∃l:Bool,∃n:Int,(b.cell? ((vA i).add 0)=some (vB l)/\b.cell? ((vA i).add 1)=some (J n))/\Calls prog 90 #[(.pointer m),(.agg #[vB l,J n]),J 1] b λe o=>∃p:oA,∃d:Int,e=.returned (.tuple #[(.pointer p),J d])/\split ((d:Int)==0) (ay p λq=>∀r:oA,r=(some (if 1024=0 then q else q.add (0*1)))->∀t:Nat,t=1024 - 0->∀u:Nat,u=1024 - 0->∃v,(Builtin.clear_ #[31] 0 #[(.slice r t u)]:Sem Value).run prog o=.ok (.tuple #[]) v/\R (J d) v) (R (J d) o)):Calls prog 50 #[(.pointer m),(.agg #[vB j,J k])] w (cg R):=rvc [] (.leaf) Tryz.func50 h
section
structure gE where
 g:Nat
 a:Nat
 b:Nat
 pg:Bool->Nat->Nat
 n:Bool->Nat
def gE.row(L:gE)(s:Bool):Nat:=match s with
 |true=>L.a
 |false=>L.b
def gE.X(L:gE):Nat->Prop:=λk=>k=L.g\/k=L.a\/k=L.b\/∃s i,i<L.n s/\k=L.pg s i
abbrev ptr(g:Nat):Value:=.pointer (pvA g)
abbrev fr(s:Bool)(p:Int):Value:=.agg #[.bool s,.int .i64 p]
structure dW(w:World)(L:gE)(m:Mem):Prop where
 cnt:∀s,L.n s=m.cnt s
 hd:∃T:TypeId×Int,Blk w L.g #[.slice (some (Addr.mk L.a 0 none)) m.S m.S,.slice (some (Addr.mk L.b 0 none)) m.I m.I,.int .i64 T.2] T.1
 rows:∀s,∃T cs,Blk w (L.row s) cs T/\∀i,i<m.cnt s->cs[i]? =some (ptr (L.pg s i))
 pgs:∀s i,i<m.cnt s->∃T cs,Blk w (L.pg s i) cs T/\cs.size=1024/\∀o,o<1024->cs[o]? =some (O (m.pg s i o))
 inj:∀s i s' i',i<m.cnt s->i'<m.cnt s'->L.pg s i=L.pg s' i'->s=s'/\i=i'
 dis:L.a≠L.g/\L.b≠L.g/\∀s i,i<m.cnt s->L.pg s i≠L.g/\L.pg s i≠L.a/\L.pg s i≠L.b
 u32:∀s i o,0<=m.pg s i o/\m.pg s i o<4294967296
 most:m.S<=64/\m.I<=64
theorem dW.inX {w:World}{L:gE}{m:Mem}(h:dW w L m){s:Bool}{i:Nat}(hi:i<m.cnt s):L.X (L.pg s i):=.inr (.inr (.inr ⟨s,i,by rw[h.cnt];exact hi,rfl⟩))
theorem dW.kept {w w':World}{L:gE}{m:Mem}{B:Nat->Prop}(h:dW w L m)(b:Kept B w w')(d:∀k,L.X k->B k):dW w' L m:=by
 refine⟨h.cnt,?_,λs=>?_,λs i hi=>?_,h.inj,h.dis,h.u32,h.most⟩
 ·obtain⟨T,hd⟩:=h.hd;exact⟨T,hd.kept b (d _ (.inl rfl))⟩
 ·obtain⟨T,cs,j,l⟩:=h.rows s;exact⟨T,cs,j.kept b (d _ (by cases s<;>simp[gE.X,gE.row])),l⟩
 ·obtain⟨T,cs,j,l⟩:=h.pgs s i hi;exact⟨T,cs,j.kept b (d _ (h.inX hi)),l⟩
theorem dW.lt {w:World}{L:gE}{m:Mem}(h:dW w L m):∀k,L.X k->k<w.heap.size:=by
 rintro k (rfl|rfl|rfl|⟨s,i,hi,rfl⟩)
 ·obtain⟨T,hd⟩:=h.hd;exact hd.lt
 ·obtain⟨T,cs,b,d⟩:=h.rows true;exact b.lt
 ·obtain⟨T,cs,b,d⟩:=h.rows false;exact b.lt
 ·obtain⟨T,cs,b,d⟩:=h.pgs s i (by rw[<-h.cnt];exact hi);exact b.lt
theorem dW.ch {w w':World}{L:gE}{m:Mem}{Y:Nat->Prop}(h:dW w L m)(d:Ch Y w w')(i:∀k,L.X k->¬Y k):dW w' L m:=
 h.kept d.kept λk b=>⟨h.lt k b,i k b⟩
theorem dW.pu {w w':World}{L:gE}{m:Mem}(h:dW w L m)(b:Pu w w'):dW w' L m:=h.ch b (by simp)
theorem dW.Kw {w w2:World}{L:gE}{m:Mem}(h:dW w L m){T:TypeId}{x:Int}(hs:cJ w L.g #[.slice (some (Addr.mk L.a 0 none)) m.S m.S,.slice (some (Addr.mk L.b 0 none)) m.I m.I,.int .i64 x] T w2):dW w2 L m:=by
 have j:∀k,k≠L.g->(λk=>k≠L.g) k:=λ_ h=>h;refine⟨h.cnt,⟨(T,x),hs.blk⟩,λs=>?_,λs i hi=>?_,h.inj,h.dis,h.u32,h.most⟩
 ·obtain⟨T,cs,b,d⟩:=h.rows s;exact⟨T,cs,hs.old b (by cases s<;>simp[gE.row,h.dis.1,h.dis.2.1]),d⟩
 ·obtain⟨T,cs,b,d⟩:=h.pgs s i hi;exact⟨T,cs,hs.old b (h.dis.2.2 s i hi).1,d⟩
theorem dW.aE {w w2:World}{L:gE}{m:Mem}(h:dW w L m){s:Bool}{i:Nat}(hi:i<m.cnt s){cs:Array Value}{T:TypeId}{f:Nat->Int}(hs:cJ w (L.pg s i) cs T w2)(q:cs.size=1024)(r:∀o,o<1024->cs[o]? =some (O (f o)))
 (hu:∀o,0<=f o/\f o<4294967296):dW w2 L (m.fill s i f):=by
 obtain⟨t,hd⟩:=h.hd;refine⟨λs=>by rw[h.cnt];simp,⟨t,hs.old hd (λe=>(h.dis.2.2 s i hi).1 e.symm)⟩,λb=>?_,λb j u=>?_,λs1 i1 s2 i2 k d=>h.inj s1 i1 s2 i2 (by simpa using k) (by simpa using d),⟨h.dis.1,h.dis.2.1,λs1 i1 k=>h.dis.2.2 s1 i1 (by simpa using k)⟩,λb j o=>?_,h.most⟩
 ·obtain⟨T,cs,l,d⟩:=h.rows b;refine⟨T,cs,hs.old l ?_,by simpa using d⟩;have:=(h.dis.2.2 s i hi).2;cases b<;>simp only[gE.row]
  ·exact λe=>this.2 e.symm
  ·exact λe=>this.1 e.symm
 ·have p:j<m.cnt b:=by simpa using u
  by_cases hq:b=s/\j=i
  ·obtain⟨rfl,rfl⟩:=hq;exact⟨T,cs,hs.blk,q,λo n=>by rw[r o n];simp[Mem.fill]⟩
  ·obtain⟨T,cs,l,d,v⟩:=h.pgs b j p;refine⟨T,cs,hs.old l (λe=>hq (h.inj _ _ _ _ p hi e)),d,λo n=>?_⟩;rw[v o n];simp only[Mem.fill];rw[if_neg hq]
 ·simp only[Mem.fill];split
  ·exact hu o
  ·exact h.u32 _ _ _
theorem ML {w:World}{g i:Nat}{cs:Array Value}{T:TypeId}{k:IntKind}{x:Int}{K:Int->Prop}(b:Blk w g cs T)(hi:cs[i]? =some (.int k x))(d:K x):
 ay (pvA g) λp=>∃x:Int,w.cell? (p.add i)=some (.int k x)/\K x:=ar _ rfl ⟨_,b.at hi,d⟩
theorem JQ {w:World}{g i:Nat}{cs:Array Value}{T:TypeId}{A:Option Addr}{n c:Nat}{K:Option Addr->Nat->Nat->Prop}(b:Blk w g cs T)(hi:cs[i]? =some (.slice A n c))(d:K A n c):
 ay (pvA g) λp=>∃(A:oA)(n c:Nat),w.cell? (p.add i)=some (.slice A n c)/\K A n c:=ar _ rfl ⟨_,_,_,b.at hi,d⟩
section
variable {w:World}{L:gE}{m:Mem}
theorem mAt(h:dW w L m)(s:Bool)(p:Int):
 Calls prog 89 #[ptr L.g,fr s p] w λe w'=>∃v,e=.returned v/\v=.pointer (if m.has s p then some (Addr.mk (L.pg s p.toNat) 0 none)else none)/\Pu w w':=by
 refine GA _ s p ?_;intro q w1 H hw;have i:=made H hw;have u:=h.pu i.pu;obtain⟨T,hd⟩:=u.hd;refine JQ hd rfl ⟨_,i.blk.at rfl,?_⟩;have fin:∀(a n:Nat),n=m.cnt s->a=L.row s->
  ∃j:Bool->World->Prop,(
  ∃y:Int,w1.cell? ((vA q).add 1)=some (J y)/\
  split (decide ((y:Int)<0)) (
   j true w1) (
   ∃z:Int,w1.cell? ((vA q).add 1)=some (J z)/\
   j (decide ((z:Int)>=((n:Nat):Int))) w1))/\∀(Q:Nat->Value)(A:Bool),∀k,j A k->
  split A (
   (∃v,v=(Value.pointer none)/\v=.pointer (if m.has s p then some (Addr.mk (L.pg s p.toNat) 0 none)else none)/\Pu w k)) (
   ∃o:Int,k.cell? ((vA q).add 1)=some (J o)/\
   (0<=(o:Int)/\(o:Int)<((n:Nat):Int))/\
   ay (pvA a) λI=>
   ∃B:oA,k.cell? (I.add (Int.toNat o*1))=some (.pointer B)/\
   (∃v,v=(Value.pointer B)/\v=.pointer (if m.has s p then some (Addr.mk (L.pg s p.toNat) 0 none)else none)/\Pu w k)):=by
  intro a n C M;refine⟨λb w'=>w1=w'/\b= !(m.has s p),⟨_,i.blk.at rfl,aj (λd=>⟨rfl,?_⟩) (λd=>⟨_,i.blk.at rfl,rfl,?_⟩)⟩,?_⟩
  ·simp at d;simp[Mem.has];omega
  ·simp at d;subst C;simp only[Mem.has,ge_iff_le];rw[Bool.eq_iff_iff];simp;omega
  ·rintro _ x _ ⟨rfl,rfl⟩;refine aj (λd=>⟨_,rfl,?_,i.pu⟩) (λd=>?_)
   ·simp at d;simp[d]
   ·have F:m.has s p=true:=by simpa using d
    have N:0<=p/\p<(n:Int):=by subst C;simpa[Mem.has]using F
    obtain⟨T2,cs,G,O⟩:=u.rows s;rw[<-M]at G;refine⟨_,i.blk.at rfl,N,ar _ rfl ⟨_,?_,_,rfl,by rw[if_pos F],i.pu⟩⟩;rw[Nat.mul_one];exact G.at (O _ (by omega))
 refine aj (λd=>?_) (λd=>?_)
 ·subst d;exact JQ hd rfl (by
   obtain⟨j,l⟩:=fin L.a m.S rfl rfl;refine⟨j,l.1,λg x r t=>?_⟩;have:=l.2 g x r t;simpa using this)
 ·subst d;obtain⟨j,l⟩:=fin L.b m.I rfl rfl;refine⟨j,l.1,λg x r t=>?_⟩;have:=l.2 g x r t;simpa using this
theorem Nu(h:dW w L m)(s:Bool)(p:Int):
 Calls prog 176 #[ptr L.g,fr s p] w λe w'=>∃v,e=.returned v/\v=.bool (m.has s p)/\Pu w w':=by
 refine DZ _ s p ?_;intro j w1 d hw;have b:=made d hw;refine⟨_,_,⟨b.blk.at rfl,b.blk.at rfl⟩,(mAt (h.pu b.pu) s p).mono ?_⟩;rintro e w2 ⟨_,rfl,rfl,i⟩;refine⟨_,rfl,?_,b.pu.trans i⟩;cases m.has s p<;>rfl
theorem tl(h:dW w L m):Calls prog 46 #[ptr L.g] w λe w'=>∃v,e=.returned v/\v=.int .i64 m.S/\w'=w:=by
 obtain⟨T,hd⟩:=h.hd;exact wJ _ (JQ hd rfl ⟨rfl,rfl⟩)
theorem Ky(h:dW w L m)(s:Bool)(p o:Int):
 Calls prog 72 #[ptr L.g,fr s p,.int .i64 o] w λe w'=>∃v,e=.returned v/\
  ((m.has s p && Mem.eF o)=true/\v=.tuple #[.pointer (some (Addr.mk (L.pg s p.toNat) o.toNat none)),.int .i64 0]/\dW w' L (m.tick 1)/\Ch L.X w w'\/
   (m.has s p && Mem.eF o)=false/\v=.tuple #[.pointer none,.int .i64 (m.err s p o)]/\m.err s p o≠0/\Pu w w'):=by
 refine Cj _ s p o ?_;intro u w1 q hw;have j:=made q hw;refine⟨_,_,⟨j.blk.at rfl,j.blk.at rfl⟩,(mAt (h.pu j.pu) s p).mono ?_⟩;rintro e w2 ⟨_,rfl,rfl,r⟩;have k:=j.pu.trans r;refine⟨_,rfl,?_⟩;cases l:m.has s p with
 | false=>
  refine aj (λ_=>.inr ⟨rfl,?_,?_,k⟩) (λd=>by simp at d)
  ·simp[Mem.err,l]
  ·simp[Mem.err,l]
 | true=>
  refine aj (λd=>by simp at d) (λ_=>?_);refine⟨λb w'=>w2=w'/\b= !(Mem.eF o),aj (λd=>⟨rfl,?_⟩) (λd=>⟨rfl,?_⟩),?_⟩
  ·simp at d;simp[Mem.eF];omega
  ·simp at d;simp only[Mem.eF,ge_iff_le];rw[Bool.eq_iff_iff];simp;omega
  ·rintro _ x _ ⟨rfl,rfl⟩;refine aj (λd=>?_) (λd=>?_)
   ·have i:Mem.eF o=false:=by simpa using d
    exact .inr ⟨by simp[i],by simp[Mem.err,l,i],by simp[Mem.err,l,i],k⟩
   ·have i:Mem.eF o=true:=by simpa using d
    have n:=h.pu k;obtain⟨T,hd⟩:=n.hd;refine ML hd rfl (ar _ rfl (aZ hd (by simp) λy hs=>?_));have t:=Mem.jt i;refine ar _ rfl ⟨t,.inl ⟨by simp[i],?_,n.Kw hs,?_⟩⟩
    ·rw[cm,Nat.zero_add,Nat.mul_one]
    ·exact(k.mono (by simp)).stored hs (.inl (.inl rfl))
theorem Dd(h:dW w L m)(s:Bool)(p o v:Int)(n:0<=v/\v<4294967296):
 Calls prog 35 #[ptr L.g,fr s p,.int .i64 o,.int .u32 v] w λe w'=>∃u,e=.returned u/\u=.int .i64 (m.err s p o)/\dW w' L (m.write s p o v)/\Ch L.X w w':=by
 refine zH _ s p o v ?_;intro B w1 q hw;have d:=made q hw;refine⟨_,_,⟨d.blk.at rfl,d.blk.at rfl⟩,(Ky (h.pu d.pu) s p o).mono ?_⟩;rintro e w2 ⟨_,rfl,⟨b,rfl,k,r⟩|⟨b,rfl,he,l⟩⟩
 ·refine⟨_,_,rfl,aj (λ_=>?_) (λj=>by simp at j)⟩;have t:Ch L.X w w2:=((Ch.refl _ w).made d).trans r;simp only[Bool.and_eq_true]at b;have hi:=Mem.fC b.1;have C:=Mem.jt b.2;obtain⟨T,cs,x,y,z⟩:=k.pgs s p.toNat (by simpa using hi);refine ar _ rfl (jC x (by simp;omega) λF hs=>⟨?_,?_,?_⟩)
  ·simp[Mem.err,b.1,b.2]
  ·have:=k.aE (f:=λi=>if i=o.toNat then v else m.pg s p.toNat i) (by simpa using hi) hs (by simp[setAt,y]) (λi A=>?_) (λi=>?_)
   ·simp only[Mem.write,b.1,b.2,Bool.and_self,if_true];exact this
   ·simp only[kD,Array.getElem?_setIfInBounds];by_cases e:o.toNat=i
    ·rw[if_pos e,if_pos (by omega),if_pos e.symm]
    ·rw[if_neg e,if_neg (λh=>e h.symm)];exact z i A
   ·split
    ·exact n
    ·exact h.u32 _ _ _
  ·exact t.stored hs (.inl (h.inX hi))
 ·refine⟨_,_,rfl,aj (λj=>absurd (by simpa using j) he) (λ_=>⟨rfl,?_,?_⟩)⟩
  ·have:=(h.pu d.pu).pu l;simpa[Mem.write,b]using this
  ·exact(d.pu.trans l).mono (by simp)
theorem MB(h:dW w L m)(s:Bool)(p o:Int):
 Calls prog 47 #[ptr L.g,fr s p,.int .i64 o] w λe w'=>∃u,e=.returned u/\u=.int .u32 (m.aI s p o)/\Pu w w':=by
 refine Cl _ s p o ?_;intro y w1 l hw;have j:=made l hw;refine⟨_,_,⟨j.blk.at rfl,j.blk.at rfl⟩,(mAt (h.pu j.pu) s p).mono ?_⟩;rintro e w2 ⟨_,rfl,rfl,n⟩;have k:=j.pu.trans n;refine⟨_,rfl,λb w'=>w2=w'/\b= !(m.has s p && Mem.eF o),?_,?_⟩
 ·cases i:m.has s p with
  |false=>exact aj (λ_=>⟨rfl,rfl⟩) (λd=>by simp at d)
  | true=>
   refine aj (λd=>by simp at d) (λ_=>aj (λd=>⟨rfl,?_⟩) (λd=>⟨rfl,?_⟩))
   ·simp at d;simp[Mem.eF];omega
   ·simp at d;simp only[Mem.eF,ge_iff_le];rw[Bool.eq_iff_iff];simp;omega
 ·rintro _ x _ ⟨rfl,rfl⟩;refine aj (λd=>?_) (λd=>?_)
  ·have i:(m.has s p && Mem.eF o)=false:=by rwa[Bool.not_eq_true']at d
   exact⟨by simp[Mem.aI,i],k⟩
  ·have i:(m.has s p && Mem.eF o)=true:=by simpa using d
   have q:=i;simp only[Bool.and_eq_true]at i;have hi:=Mem.fC i.1;have r:=Mem.jt i.2;obtain⟨T,cs,t,z,v⟩:=(h.pu k).pgs s p.toNat hi;rw[if_pos i.1];refine ar _ rfl ⟨r,_,by rw[Nat.mul_one];exact t.at (v _ (by omega)),?_,k⟩;simp only[Mem.aI,q,if_true]
end
end
section
theorem nP:S1 prog 31 23 (O 0) 4:=S1.of (by kernel_rfl) (by kernel_rfl) rfl
theorem K1:S1 prog 91 158 (.pointer none) 8:=S1.of (by kernel_rfl) (by kernel_rfl) rfl
def jV(w:World)(g:Nat)(f:Nat->Int):Prop:=∃T cs,Blk w g cs T/\cs.size=1024/\∀o,o<1024->cs[o]? =some (O (f o))
structure mO(w:World)(g n k:Nat)(pg:Nat->Nat)(f:Nat->Nat->Int)(b:Nat):Prop where
 row:∃T cs,Blk w g cs T/\cs.size=n/\∀i,i<k->cs[i]? =some (ptr (pg i))
 pgs:∀i,i<k->jV w (pg i) (f i)
 inj:∀i j,i<k->j<k->pg i=pg j->i=j
 dis:∀i,i<k->pg i≠g
 low:b<=g/\∀i,i<k->b<=pg i
theorem jV.lt {w:World}{g:Nat}{f:Nat->Int}(h:jV w g f):g<w.heap.size:=by obtain⟨T,cs,b,_⟩:=h;exact b.lt
theorem jV.pu {w w':World}{g:Nat}{f:Nat->Int}(h:jV w g f)(b:Pu w w'):jV w' g f:=by obtain⟨T,cs,d,i⟩:=h;exact⟨T,cs,b.blk d,i⟩
theorem jV.old {w w':World}{g b:Nat}{f:Nat->Int}{cs:Array Value}{T:TypeId}(h:jV w g f)(hs:cJ w b cs T w')(d:g≠b):jV w' g f:=by obtain⟨T,cs,i,j⟩:=h;exact⟨T,cs,hs.old i d,j⟩
theorem mO.pu {w w':World}{g n k b:Nat}{pg:Nat->Nat}{f:Nat->Nat->Int}(h:mO w g n k pg f b)(d:Pu w w'):mO w' g n k pg f b:=by
 obtain⟨⟨T,cs,j,l⟩,o,p,q,r⟩:=h;exact⟨⟨T,cs,d.blk j,l⟩,λi hi=>(o i hi).pu d,p,q,r⟩
theorem mO.more {w w1 w2:World}{g n k b p:Nat}{pg:Nat->Nat}{f:Nat->Nat->Int}(h:mO w g n k pg f b)(o:Pu w w1)(v:jV w1 p (f k))(A:w.heap.size<=p)(B:k<n)(C:b<=w.heap.size):
 ∃T cs,Blk w1 g cs T/\k+1<=cs.size/\∀w2,cJ w1 g (setAt cs k [ptr p]) T w2->mO w2 g n (k+1) (λi=>if i=k then p else pg i) f b:=by
 obtain⟨⟨T,cs,q,x,y⟩,r,z,t,u⟩:=h;have F:=q.lt;have hold:∀i,i<k->pg i≠p:=λi hi=>by have:=(r i hi).lt;omega
 refine⟨T,cs,o.blk q,by omega,λw2 hs=>⟨⟨T,_,hs.blk,by rw[gR];exact x,λi hi=>?_⟩,λi hi=>?_,λi j hi G=>?_,λi hi=>?_,u.1,λi hi=>?_⟩⟩
 ·rw[fJ _ _ _ _ (by simp;omega)];by_cases e:i=k
  ·subst e;simp
  ·rw[if_neg (by simp;omega),if_neg e];exact y i (by omega)
 ·by_cases e:i=k
  ·subst e;rw[if_pos rfl];exact v.old hs (by omega)
  ·rw[if_neg e];exact((r i (by omega)).pu o).old hs (t i (by omega))
 ·by_cases e:i=k<;>by_cases d:j=k
  ·intro _;omega
  ·rw[if_pos e,if_neg d];intro l;exact absurd l.symm (hold j (by omega))
  ·rw[if_neg e,if_pos d];intro l;exact absurd l (hold i (by omega))
  ·rw[if_neg e,if_neg d];exact z i j (by omega) (by omega)
 ·split
  ·omega
  ·exact t i (by omega)
 ·split
  ·omega
  ·exact u.2 i (by omega)
section
variable {w:World}{L:gE}{m:Mem}
theorem KA(n:Nat)(F:n<=64):
 Calls prog 49 #[.int .i64 n] w λe w'=>∃v,e=.returned v/\∃g pg,v=.slice (pvA g) n n/\mO w' g n n pg (λ_ _=>0) w.heap.size/\Pu w w':=by
 refine Cm _ ?_;refine nr K1 (by omega) (by omega) (by omega) λg w1 b=>?_;rw[Int.toNat_natCast]at b ⊢;refine⟨λk x w'=>∃i:Nat,x=(i:Int)/\i<=n/\k=n - i/\(∃pg,mO w' g n i pg (λ_ _=>0) w.heap.size)/\Pu w w',⟨n,0,rfl,by omega,by omega,⟨λ_=>0,⟨_,_,b.blk,by simp,by simp⟩,by simp,by simp,by simp,by have:=b.num;omega,by simp⟩,b.pu⟩,?_⟩;rintro k _ x w2 ⟨i,rfl,hi,rfl,⟨pg,h⟩,j⟩;refine aj (λl=>?_) (λl=>?_)
 ·have q:i<n:=by simpa using l
  intro p r t u;have d:=made t u;obtain⟨T,cs,y,z,A⟩:=h.more (w2:=r) d.pu ⟨_,_,d.blk,by simp,λo B=>by simp[B]⟩ (by rw[d.num];omega) q j.size;refine⟨⟨by omega,by omega⟩,ar _ rfl ?_⟩;rw[Nat.mul_one,Int.toNat_natCast];refine aZ y z λG hs=>⟨n - (i+1),by omega,i+1,?_,q,rfl,⟨_,A _ hs⟩,?_⟩
  ·rw[av (by omega)];omega
  ·have C:w.heap.size<=g:=h.low.1;exact((j.made d).mono (by simp):Ch (λ_=>False) w r).stored hs (.inr C)
 ·have:i=n:=by simp at l;omega
  subst this;exact⟨g,pg,rfl,h,j⟩
theorem Nt(s i:Int)(hs:1<=s/\s<=64)(hi:1<=i/\i<=64):
 Calls prog 14 #[.int .i64 s,.int .i64 i] w λe w'=>∃v,e=.returned v/\∃L:gE,v=.tuple #[ptr L.g,.int .i64 0]/\dW w' L (Mem.fresh s.toNat i.toNat)/\(∀k,L.X k->w.heap.size<=k)/\Pu w w':=by
 refine DX s i ?_;refine⟨λb w'=>w=w'/\b=false,?_,?_⟩
 ·refine aj (λl=>by simp at l;omega) (λ_=>aj (λl=>by simp at l;omega) (λ_=>aj (λl=>by simp at l;omega) (λ_=>⟨rfl,by simp;omega⟩)))
 rintro _ x _ ⟨rfl,rfl⟩;refine aj (λl=>by cases l) (λ_=>?_);obtain⟨S,rfl⟩:=Int.eq_ofNat_of_zero_le (show 0<=s by omega);obtain⟨I,rfl⟩:=Int.eq_ofNat_of_zero_le (show 0<=i by omega);refine(KA S (by omega)).mono ?_;rintro e w1 ⟨_,rfl,a,y,rfl,h,z⟩;refine⟨_,_,_,rfl,(KA I (by omega)).mono ?_⟩;rintro e w2 ⟨_,rfl,b,A,rfl,d,q⟩;refine⟨_,_,_,rfl,?_⟩;intro g O G H;have o:=made G H;have B:=(h.pu q).pu o.pu;have C:=d.pu o.pu;have r:∀j,j<S->y j<w1.heap.size:=λj t=>(h.pgs j t).lt;have Q:a<w1.heap.size:=by obtain⟨T,cs,n,_⟩:=h.row;exact n.lt
 have J:∀j,j<I->A j<w2.heap.size:=λj t=>(d.pgs j t).lt;have R:b<w2.heap.size:=by obtain⟨T,cs,n,_⟩:=d.row;exact n.lt
 have V:=q.size;have W:=z.size;have aa:=o.num;refine⟨⟨g,a,b,λs=>match s with|true=>y|false=>A,λs=>match s with|true=>S|false=>I⟩,rfl,⟨λs=>by cases s<;>rfl,⟨(_,_),o.blk⟩,λs=>?_,λs i hi=>?_,λs i M F hi p e=>?_,⟨by show a≠g;omega,by show b≠g;omega,λs i hi=>?_⟩,λ_ _ _=>by simp[Mem.fresh],by simp[Mem.fresh];omega⟩,?_,(z.trans q).made o⟩
 ·cases s
  ·obtain⟨T,cs,n,_,u⟩:=C.row;exact⟨T,cs,n,u⟩
  ·obtain⟨T,cs,n,_,u⟩:=B.row;exact⟨T,cs,n,u⟩
 ·cases s
  ·exact C.pgs i hi
  ·exact B.pgs i hi
 ·cases s<;>cases M<;>simp only[Mem.cnt,Mem.fresh,Int.toNat_natCast]at hi p<;>simp only at e
  ·exact⟨rfl,d.inj _ _ hi p e⟩
  ·have:=d.low.2 i hi;have:=r F p;omega
  ·have:=d.low.2 F p;have:=r i hi;omega
  ·exact⟨rfl,h.inj _ _ hi p e⟩
 ·cases s<;>simp only[Mem.cnt,Mem.fresh,Int.toNat_natCast]at hi<;>simp only
  ·have:=d.low.2 i hi;have:=J i hi;have:=d.dis i hi;refine⟨?_,?_,this⟩<;>omega
  ·have:=h.low.2 i hi;have:=r i hi;have N:=h.dis i hi;have:=d.low.1;refine⟨?_,N,?_⟩<;>omega
 ·rintro k (rfl|rfl|rfl|⟨s,i,hi,rfl⟩)
  ·omega
  ·exact h.low.1
  ·have:=d.low.1;omega
  ·cases s<;>simp only[Mem.cnt,Mem.fresh,Int.toNat_natCast]at hi<;>simp only
   ·have:=d.low.2 i hi;omega
   ·exact h.low.2 i hi
theorem Ln(h:dW w L m)(s:Bool)(p t:Int):
 Calls prog 90 #[ptr L.g,fr s p,.int .i64 t] w λe w'=>∃v,e=.returned v/\
  (m.has s p=true/\v=.tuple #[ptr (L.pg s p.toNat),.int .i64 0]/\dW w' L (m.tick (i64.wrap (t*1024)))/\Ch L.X w w'\/
   m.has s p=false/\v=.tuple #[.pointer none,.int .i64 5]/\Pu w w'):=by
 refine zI _ s p t ?_;intro n w1 k hw;have b:=made k hw;refine⟨_,_,⟨b.blk.at rfl,b.blk.at rfl⟩,(mAt (h.pu b.pu) s p).mono ?_⟩;rintro e w2 ⟨_,rfl,rfl,l⟩;have d:=b.pu.trans l;refine⟨_,rfl,?_⟩;cases o:m.has s p with
 |false=>exact aj (λ_=>.inr ⟨rfl,rfl,d⟩) (λi=>by simp at i)
 | true=>
  refine aj (λi=>by simp at i) (λ_=>?_);have j:=h.pu d;obtain⟨T,hd⟩:=j.hd;refine ML hd rfl (ar _ rfl (aZ hd (by simp) λq hs=>.inl ⟨rfl,rfl,j.Kw hs,?_⟩));exact(d.mono (by simp)).stored hs (.inl (.inl rfl))
theorem Kx(h:dW w L m)(s:Bool)(p:Int):
 Calls prog 50 #[ptr L.g,fr s p] w λe w'=>∃v,e=.returned v/\v=.int .i64 (m.cX s p)/\dW w' L (m.zero s p)/\Ch L.X w w':=by
 refine Ci _ s p ?_;intro u w1 n hw;have b:=made n hw;refine⟨_,_,⟨b.blk.at rfl,b.blk.at rfl⟩,(Ln (h.pu b.pu) s p 1).mono ?_⟩;rintro e w2 ⟨_,rfl,⟨d,rfl,j,q⟩|⟨d,rfl,k⟩⟩
 ·refine⟨_,_,rfl,aj (λ_=>ar _ rfl ?_) (λi=>by simp at i)⟩;rintro A rfl N rfl C rfl;have hi:=Mem.fC d;obtain⟨T,cs,r,t,x⟩:=j.pgs s p.toNat (by simpa using hi);refine H4 (o:=0) nP rfl r (by omega) (by omega) λy hs=>⟨?_,?_,?_⟩
  ·simp[Mem.cX,d]
  ·have:=j.aE (f:=λ_=>0) (by simpa using hi) hs (by rw[gR];exact t) (λo z=>?_) (λo=>by simp)
   ·simp only[Mem.zero,d,if_true];exact this
   ·have l:(List.replicate (1024 - 0) (O 0)).length=1024:=List.length_replicate ..;rw[fJ _ _ _ _ (by rw[l];omega),if_pos (by rw[l];omega),List.getElem?_replicate,if_pos (by omega)]
  ·exact(((Ch.refl _ w).made b).trans q).stored hs (.inl (h.inX hi))
 ·refine⟨_,_,rfl,aj (λi=>by simp at i) (λ_=>⟨?_,?_,?_⟩)⟩
  ·simp[Mem.cX,d]
  ·simpa[Mem.zero,d]using (h.pu b.pu).pu k
  ·exact(b.pu.trans k).mono (by simp)
end
end
structure Ent where
 typ:Int
 owner:Int
 refs:Int
 state:Int
 aW:Bool
deriving DecidableEq
namespace Ent
abbrev free:Ent:=⟨0,0,0,0,false⟩
def ok(e:Ent):Bool:=
 decide (0<=e.typ/\e.typ<=6/\0<=e.owner/\e.owner<=63/\0<=e.refs/\e.refs<=63/\(e.typ=0->e.owner=0)/\(e.typ≠1->e.refs=0/\e.state=0)/\(e.typ=1->1<=e.state/\e.state<=3)/\(e.typ≠2->e.aW=false))
def w0(e:Ent):Int:=e.typ+16*e.state+65536*e.owner+(if e.aW then 256 else 0)
def w1(e:Ent):Int:=e.refs
def parts(a b:Int):Ent:=⟨a % 8,a / 65536 % 64,b % 64,a / 16 % 4,decide (a / 256 % 2=1)⟩
def dec(a b:Int):Ent:=if(parts a b).ok && decide ((parts a b).w0=a) && decide ((parts a b).w1=b)then parts a b else free
def eJ(a b:Int):Int:=if(parts a b).ok && decide ((parts a b).w0=a) && decide ((parts a b).w1=b)then 0 else 110
theorem eI {e:Ent}(h:e.ok=true):0<=e.typ/\e.typ<=6/\0<=e.owner/\e.owner<=63/\0<=e.refs/\e.refs<=63/\(e.typ=0->e.owner=0)/\(e.typ≠1->e.refs=0/\e.state=0)/\(e.typ=1->1<=e.state/\e.state<=3)/\(e.typ≠2->e.aW=false):=by
 simpa only[ok,decide_eq_true_eq]using h
theorem jI {e:Ent}(h:e.ok=true):0<=e.state/\e.state<=3:=by
 have:=eI h;by_cases b:e.typ=1<;>omega
theorem FG {e:Ent}(h:e.ok=true):parts e.w0 e.w1=e:=by
 have b:=eI h;have d:=jI h;obtain⟨t,o,r,s,n⟩:=e;simp only at b d;cases n<;>simp only[parts,w0,w1,Ent.mk.injEq,decide_eq_true_eq,decide_eq_false_iff_not,if_true,Bool.false_eq_true,if_false]<;>omega
theorem EJ {e:Ent}(h:e.ok=true):dec e.w0 e.w1=e/\eJ e.w0 e.w1=0:=by
 unfold dec eJ;rw[FG h];simp[h]
theorem Ad {e:Ent}(h:e.ok=true):0<=e.w0/\e.w0<4294967296:=by
 have b:=eI h;have d:=jI h;unfold w0;split<;>omega
theorem Ac {e:Ent}(h:e.ok=true):0<=e.w1/\e.w1<4294967296:=by
 have b:=eI h;unfold w1;omega
theorem yR:free.ok=true:=by decide
theorem iE {a b:Int}(h:eJ a b=0):(dec a b).ok=true/\(dec a b).w0=a/\(dec a b).w1=b:=by
 unfold eJ at h;unfold dec;split at h
 ·rename_i d;rw[if_pos d];simp only[Bool.and_eq_true,decide_eq_true_eq]at d;exact⟨d.1.1,d.1.2,d.2⟩
 ·omega
end Ent
structure DB where
 mem:Mem
 aO:Int
 ent:Nat->Ent
namespace DB
def S(d:DB):Nat:=d.mem.S
def has(d:DB)(p:Int):Bool:=decide (0<=p/\p<(d.S:Int))
def at_(d:DB)(p:Int):Ent:=d.ent p.toNat
def set(d:DB)(p:Int)(e:Ent):DB:= {d with ent:=λq=>if q=p.toNat then e else d.ent q}
def entry(d:DB)(p:Int):Ent:=if d.has p then d.at_ p else .free
def aX(d:DB)(p:Int):Int:=if d.has p then 0 else 5
def gN(d:DB)(p:Int):Bool:=d.has p && (d.at_ p).typ==1
def bO(d:DB)(m:Mem):DB:=⟨m,d.aO,d.ent⟩
def ig(d:DB)(b:Int):DB:=⟨d.mem,b,d.ent⟩
def eK(d:DB)(f:Mem->Mem):DB:=d.bO (f d.mem)
def free(d:DB):Int:=(((List.range d.S).filter λp=>(d.ent p).typ==0).length:Int)
def Jw(d:DB)(s:Int)(p:Nat):Bool:=(p:Int) !=s && (d.ent p).typ !=0 && (d.ent p).owner==s
def bM(d:DB)(s f:Int):Int:=
 if !d.has s || !d.has f then 5 else if s=f then 1 else if(d.at_ s).typ !=0 || (d.at_ f).typ !=0 then 120 else if d.aO>=64 then 240 else 0
def cT(d:DB)(s f:Int):DB:=
 let d1:=(d.set s ⟨1,s,1,1,false⟩).set f ⟨3,s,0,0,false⟩
 (d1.bO (((d.mem.write true s 0 f).write true s 1 d.aO).write true s 2 0)).ig (d.aO+1)
def br(d:DB)(s f:Int):DB:=if d.bM s f=0 then d.cT s f else d
def turns(t:Int):Bool:=t==4 || t==5 || t==6
def eo(d:DB)(p t s:Int):Int:=
 if !d.has p then 5 else if t !=2 && !turns t then 124 else if !d.gN s || decide ((d.at_ s).refs>=63)then 122 else if(d.at_ p).typ !=0 then 120 else 0
def more(d:DB)(s k:Int):DB:=d.set s {d.at_ s with refs:=(d.at_ s).refs+k}
def ij(d:DB)(p t s:Int):DB:=(d.set p ⟨t,s,0,0,false⟩).more s 1
def take(d:DB)(p t s:Int):DB:=if d.eo p t s=0 then d.ij p t s else d
def fO(d:DB)(p t:Int):Int:=if !d.has p then 5 else if !turns (d.at_ p).typ || !turns t then 124 else 0
def l7(d:DB)(p t:Int):DB:=(d.set p {d.at_ p with typ:=t}).eK (·.zero true p)
def eW(d:DB)(p t:Int):DB:=if d.fO p t=0 then d.l7 p t else d
def ep(d:DB)(p:Int):Int:=
 if !d.has p then 5 else if(d.at_ p).typ=0 then 121 else if(d.at_ p).typ==1 && decide ((d.at_ p).refs>0)then 123 else 0
def iw(d:DB)(p:Int):DB:=
 let d1:=d.set p .free
 (if(d.at_ p).typ !=1 && (d1.gN (d.at_ p).owner && decide ((d1.at_ (d.at_ p).owner).refs>0))then d1.more (d.at_ p).owner (-1)else d1).eK (·.zero true p)
def ib(d:DB)(p:Int):DB:=if d.ep p=0 then d.iw p else d
def cO(d:DB)(p s:Int):Int:=
 if !d.has p then 5 else if(d.at_ p).typ≠1 then 124 else if s !=3 && ((d.at_ p).state !=1 || s !=2)then 3 else 0
def setState(d:DB)(p s:Int):DB:=if d.cO p s=0 then d.set p {d.at_ p with state:=s}else d
def cy(d:DB)(p:Int):Int:=if !d.has p then 5 else if(d.at_ p).typ≠2 then 124 else 0
def cf(d:DB)(p:Int)(on:Bool):DB:=if d.cy p=0 then d.set p {d.at_ p with aW:=on}else d
def words(d:DB):List Int:=d.aO::(List.range d.S).flatMap λp=>[(d.ent p).w0,(d.ent p).w1]
structure Ok(d:DB):Prop where
 ent:∀p,p<d.S->(d.ent p).ok=true/\(d.ent p).owner<d.S
 aO:0<=d.aO/\d.aO<=64
@[simp] theorem NL(d:DB)(p:Int)(e:Ent):(d.set p e).S=d.S:=rfl
@[simp] theorem eP(d:DB)(p q:Int)(e:Ent):(d.set p e).has q=d.has q:=rfl
@[simp] theorem mem_set(d:DB)(p:Int)(e:Ent):(d.set p e).mem=d.mem:=rfl
@[simp] theorem LF(d:DB)(p:Int)(e:Ent):(d.set p e).aO=d.aO:=rfl
@[simp] theorem cp(d:DB)(m:Mem):(d.bO m).mem=m:=rfl
@[simp] theorem H8(d:DB)(m:Mem):(d.bO m).aO=d.aO:=rfl
@[simp] theorem LH(d:DB)(m:Mem)(p:Int):(d.bO m).at_ p=d.at_ p:=rfl
@[simp] theorem Ma(d:DB)(m:Mem):(d.bO m).S=m.S:=rfl
@[simp] theorem FP(d:DB)(b:Int):(d.ig b).mem=d.mem:=rfl
@[simp] theorem JY(d:DB)(b:Int):(d.ig b).aO=b:=rfl
@[simp] theorem M5(d:DB)(b p:Int):(d.ig b).at_ p=d.at_ p:=rfl
@[simp] theorem Ng(d:DB)(b:Int):(d.ig b).S=d.S:=rfl
@[simp] theorem GI(d:DB)(m m':Mem):(d.bO m).bO m'=d.bO m':=rfl
theorem eD(d:DB)(p:Int):d.mem.has true p=d.has p:=rfl
theorem fB {d:DB}{p:Int}(h:d.has p=true):0<=p/\p<(d.S:Int):=by simpa[has]using h
theorem fC {d:DB}{p:Int}(h:d.has p=true):p.toNat<d.S:=by have:=fB h;omega
theorem LI {d:DB}{p q:Int}{e:Ent}(b:0<=p)(hq:0<=q):(d.set p e).at_ q=if q=p then e else d.at_ q:=by
 unfold at_ set;by_cases h:q=p
 ·simp[h]
 ·simp only[h,if_false];rw[if_neg (by omega)]
theorem set_comm(d:DB){p q:Int}{e f:Ent}(h:p.toNat≠q.toNat):(d.set p e).set q f=(d.set q f).set p e:=by
 simp only[set,DB.mk.injEq,true_and];funext k;by_cases b:k=q.toNat<;>by_cases i:k=p.toNat<;>simp[b,i]<;>omega
theorem M6 {d:DB}{p q:Int}{e:Ent}(b:d.has p=true)(hq:d.has q=true)(h:¬(d.at_ p).typ=(d.at_ q).typ):(d.set p e).at_ q=d.at_ q:=by
 have i:=fB b;have j:=fB hq;rw[LI i.1 j.1,if_neg (by rintro rfl;exact h rfl)]
theorem g6 {d:DB}{p:Int}(h:d.gN p=true):d.has p=true/\(d.at_ p).typ=1:=by simpa[gN]using h
theorem Hv {t s:Int}(b:t=2\/turns t=true)(hs:0<=s/\s<=63):(Ent.mk t s 0 0 false).ok=true:=by
 have:t=2\/t=4\/t=5\/t=6:=by simpa[turns,or_assoc]using b
 simp only[Ent.ok,decide_eq_true_eq];simp;omega
theorem Hu {e:Ent}{t:Int}(h:e.ok=true)(he:turns e.typ=true)(b:turns t=true):(Ent.mk t e.owner e.refs e.state e.aW).ok=true:=by
 have d:=Ent.eI h;have i:e.typ=4\/e.typ=5\/e.typ=6:=by simpa[turns,or_assoc]using he
 have j:t=4\/t=5\/t=6:=by simpa[turns,or_assoc]using b
 simp only[Ent.ok,decide_eq_true_eq];refine⟨by omega,by omega,by omega,by omega,by omega,by omega,by omega,by omega,by omega,λ_=>d.2.2.2.2.2.2.2.2.2 (by omega)⟩
theorem pG {e:Ent}{k:Int}(h:e.ok=true)(he:e.typ=1)(d:0<=e.refs+k/\e.refs+k<=63):(Ent.mk e.typ e.owner (e.refs+k) e.state e.aW).ok=true:=by
 have b:=Ent.eI h;simp only[Ent.ok,decide_eq_true_eq];refine⟨by omega,by omega,by omega,by omega,by omega,by omega,by omega,by omega,by omega,λ_=>b.2.2.2.2.2.2.2.2.2 (by omega)⟩
theorem Ku {e:Ent}{s:Int}(h:e.ok=true)(he:e.typ=1)(hs:1<=s/\s<=3):(Ent.mk e.typ e.owner e.refs s e.aW).ok=true:=by
 have b:=Ent.eI h;simp only[Ent.ok,decide_eq_true_eq];refine⟨by omega,by omega,by omega,by omega,by omega,by omega,by omega,by omega,by omega,λ_=>b.2.2.2.2.2.2.2.2.2 (by omega)⟩
theorem uw {e:Ent}{b:Bool}(h:e.ok=true)(he:e.typ=2):(Ent.mk e.typ e.owner e.refs e.state b).ok=true:=by
 have d:=Ent.eI h;simp only[Ent.ok,decide_eq_true_eq];refine⟨by omega,by omega,by omega,by omega,by omega,by omega,by omega,by omega,by omega,λh=>absurd he h⟩
theorem Ok.at_ {d:DB}(h:d.Ok){p:Int}(b:d.has p=true):(d.at_ p).ok=true/\(d.at_ p).owner<d.S/\0<=(d.at_ p).owner:=
 ⟨(h.ent _ (fC b)).1,(h.ent _ (fC b)).2,(Ent.eI (h.ent _ (fC b)).1).2.2.1⟩
end DB
section
structure gG where
 g:Nat
 a:Nat
 M:gE
def gG.X(L:gG):Nat->Prop:=λk=>k=L.g\/k=L.a\/L.M.X k
abbrev DB.n2(D:DB):Nat:=2*D.mem.S
structure DBP(w:World)(L:gG)(D:DB):Prop where
 hd:∃T,Blk w L.g #[.pointer (some (Addr.mk L.M.g 0 none)),.int .i64 D.aO,.slice (some (Addr.mk L.a 0 none)) D.n2 D.n2] T
 ws:∃T cs,Blk w L.a cs T/\cs.size=D.n2/\∀p,p<D.S->cs[2*p]? =some (O (D.ent p).w0)/\cs[2*p+1]? =some (O (D.ent p).w1)
 mem:dW w L.M D.mem
 ok:D.Ok
 dis:L.a≠L.g/\¬L.M.X L.g/\¬L.M.X L.a
section
variable {w w' w2:World}{L:gG}{D:DB}{Y:Nat->Prop}
theorem DBP.lt(h:DBP w L D):∀k,L.X k->k<w.heap.size:=by
 rintro k (rfl|rfl|b)
 ·obtain⟨T,hd⟩:=h.hd;exact hd.lt
 ·obtain⟨T,cs,d,_⟩:=h.ws;exact d.lt
 ·exact h.mem.lt k b
theorem DBP.ch(h:DBP w L D)(b:Ch Y w w')(d:∀k,L.X k->¬Y k):DBP w' L D:=by
 refine⟨?_,?_,h.mem.ch b λk i=>d k (.inr (.inr i)),h.ok,h.dis⟩
 ·obtain⟨T,hd⟩:=h.hd;exact⟨T,b.blk hd (d _ (.inl rfl))⟩
 ·obtain⟨T,cs,j,l⟩:=h.ws;exact⟨T,cs,b.blk j (d _ (.inr (.inl rfl))),l⟩
theorem DBP.pu(h:DBP w L D)(b:Pu w w'):DBP w' L D:=h.ch b (by simp)
theorem DBP.S64(h:DBP w L D):D.S<=64:=h.mem.most.1
theorem DBP.eK(h:DBP w L D){m:Mem}(hm:dW w' L.M m)(b:Ch L.M.X w w')(hs:m.S=D.mem.S):DBP w' L (D.bO m):=by
 refine⟨?_,?_,hm,⟨λp i=>?_,h.ok.aO⟩,h.dis⟩
 ·obtain⟨T,hd⟩:=h.hd;refine⟨T,?_⟩;show Blk w' L.g #[_,_,.slice _ (2*m.S) (2*m.S)] T;rw[hs];exact b.blk hd h.dis.2.1
 ·obtain⟨T,cs,j,k⟩:=h.ws;refine⟨T,cs,b.blk j h.dis.2.2,?_⟩;show cs.size=2*m.S/\∀p,p<m.S->_;rw[hs];exact k
 ·have d:p<m.S:=i;rw[hs]at d;have:=h.ok.ent p d;refine⟨this.1,?_⟩;show _<(m.S:Int);rw[hs];exact this.2
theorem DBP.Fo(h:DBP w L D){x:Int}{T:TypeId}(hs:cJ w L.g #[.pointer (some (Addr.mk L.M.g 0 none)),.int .i64 x,.slice (some (Addr.mk L.a 0 none)) D.n2 D.n2] T w2)(b:0<=x/\x<=64):DBP w2 L (D.ig x):=by
 refine⟨⟨T,hs.blk⟩,?_,h.mem.ch hs.ch λk d e=>h.dis.2.1 (e▸d),⟨h.ok.ent,b⟩,h.dis⟩;obtain⟨T,cs,i,j⟩:=h.ws;exact⟨T,cs,hs.old i h.dis.1,j⟩
theorem DBP.KZ(h:DBP w L D){p:Int}{e:Ent}(j:D.has p=true)(he:e.ok=true)(l:e.owner<D.S){cs:Array Value}{T:TypeId}(n:Blk w L.a cs T)(hs:cJ w L.a (setAt cs (2*p.toNat) [.int .u32 e.w0,.int .u32 e.w1]) T w2):DBP w2 L (D.set p e):=by
 obtain⟨v,x,o,b,r⟩:=h.ws;obtain⟨rfl,rfl⟩:=n.inj o;have y:=DB.fC j;refine⟨?_,⟨T,_,hs.blk,by rw[gR];exact b,λq hq=>?_⟩,h.mem.ch hs.ch λk t e=>h.dis.2.2 (e▸t),⟨λq hq=>?_,h.ok.aO⟩,h.dis⟩
 ·obtain⟨T,hd⟩:=h.hd;exact⟨T,hs.old hd h.dis.1.symm⟩
 ·have d:2*p.toNat+ [Value.int .u32 e.w0,Value.int .u32 e.w1].length<=cs.size:=by
   have u:D.n2=2*D.S:=rfl;rw[b,u];simp only[List.length_cons,List.length_nil];omega
  rw[fJ _ _ _ _ d,fJ _ _ _ _ d];simp only[DB.set,List.length_cons,List.length_nil];by_cases i:q=p.toNat
  ·subst i;simp
  ·rw[if_neg (by omega),if_neg (by omega:¬(2*p.toNat<=2*q+1/\2*q+1<2*p.toNat+(0+1+1)))];simp only[i,if_false];exact r q hq
 ·simp only[DB.set];split
  ·exact⟨he,l⟩
  ·exact h.ok.ent q hq
theorem Mem.gP(m:Mem)(s:Bool)(p o v:Int):(m.write s p o v).S=m.S:=by unfold Mem.write;split<;>rfl
theorem Mem.zm(m:Mem)(s:Bool)(p:Int):(m.zero s p).S=m.S:=by unfold Mem.zero;split<;>rfl
theorem gG.inM(L:gG)(k:Nat)(h:L.M.X k):L.X k:=.inr (.inr h)
theorem yU(h:DBP w L D)(s:Bool)(p o v:Int)(d:0<=v/\v<4294967296):
 Calls prog 35 #[ptr L.M.g,fr s p,.int .i64 o,.int .u32 v] w λe w'=>∃u,e=.returned u/\u=.int .i64 (D.mem.err s p o)/\DBP w' L (D.bO (D.mem.write s p o v))/\Ch L.M.X w w':=
 (Dd h.mem s p o v d).mono λe w' ⟨u,he,hu,hm,b⟩=>⟨u,he,hu,h.eK hm b (Mem.gP ..),b⟩
theorem Dn(h:DBP w L D)(s:Bool)(p:Int):
 Calls prog 50 #[ptr L.M.g,fr s p] w λe w'=>∃u,e=.returned u/\u=.int .i64 (D.mem.cX s p)/\DBP w' L (D.bO (D.mem.zero s p))/\Ch L.M.X w w':=
 (Kx h.mem s p).mono λe w' ⟨u,he,hu,hm,b⟩=>⟨u,he,hu,h.eK hm b (Mem.zm ..),b⟩
theorem dt(x:Int):0<=u32.wrap x/\u32.wrap x<4294967296:=by rw[u32_eq];omega
end
end
theorem zP(t:Int){R:bq}{w:World}(h:∃b:Bool->World->Prop,(split ((t:Int)==4) (b true w) (split ((t:Int)==5) (b true w) (b ((t:Int)==6) w)))/\∀(j:Nat->Value)(d:Bool),∀i,b d i->R (vB d) i):Calls prog 58 #[J t] w (cg R):=rvc [] (aN (.node none (.node (some ⟨[(2,.one (.bool))],(rgN 2 11)⟩) .leaf .leaf) .leaf)) Tryz.func58 h
theorem wR(aE:Int){R:bq}{w:World}(h:∀(b:Nat)(i:World),b=w.heap.size->i=w.alloc (.cells (#[vB false,J 0]) 39)->aF i (vA b) [vB true,J aE] λd=>∃j:Bool,∃k:Int,(d.cell? ((vA b).add 0)=some (vB j)/\d.cell? ((vA b).add 1)=some (J k))/\R (.agg #[vB j,J k]) d):Calls prog 51 #[J aE] w (cg R):=rvc [] (.leaf) Tryz.func51 h
theorem qt(d:oA){R:bq}{w:World}(h:ay d λi=>∃j:oA,∃b k:Nat,w.cell? (i.add 2)=some (.slice j b k)/\R (J (i64.wrap ((((b:Nat):Int):Int).tdiv 2))) w):Calls prog 91 #[(.pointer d)] w (cg R):=rvc [] (.leaf) Tryz.func91 h
theorem vZ(d:oA)(aE:Int){R:bq}{w:World}(h:∃i:Bool->World->Prop,(split (decide ((aE:Int)>=0)) (Calls prog 91 #[(.pointer d)] w λe b=>∃j:Int,e=.returned (J j)/\i (decide ((aE:Int)<j)) b) (i false w))/\∀(l:Nat->Value)(k:Bool),∀b,i k b->R (vB k) b):Calls prog 55 #[(.pointer d),J aE] w (cg R):=rvc [] (aN (.node none (.node (some ⟨[(4,.one (.bool))],(rgN 4 9)⟩) .leaf .leaf) .leaf)) Tryz.func55 h
theorem GG(d:oA)(aE:Int){R:bq}{w:World}(h:∀(i:Nat)(b:World),i=w.heap.size->b=w.alloc (.cells (#[J 0,J 0,J 0,J 0,vB false]) 107)->ay d λp9=>∃j:oA,∃k l:Nat,b.cell? (p9.add 2)=some (.slice j k l)/\(0<=(i64.wrap (2*aE):Int)/\(i64.wrap (2*aE):Int)<=((k:Nat):Int))/\∀o:oA,o=(if l=(Int.toNat (i64.wrap (2*aE)))then j else(j:oA).map (·.add ((Int.toNat (i64.wrap (2*aE)))*1)))->∀p:Nat,p=k - (Int.toNat (i64.wrap (2*aE)))->∀Vx:Nat,Vx=l - (Int.toNat (i64.wrap (2*aE)))->2<=p/\ay o λq=>∃r t:Int,(b.cell? (q.add 0)=some (O r)/\b.cell? (q.add 1)=some (O t))/\Calls prog 92 #[(.agg #[O r,O t])] b λe u=>∃v x y z:Int,∃A:Bool,∃Wp:Int,e=.returned (.tuple #[(.agg #[J v,J x,J y,J z,vB A]),J Wp])/\∀(n:Nat)(B:World),n=u.heap.size->B=u.alloc (.cells (#[J 0,J 0,J 0,J 0,vB false]) 107)->aF B (vA n) [J v,J x,J y,J z,vB A] λC=>∃F G H I:Int,∃M:Bool,aL C (vA n) 0 [J F,J G,J H,J I,vB M]/\aF C (vA i) [J F,J G,J H,J I,vB M] λN=>∃Q S T V:Int,∃W:Bool,aL N (vA i) 0 [J Q,J S,J T,J V,vB W]/\R (.agg #[J Q,J S,J T,J V,vB W]) N):Calls prog 56 #[(.pointer d),J aE] w (cg R):=rvc [] (.leaf) Tryz.func56 h
theorem D5(d:oA)(aE t u v x:Int)(y:Bool){R:bq}{w:World}(h:∀(z:Nat)(l:World),z=w.heap.size->l=w.alloc (.cells #[J t,J u,J v,J x,vB y] 107)->∃A B C F:Int,∃G:Bool,aL l (vA z) 0 [J A,J B,J C,J F,vB G]/\Calls prog 93 #[(.agg #[J A,J B,J C,J F,vB G])] l λe H=>∃I M Qv:Int,e=.returned (.tuple #[(.agg #[O I,O M]),J Qv])/\∀(j:Nat)(N:World),j=H.heap.size->N=H.alloc (.cells (#[O 0,O 0]) 155)->aF N (vA j) [O I,O M] λn=>∃b:bP,ay d λQ=>b 3 ((Q.add 2).block)/\∃o:oA,∃p q:Nat,n.drew.cell? (Q.add 2)=some (.slice o p q)/\(0<=(i64.wrap (2*aE):Int)/\(i64.wrap (2*aE):Int)<=((p:Nat):Int))/\∀S:oA,S=(if q=(Int.toNat (i64.wrap (2*aE)))then o else(o:oA).map (·.add ((Int.toNat (i64.wrap (2*aE)))*1)))->∀T:Nat,T=p - (Int.toNat (i64.wrap (2*aE)))->∀V:Nat,V=q - (Int.toNat (i64.wrap (2*aE)))->∀W:oA,W=(some (if 2=0 then Addr.mk j 0 none else(vA j).add (0*1)))->∀Ug:Nat,Ug=2 - 0->∀Vv:Nat,Vv=2 - 0->∃Pw:Int,∃r,(Builtin.copy_ #[31,31] 3 #[(.slice S T V),(.slice W Ug Vv)]:Sem Value).run prog n.drew=.ok (J Pw) r/\Kept (bD b [0,1]) n.drew r/\∃b1:bP,(∀i k,b i k->b1 i k)/\R (.tuple #[]) r):Calls prog 57 #[(.pointer d),J aE,(.agg #[J t,J u,J v,J x,vB y])] w (cg R):=rvc [] (.leaf) Tryz.func57 h
theorem zS(d:oA)(aE:Int){R:bq}{w:World}(h:∀(b:Nat)(p:World),b=w.heap.size->p=w.alloc (.cells (#[J 0,J 0,J 0,J 0,vB false]) 107)->Calls prog 55 #[(.pointer d),J aE] p λe q=>∃r:Bool,e=.returned (vB r)/\split (!r) (aF q (vA b) [J 0,J 0,J 0,J 0,vB false] λo=>∃i j k l:Int,∃n:Bool,aL o (vA b) 0 [J i,J j,J k,J l,vB n]/\R (.tuple #[(.agg #[J i,J j,J k,J l,vB n]),J 5]) o) (Calls prog 56 #[(.pointer d),J aE] q λe o=>∃t u v x:Int,∃y:Bool,e=.returned (.agg #[J t,J u,J v,J x,vB y])/\aF o (vA b) [J t,J u,J v,J x,vB y] λz=>∃i j k l:Int,∃n:Bool,aL z (vA b) 0 [J i,J j,J k,J l,vB n]/\R (.tuple #[(.agg #[J i,J j,J k,J l,vB n]),J 0]) z)):Calls prog 74 #[(.pointer d),J aE] w (cg R):=rvc [] (.leaf) Tryz.func74 h
theorem vX(d:oA)(aE:Int){R:bq}{w:World}(h:∃i:Bool->World->Prop,(Calls prog 55 #[(.pointer d),J aE] w λe b=>∃j:Bool,e=.returned (vB j)/\split j (Calls prog 56 #[(.pointer d),J aE] b λe n=>∃k o p q:Int,∃r:Bool,e=.returned (.agg #[J k,J o,J p,J q,vB r])/\i ((k:Int)==1) n) (i false b))/\∀(t:Nat->Value)(l:Bool),∀b,i l b->R (vB l) b):Calls prog 59 #[(.pointer d),J aE] w (cg R):=rvc [] (aN (.node none (.node (some ⟨[(4,.one (.bool))],(rgN 4 11)⟩) .leaf .leaf) .leaf)) Tryz.func59 h
theorem Cy(d:oA)(space more:Int){R:bq}{w:World}(h:Calls prog 56 #[(.pointer d),J space] w λe i=>∃j k l n:Int,∃o:Bool,e=.returned (.agg #[J j,J k,J l,J n,vB o])/\∀(b:Nat)(p:World),b=i.heap.size->p=i.alloc (.cells (#[J 0,J 0,J 0,J 0,vB false]) 107)->aF p (vA b) [J j,J k,J l,J n,vB o] λq=>∃r:Int,q.cell? ((vA b).add 2)=some (J r)/\aF q ((vA b).add 2) [J (i64.wrap (r+more))] λt=>∃u v x y:Int,∃z:Bool,aL t (vA b) 0 [J u,J v,J x,J y,vB z]/\Calls prog 57 #[(.pointer d),J space,(.agg #[J u,J v,J x,J y,vB z])] t λe A=>e=.returned (.tuple #[])/\R (.tuple #[]) A):Calls prog 60 #[(.pointer d),J space,J more] w (cg R):=rvc [] (.leaf) Tryz.func60 h
theorem Cw(d:oA)(aE t space:Int){R:bq}{w:World}(h:Calls prog 55 #[(.pointer d),J aE] w λe n=>∃q:Bool,e=.returned (vB q)/\∀r:Bool,r=(!q)->split r (R (J 5) n) (∃o:Bool->World->Prop,(split ((t:Int) !=2) (Calls prog 58 #[J t] n λe k=>∃u:Bool,e=.returned (vB u)/\∀b:Bool,b=(!u)->o b k) (∀b:Bool,b=false->o b n))/\∀(Q:Nat->Value)(b:Bool),∀k,o b k->split b (R (J 124) k) (∃p:Bool->World->Prop,(Calls prog 59 #[(.pointer d),J space] k λe j=>∃v:Bool,e=.returned (vB v)/\split (!v) (∀i:Bool,i=true->p i j) (Calls prog 56 #[(.pointer d),J space] j λe l=>∃A B x C:Int,∃F:Bool,e=.returned (.agg #[J A,J B,J x,J C,vB F])/\∀i:Bool,i=(decide ((x:Int)>=63))->p i l))/\∀(S:Nat->Value)(i:Bool),∀j,p i j->split i (R (J 122) j) (Calls prog 56 #[(.pointer d),J aE] j λe l=>∃y G H I:Int,∃M:Bool,e=.returned (.agg #[J y,J G,J H,J I,vB M])/\∀z:Bool,z=((y:Int) !=0)->split z (R (J 120) l) (Calls prog 57 #[(.pointer d),J aE,(.agg #[J t,J space,J 0,J 0,vB false])] l λe N=>e=.returned (.tuple #[])/\Calls prog 60 #[(.pointer d),J space,J 1] N λe O=>e=.returned (.tuple #[])/\R (J 0) O))))):Calls prog 22 #[(.pointer d),J aE,J t,J space] w (cg R):=rvc [9,14,22,34] (aN (.node none (.node none (aN (aN (.node none (.node (some ⟨[(14,.one (.bool))],(rgN 14 8)⟩) .leaf .leaf) (aN (.node none (.node (some ⟨[(22,.one (.bool))],(rgN 22 12)⟩) .leaf .leaf) .leaf))))) .leaf) .leaf)) Tryz.func22 h
theorem Cv(d:oA)(aE t:Int){R:bq}{w:World}(h:Calls prog 55 #[(.pointer d),J aE] w λe u=>∃v:Bool,e=.returned (vB v)/\split (!v) (R (J 5) u) (Calls prog 56 #[(.pointer d),J aE] u λe x=>∃y z A B:Int,∃C:Bool,e=.returned (.agg #[J y,J z,J A,J B,vB C])/\∀(l:Nat)(F:World),l=x.heap.size->F=x.alloc (.cells (#[J 0,J 0,J 0,J 0,vB false]) 107)->aF F (vA l) [J y,J z,J A,J B,vB C] λG=>∃o:Bool->World->Prop,(∃H:Int,G.cell? ((vA l).add 0)=some (J H)/\Calls prog 58 #[J H] G λe j=>∃I:Bool,e=.returned (vB I)/\split (!I) (o true j) (Calls prog 58 #[J t] j λe n=>∃M:Bool,e=.returned (vB M)/\o (!M) n))/\∀(OX:Nat->Value)(N:Bool),∀j,o N j->split N (R (J 124) j) (aF j ((vA l).add 0) [J t] λn=>∃O Q S T:Int,∃V:Bool,aL n (vA l) 0 [J O,J Q,J S,J T,vB V]/\Calls prog 57 #[(.pointer d),J aE,(.agg #[J O,J Q,J S,J T,vB V])] n λe p=>e=.returned (.tuple #[])/\∃b:bP,ay d λW=>b 3 ((W.add 0).block)/\∃aa:oA,p.drew.cell? (W.add 0)=some (.pointer aa)/\Calls prog 51 #[J aE] p.drew λe q=>∃Xv:Bool,∃Xu:Int,e=.returned (.agg #[vB Xv,J Xu])/\Kept (bD b [0,1,2,3]) p.drew q/\∃r:bP,(∀i k,b i k->r i k)/\Calls prog 50 #[(.pointer aa),(.agg #[vB Xv,J Xu])] q λe OI=>∃S3:Int,e=.returned (J S3)/\Kept (bD r [0]) q OI/\∃b2:bP,(∀i k,r i k->b2 i k)/\R (J S3) OI))):Calls prog 24 #[(.pointer d),J aE,J t] w (cg R):=rvc [] (aN (aN (aN (.node none (.node none (.node (some ⟨[(23,.one (.bool))],(rgN 15 9)⟩) .leaf .leaf) .leaf) .leaf)))) Tryz.func24 h
theorem te(d:oA)(space s:Int){R:bq}{w:World}(h:Calls prog 55 #[(.pointer d),J space] w λe n=>∃o:Bool,e=.returned (vB o)/\split (!o) (R (J 5) n) (Calls prog 56 #[(.pointer d),J space] n λe p=>∃q r t u:Int,∃v:Bool,e=.returned (.agg #[J q,J r,J t,J u,vB v])/\∀(i:Nat)(x:World),i=p.heap.size->x=p.alloc (.cells (#[J 0,J 0,J 0,J 0,vB false]) 107)->aF x (vA i) [J q,J r,J t,J u,vB v] λj=>∃y:Int,j.cell? ((vA i).add 0)=some (J y)/\∀z:Bool,z=((y:Int) !=1)->split z (R (J 124) j) (∃k:Bool->World->Prop,(split ((s:Int) !=3) (∃A:Int,j.cell? ((vA i).add 3)=some (J A)/\split ((A:Int) !=1) (∀b:Bool,b=true->k b j) (∀b:Bool,b=((s:Int) !=2)->k b j)) (∀b:Bool,b=false->k b j))/\∀(N:Nat->Value)(b:Bool),∀l,k b l->split b (R (J 3) l) (aF l ((vA i).add 3) [J s] λB=>∃C F G H:Int,∃I:Bool,aL B (vA i) 0 [J C,J F,J G,J H,vB I]/\Calls prog 57 #[(.pointer d),J space,(.agg #[J C,J F,J G,J H,vB I])] B λe M=>e=.returned (.tuple #[])/\R (J 0) M)))):Calls prog 28 #[(.pointer d),J space,J s] w (cg R):=rvc [15,19] (aN (aN (aN (.node none (.node none (aN (aN (.node none (.node (some ⟨[(19,.one (.bool))],(rgN 19 12)⟩) .leaf .leaf) .leaf))) .leaf) .leaf)))) Tryz.func28 h
theorem qq(d:oA)(i:Int)(on:Bool){R:bq}{w:World}(h:Calls prog 55 #[(.pointer d),J i] w λe k=>∃l:Bool,e=.returned (vB l)/\split (!l) (R (J 5) k) (Calls prog 56 #[(.pointer d),J i] k λe n=>∃o p q r:Int,∃t:Bool,e=.returned (.agg #[J o,J p,J q,J r,vB t])/\∀(b:Nat)(u:World),b=n.heap.size->u=n.alloc (.cells (#[J 0,J 0,J 0,J 0,vB false]) 107)->aF u (vA b) [J o,J p,J q,J r,vB t] λj=>∃v:Int,j.cell? ((vA b).add 0)=some (J v)/\split ((v:Int) !=2) (R (J 124) j) (aF j ((vA b).add 4) [vB on] λx=>∃y z A B:Int,∃C:Bool,aL x (vA b) 0 [J y,J z,J A,J B,vB C]/\Calls prog 57 #[(.pointer d),J i,(.agg #[J y,J z,J A,J B,vB C])] x λe F=>e=.returned (.tuple #[])/\R (J 0) F))):Calls prog 30 #[(.pointer d),J i,vB on] w (cg R):=rvc [] (.leaf) Tryz.func30 h
theorem CB(d:oA)(aE:Int){R:bq}{w:World}(h:Calls prog 55 #[(.pointer d),J aE] w λe G=>∃H:Bool,e=.returned (vB H)/\split (!H) (R (J 5) G) (Calls prog 56 #[(.pointer d),J aE] G λe I=>∃M N O Q:Int,∃S:Bool,e=.returned (.agg #[J M,J N,J O,J Q,vB S])/\∀(l:Nat)(T:World),l=I.heap.size->T=I.alloc (.cells (#[J 0,J 0,J 0,J 0,vB false]) 107)->aF T (vA l) [J M,J N,J O,J Q,vB S] λq=>∃V:Int,q.cell? ((vA l).add 0)=some (J V)/\∀W:Bool,W=((V:Int)==0)->split W (R (J 121) q) (∃B:Bool->World->Prop,(∃PM:Int,q.cell? ((vA l).add 0)=some (J PM)/\split ((PM:Int)==1) (∃RN:Int,q.cell? ((vA l).add 2)=some (J RN)/\∀o:Bool,o=(decide ((RN:Int)>0))->B o q) (∀o:Bool,o=false->B o q))/\∀(OX:Nat->Value)(o:Bool),∀C,B o C->split o (R (J 123) C) (Calls prog 57 #[(.pointer d),J aE,(.agg #[J 0,J 0,J 0,J 0,vB false])] C λe z=>e=.returned (.tuple #[])/\∃A:Bool->World->Prop,(∃SB:Int,z.cell? ((vA l).add 0)=some (J SB)/\split ((SB:Int) !=1) (∃S3:Int,z.cell? ((vA l).add 1)=some (J S3)/\Calls prog 59 #[(.pointer d),J S3] z λe j=>∃T4:Bool,e=.returned (vB T4)/\split T4 (∃SD:Int,j.cell? ((vA l).add 1)=some (J SD)/\Calls prog 56 #[(.pointer d),J SD] j λe n=>∃Ze Zc Xo Zb:Int,∃Za:Bool,e=.returned (.agg #[J Ze,J Zc,J Xo,J Zb,vB Za])/\A (decide ((Xo:Int)>0)) n) (A false j)) (A false z))/\∀(Pe:Nat->Value)(aa:Bool),∀j,A aa j->split aa (∃ab:Int,j.cell? ((vA l).add 1)=some (J ab)/\Calls prog 60 #[(.pointer d),J ab,J (-1)] j λe n=>e=.returned (.tuple #[])/\∃b:bP,ay d λt=>b 3 ((t.add 0).block)/\∃u:oA,n.drew.cell? (t.add 0)=some (.pointer u)/\Calls prog 51 #[J aE] n.drew λe r=>∃v:Bool,∃x:Int,e=.returned (.agg #[vB v,J x])/\Kept (bD b [0,1,2,3]) n.drew r/\∃p:bP,(∀i k,b i k->p i k)/\Calls prog 50 #[(.pointer u),(.agg #[vB v,J x])] r λe O3=>∃y:Int,e=.returned (J y)/\Kept (bD p [0]) r O3/\∃F:bP,(∀i k,p i k->F i k)/\R (J y) O3) (∃b:bP,ay d λt=>b 3 ((t.add 0).block)/\∃u:oA,j.drew.cell? (t.add 0)=some (.pointer u)/\Calls prog 51 #[J aE] j.drew λe n=>∃v:Bool,∃x:Int,e=.returned (.agg #[vB v,J x])/\Kept (bD b [0,1,2,3]) j.drew n/\∃p:bP,(∀i k,b i k->p i k)/\Calls prog 50 #[(.pointer u),(.agg #[vB v,J x])] n λe r=>∃y:Int,e=.returned (J y)/\Kept (bD p [0]) n r/\∃F:bP,(∀i k,p i k->F i k)/\R (J y) r))))):Calls prog 26 #[(.pointer d),J aE] w (cg R):=rvc [13,17] (aN (aN (aN (.node none (.node none (aN (aN (.node none (.node (some ⟨[(17,.one (.bool))],(rgN 17 9)⟩) .leaf .leaf) .leaf))) .leaf) (aN (.node none (.node none (.node (some ⟨[(46,.one (.bool))],(rgN 30 17)⟩) .leaf .leaf) .leaf) .leaf)))))) Tryz.func26 h
theorem rz(d:oA)(space first:Int){R:bq}{w:World}(h:∃t:Bool->World->Prop,(Calls prog 55 #[(.pointer d),J space] w λe o=>∃I:Bool,e=.returned (vB I)/\split (!I) (∀l:Bool,l=true->t l o) (Calls prog 55 #[(.pointer d),J first] o λe j=>∃M:Bool,e=.returned (vB M)/\∀l:Bool,l=(!M)->t l j))/\∀(PZ:Nat->Value)(l:Bool),∀o,t l o->split l (R (J 5) o) (∀N:Bool,N=((space:Int)==first)->split N (R (J 1) o) (∃u:Bool->World->Prop,(Calls prog 56 #[(.pointer d),J space] o λe j=>∃Q RM RK RJ:Int,∃RI:Bool,e=.returned (.agg #[J Q,J RM,J RK,J RJ,vB RI])/\split ((Q:Int) !=0) (∀n:Bool,n=true->u n j) (Calls prog 56 #[(.pointer d),J first] j λe v=>∃S a1 a2 a3:Int,∃a4:Bool,e=.returned (.agg #[J S,J a1,J a2,J a3,vB a4])/\∀n:Bool,n=((S:Int) !=0)->u n v))/\∀(OX:Nat->Value)(n:Bool),∀j,u n j->split n (R (J 120) j) (ay d λa5=>∃T:Int,j.cell? (a5.add 1)=some (J T)/\∀V:Bool,V=(decide ((T:Int)>=64))->split V (R (J 240) j) (Calls prog 57 #[(.pointer d),J space,(.agg #[J 1,J space,J 1,J 1,vB false])] j λe v=>e=.returned (.tuple #[])/\Calls prog 57 #[(.pointer d),J first,(.agg #[J 3,J space,J 0,J 0,vB false])] v λe x=>e=.returned (.tuple #[])/\∃b:bP,ay d λW=>b 3 ((W.add 0).block)/\∃Xa:oA,x.drew.cell? (W.add 0)=some (.pointer Xa)/\Calls prog 51 #[J space] x.drew λe y=>∃R7:Bool,∃R6:Int,e=.returned (.agg #[vB R7,J R6])/\Kept (bD b [0,1,2,3,6,7]) x.drew y/\∃z:bP,(∀i k,b i k->z i k)/\Calls prog 35 #[(.pointer Xa),(.agg #[vB R7,J R6]),J 0,O (u32.wrap first)] y λe p=>∃a6:Int,e=.returned (J a6)/\Kept (bD z [0]) y p/\∃b2:bP,(∀i k,z i k->b2 i k)/\∃q:bP,ay d λaa=>q 3 ((aa.add 0).block)/\∃ab:oA,p.drew.cell? (aa.add 0)=some (.pointer ab)/\ay d λae=>q 9 ((ae.add 1).block)/\∃af:Int,p.drew.cell? (ae.add 1)=some (J af)/\Calls prog 51 #[J space] p.drew λe A=>∃ah:Bool,∃an:Int,e=.returned (.agg #[vB ah,J an])/\Kept (bD q [0,1,2,3,6,7,8,9,10]) p.drew A/\∃B:bP,(∀i k,q i k->B i k)/\Calls prog 35 #[(.pointer ab),(.agg #[vB ah,J an]),J 1,O (u32.wrap af)] A λe r=>∃a7:Int,e=.returned (J a7)/\Kept (bD B [0,6,7]) A r/\∃b5:bP,(∀i k,B i k->b5 i k)/\∃C:bP,ay d λaz=>C 3 ((az.add 0).block)/\∃ZD:oA,r.drew.cell? (az.add 0)=some (.pointer ZD)/\Calls prog 51 #[J space] r.drew λe F=>∃aA:Bool,∃aC:Int,e=.returned (.agg #[vB aA,J aC])/\Kept (bD C [0,1,2,3]) r.drew F/\∃G:bP,(∀i k,C i k->G i k)/\Calls prog 35 #[(.pointer ZD),(.agg #[vB aA,J aC]),J 2,O 0] F λe H=>∃a8:Int,e=.returned (J a8)/\Kept (bD G [0]) F H/\∃b8:bP,(∀i k,G i k->b8 i k)/\ay d λa9=>∃a0:Int,H.cell? (a9.add 1)=some (J a0)/\ay d λba=>aF H (ba.add 1) [J (i64.wrap (a0+1))] λPE=>R (J 0) PE))))):Calls prog 20 #[(.pointer d),J space,J first] w (cg R):=rvc [7,18,22,35] (aN (.node none (.node none (.node none (.node (some ⟨[(7,.one (.bool))],(rgN 7 11)⟩) .leaf .leaf) (aN (aN (aN (.node none (.node (some ⟨[(22,.one (.bool))],(rgN 22 13)⟩) .leaf .leaf) .leaf))))) .leaf) .leaf)) Tryz.func20 h
theorem zt(bz j:Int){R:bq}{w:World}(h:∃b:Bool->World->Prop,(split (decide ((bz:Int)<1)) (b true w) (split (decide ((bz:Int)>64)) (b true w) (split (decide ((j:Int)<1)) (b true w) (b (decide ((j:Int)>64)) w))))/\∀(C:Nat->Value)(n:Bool),∀k,b n k->split n (R (.tuple #[(.pointer none),J 1]) k) (∀(l:Nat)(o:World),l=k.heap.size->o=k.alloc (.cells #[(.slice none 0 0),J bz,J 0] 100)->∀i:Int,i=0->∃I:Nat->Int->World->Prop,(∃m,I m i o)/\∀(m:Nat)(F:Nat->Value)(i1:Int),∀d,I m i1 d->split (decide ((i1:Int)<(i64.wrap (bz+j)))) (∃p:oA,∃q r:Nat,d.cell? ((vA l).add 0)=some (.slice p q r)/\∀(t:Nat)(u:World),t=d.heap.size->u=d.alloc (.cells #[(.slice none 0 0)] 31)->∃v:oA,∃x y:Nat,∃z,(Builtin.append_ #[25,25] 25 #[(.slice p q r),(.slice (pvA t) 1 1)]:Sem Value).run prog u=.ok (.slice v x y) z/\aF z ((vA l).add 0) [(.slice v x y)] λB=>∀i2:Int,i2=(i64.wrap (i1+1))->∃A,A<m/\I A i2 B) (R (.tuple #[(.pointer (pvA l)),J 0]) d))):Calls prog 18 #[J bz,J j] w (cg R):=rvc [7] (aN (.node none (.node none (.node (some ⟨[(21,.one (.bool))],(rgN 8 14)⟩) .leaf .leaf) .leaf) (aN (.node none (aN (.node none (.node (some ⟨[(7,.one (.int .i64))],[7,25,26,27,28,29,30,31,32,33,34,35,36,37,38,39,40]⟩) .leaf .leaf) .leaf)) .leaf)))) Tryz.func18 h
theorem vD(m:oA)(i:Bool)(j:Int){R:bq}{w:World}(h:∀(d:Nat)(b:World),d=w.heap.size->b=w.alloc (.cells #[vB i,J j] 78)->∃k:Int,b.cell? ((vA d).add 1)=some (J k)/\split (decide ((k:Int)<0)) (R (J (-1)) b) (∃l:Bool,b.cell? ((vA d).add 0)=some (vB l)/\split l (∃n:Int,b.drew.cell? ((vA d).add 1)=some (J n)/\ay m λx=>∃o:Int,b.drew.cell? (x.add 1)=some (J o)/\split (decide ((n:Int)<o)) (∃p:Int,b.drew.cell? ((vA d).add 1)=some (J p)/\R (J p) b.drew) (R (J (-1)) b.drew)) (∃q:Int,b.drew.cell? ((vA d).add 1)=some (J q)/\ay m λy=>∃z:oA,∃r A:Nat,b.drew.cell? (y.add 0)=some (.slice z r A)/\ay m λB=>∃t:Int,b.drew.cell? (B.add 1)=some (J t)/\split (decide ((q:Int)<(i64.wrap (((r:Nat):Int) - t)))) (ay m λC=>∃u:Int,b.drew.drew.cell? (C.add 1)=some (J u)/\∃v:Int,b.drew.drew.cell? ((vA d).add 1)=some (J v)/\R (J (i64.wrap (u+v))) b.drew.drew) (R (J (-1)) b.drew)))):Calls prog 73 #[(.pointer m),(.agg #[vB i,J j])] w (cg R):=rvc [] (.leaf) Tryz.func73 h
theorem wG(m:oA)(n:Bool)(o off:Int){R:bq}{w:World}(h:∀(l:Nat)(k:World),l=w.heap.size->k=w.alloc (.cells #[vB n,J o] 78)->∃p:Bool,∃q:Int,(k.cell? ((vA l).add 0)=some (vB p)/\k.cell? ((vA l).add 1)=some (J q))/\Calls prog 73 #[(.pointer m),(.agg #[vB p,J q])] k λe d=>∃b:Int,e=.returned (J b)/\∃j:Bool->World->Prop,(split (decide ((b:Int)<0)) (j true d) (split (decide ((off:Int)<0)) (j true d) (split (decide ((off:Int)>=1024)) (j true d) (ay m λC=>∃r:oA,∃t F:Nat,d.cell? (C.add 0)=some (.slice r t F)/\(0<=(b:Int)/\(b:Int)<((t:Nat):Int))/\ay r λG=>∃H:oA,∃u I:Nat,d.cell? (G.add (Int.toNat b*1))=some (.slice H u I)/\j ((((u:Nat):Int):Int)==0) d))))/\∀(V:Nat->Value)(v:Bool),∀i,j v i->split v (R (O 0) i) (ay m λM=>∃x:oA,∃y N:Nat,i.cell? (M.add 0)=some (.slice x y N)/\(0<=(b:Int)/\(b:Int)<((y:Nat):Int))/\ay x λQ=>∃z:oA,∃A S:Nat,i.cell? (Q.add (Int.toNat b*1))=some (.slice z A S)/\(0<=(off:Int)/\(off:Int)<((A:Nat):Int))/\ay z λT=>∃B:Int,i.cell? (T.add (Int.toNat off*1))=some (O B)/\R (O B) i)):Calls prog 48 #[(.pointer m),(.agg #[vB n,J o]),J off] w (cg R):=rvc [] (aN (aN (.node none (.node none (.node (some ⟨[(31,.one (.bool))],(rgN 11 21)⟩) .leaf .leaf) .leaf) .leaf))) Tryz.func48 h
theorem wE(m:oA)(k:Bool)(l:Int){R:bq}{w:World}(h:∀(i:Nat)(d:World),i=w.heap.size->d=w.alloc (.cells #[vB k,J l] 78)->∃n:Bool,∃o:Int,(d.cell? ((vA i).add 0)=some (vB n)/\d.cell? ((vA i).add 1)=some (J o))/\Calls prog 73 #[(.pointer m),(.agg #[vB n,J o])] d λe j=>∃b:Int,e=.returned (J b)/\split (decide ((b:Int)<0)) (R (J 5) j) (ay m λu=>∃p:Int,j.cell? (u.add 2)=some (J p)/\ay m λv=>aF j (v.add 2) [J (i64.wrap (p+1024))] λq=>ay m λx=>∃r:oA,∃t y:Nat,q.cell? (x.add 0)=some (.slice r t y)/\(0<=(b:Int)/\(b:Int)<((t:Nat):Int))/\ay r λz=>aF q (z.add (Int.toNat b*1)) [(.slice none 0 0)] λA=>R (J 0) A)):Calls prog 53 #[(.pointer m),(.agg #[vB k,J l])] w (cg R):=rvc [] (.leaf) Tryz.func53 h
theorem sV(m:oA){R:bq}{w:World}(h:ay m λd=>∃b:Int,w.cell? (d.add 1)=some (J b)/\R (J b) w):Calls prog 52 #[(.pointer m)] w (cg R):=rvc [] (.leaf) Tryz.func52 h
theorem vC(m:oA)(H:Bool)(I off v:Int){R:bq}{w:World}(h:∀(u:Nat)(r:World),u=w.heap.size->r=w.alloc (.cells #[vB H,J I] 78)->∃M:Bool,∃N:Int,(r.cell? ((vA u).add 0)=some (vB M)/\r.cell? ((vA u).add 1)=some (J N))/\Calls prog 73 #[(.pointer m),(.agg #[vB M,J N])] r λe x=>∃d:Int,e=.returned (J d)/\split (decide ((d:Int)<0)) (R (J 5) x) (∃y:Bool->World->Prop,(split (decide ((off:Int)<0)) (y true x) (y (decide ((off:Int)>=1024)) x))/\∀(OX:Nat->Value)(Q:Bool),∀t,y Q t->split Q (R (J 70) t) (ay m λaz=>∃S:Int,t.cell? (az.add 2)=some (J S)/\ay m λZm=>aF t (Zm.add 2) [J (i64.wrap (S+1))] λj=>ay m λWA=>∃T:oA,∃V aA:Nat,j.cell? (WA.add 0)=some (.slice T V aA)/\(0<=(d:Int)/\(d:Int)<((V:Nat):Int))/\ay T λaC=>∃a0:oA,∃W a1:Nat,j.cell? (aC.add (Int.toNat d*1))=some (.slice a0 W a1)/\split ((((W:Nat):Int):Int)==0) (∃b:bP,ay m λaa=>b 3 ((aa.add 0).block)/\∃ab:oA,∃ae a2:Nat,j.drew.cell? (aa.add 0)=some (.slice ab ae a2)/\∃af:oA,∃ah an:Nat,∃l,(Instr.makeSlice 31 (J 1024) (J 1024):Sem Value).run prog j.drew=.ok (.slice af ah an) l/\Kept (bD b [0,1,2,3,4]) j.drew l/\∃b1:bP,(∀i k,b i k->b1 i k)/\(0<=(d:Int)/\(d:Int)<((ae:Nat):Int))/\ay ab λa3=>aF l (a3.add (Int.toNat d*1)) [(.slice af ah an)] λz=>∃b2:bP,(∀i k,b1 i k->b2 i k)/\ay m λA=>∃n:oA,∃o B:Nat,z.cell? (A.add 0)=some (.slice n o B)/\(0<=(d:Int)/\(d:Int)<((o:Nat):Int))/\ay n λC=>∃p:oA,∃q F:Nat,z.cell? (C.add (Int.toNat d*1))=some (.slice p q F)/\(0<=(off:Int)/\(off:Int)<((q:Nat):Int))/\ay p λG=>aF z (G.add (Int.toNat off*1)) [O v] λOi=>R (J 0) Oi) (ay m λA=>∃n:oA,∃o B:Nat,j.cell? (A.add 0)=some (.slice n o B)/\(0<=(d:Int)/\(d:Int)<((o:Nat):Int))/\ay n λC=>∃p:oA,∃q F:Nat,j.cell? (C.add (Int.toNat d*1))=some (.slice p q F)/\(0<=(off:Int)/\(off:Int)<((q:Nat):Int))/\ay p λG=>aF j (G.add (Int.toNat off*1)) [O v] λl=>R (J 0) l)))):Calls prog 36 #[(.pointer m),(.agg #[vB H,J I]),J off,O v] w (cg R):=rvc [] (aN (aN (aN (.node none (.node none (.node (some ⟨[(20,.one (.bool))],(rgN 15 6)⟩) .leaf .leaf) .leaf) .leaf)))) Tryz.func36 h
theorem zu(m:oA)(i:Bool)(j:Int){R:bq}{w:World}(h:∀(d:Nat)(b:World),d=w.heap.size->b=w.alloc (.cells #[vB i,J j] 78)->∃k:Bool,∃l:Int,(b.cell? ((vA d).add 0)=some (vB k)/\b.cell? ((vA d).add 1)=some (J l))/\Calls prog 73 #[(.pointer m),(.agg #[vB k,J l])] b λe o=>∃n:Int,e=.returned (J n)/\R (vB (decide ((n:Int)>=0))) o):Calls prog 148 #[(.pointer m),(.agg #[vB i,J j])] w (cg R):=rvc [] (.leaf) Tryz.func148 h
section
namespace Mem
def idx(m:Mem)(s:Bool)(p:Nat):Nat:=match s with
 |true=>p
 |false=>m.S+p
def word(m:Mem)(i o:Nat):Int:=if i<m.S then m.pg true i o else m.pg false (i - m.S) o
def place(m:Mem)(s:Bool)(p:Int):Int:=if m.has s p then(m.idx s p.toNat:Int)else -1
theorem EE(m:Mem)(p:Nat):m.idx false p=m.S+p:=rfl
theorem ED(m:Mem)(p:Nat):m.idx true p=p:=rfl
theorem M0(m:Mem):m.cnt false=m.I:=rfl
theorem KE(m:Mem):m.cnt true=m.S:=rfl
theorem yo(m:Mem){i:Nat}(h:i<m.S)(o:Nat):m.word i o=m.pg true i o:=if_pos h
theorem yp(m:Mem){i:Nat}(h:¬i<m.S)(o:Nat):m.word i o=m.pg false (i - m.S) o:=if_neg h
theorem oV(m:Mem){s:Bool}{p:Nat}(b:p<m.cnt s)(o:Nat):m.word (m.idx s p) o=m.pg s p o:=by
 cases s
 ·rw[EE,yp m (by omega),show m.S+p - m.S=p by omega]
 ·rw[ED,yo m b]
theorem Dj(m:Mem){s:Bool}{p:Nat}(b:p<m.cnt s):m.idx s p<m.S+m.I:=by
 cases s
 ·rw[M0]at b;rw[EE];omega
 ·rw[KE]at b;rw[ED];omega
theorem mX(m:Mem){s:Bool}{p:Nat}(d:p<m.cnt s)(f:Nat->Int){i:Nat}(o:Nat):(m.fill s p f).word i o=if i=m.idx s p then f o else m.word i o:=by
 by_cases h:i<m.S
 ·rw[yo _ (show i<(m.fill s p f).S from h),yo m h];cases s
  ·rw[EE,if_neg (by omega)];simp[fill]
  ·rw[ED];simp[fill]
 ·rw[yp _ (show ¬i<(m.fill s p f).S from h),yp m h];show(m.fill s p f).pg false (i - m.S) o=_;cases s
  ·rw[EE];by_cases b:i=m.S+p
   ·rw[if_pos b];simp[fill,b]
   ·rw[if_neg b];simp only[fill];rw[if_neg (by rintro⟨_,j⟩;omega)]
  ·rw[ED,if_neg (by rw[KE]at d;omega)];simp[fill]
end Mem
structure gD where
 g:Nat
 a:Nat
 c:Nat
 n:Nat
 pg:Nat->Option (Nat×Nat)
def Ju:Option (Nat×Nat)->Value
 |none=>.slice none 0 0
 |some (b,c)=>.slice (pvA b) 1024 c
def gD.X(L:gD):Nat->Prop:=λk=>k=L.g\/k=L.a\/∃i c,i<L.n/\L.pg i=some (k,c)
def PgB(w:World)(b:Nat)(f:Nat->Int):Prop:=∃T cs,Blk w b cs T/\1024<=cs.size/\∀o,o<1024->cs[o]? =some (O (f o))
structure dq(w:World)(g:Nat)(L:gD)(m:Mem):Prop where
 gq:L.g=g
 n:L.n=m.S+m.I
 hd:∃T:TypeId×Int,Blk w L.g #[.slice (some (Addr.mk L.a 0 none)) L.n L.c,.int .i64 m.S,.int .i64 T.2] T.1
 row:∃T cs,Blk w L.a cs T/\L.n<=cs.size/\∀i,i<L.n->cs[i]? =some (Ju (L.pg i))
 nil:∀i,i<L.n->L.pg i=none->∀o,m.word i o=0
 pgs:∀i b c,i<L.n->L.pg i=some (b,c)->PgB w b (m.word i)
 inj:∀i j b c c',i<L.n->j<L.n->L.pg i=some (b,c)->L.pg j=some (b,c')->i=j
 dis:L.a≠L.g/\∀i b c,i<L.n->L.pg i=some (b,c)->b≠L.g/\b≠L.a
 u32:∀s i o,0<=m.pg s i o/\m.pg s i o<4294967296
 most:m.S<=64/\m.I<=64
section
variable {w w' w2:World}{g:Nat}{L:gD}{m:Mem}{Y:Nat->Prop}
theorem PgB.lt {b:Nat}{f:Nat->Int}(h:PgB w b f):b<w.heap.size:=by obtain⟨T,cs,d,_⟩:=h;exact d.lt
theorem PgB.ch {b:Nat}{f:Nat->Int}(h:PgB w b f)(d:Ch Y w w')(i:¬Y b):PgB w' b f:=by obtain⟨T,cs,j,k⟩:=h;exact⟨T,cs,d.blk j i,k⟩
theorem dq.lt(h:dq w g L m):∀k,L.X k->k<w.heap.size:=by
 rintro k (rfl|rfl|⟨i,c,hi,b⟩)
 ·obtain⟨T,hd⟩:=h.hd;exact hd.lt
 ·obtain⟨T,cs,d,_⟩:=h.row;exact d.lt
 ·exact(h.pgs i k c hi b).lt
theorem dq.ch(h:dq w g L m)(d:Ch Y w w')(j:∀k,L.X k->¬Y k):dq w' g L m:=by
 refine⟨h.gq,h.n,?_,?_,h.nil,λi b c hi l=>(h.pgs i b c hi l).ch d (j _ (.inr (.inr ⟨i,c,hi,l⟩))),h.inj,h.dis,h.u32,h.most⟩
 ·obtain⟨T,hd⟩:=h.hd;exact⟨T,d.blk hd (j _ (.inl rfl))⟩
 ·obtain⟨T,cs,n,o⟩:=h.row;exact⟨T,cs,d.blk n (j _ (.inr (.inl rfl))),o⟩
theorem dq.pu(h:dq w g L m)(b:Pu w w'):dq w' g L m:=h.ch b (by simp)
theorem dq.tick(h:dq w g L m){x:Int}{T:TypeId}(hs:cJ w L.g #[.slice (some (Addr.mk L.a 0 none)) L.n L.c,.int .i64 m.S,.int .i64 x] T w2):dq w2 g L m:=by
 refine⟨h.gq,h.n,⟨(T,x),hs.blk⟩,?_,h.nil,λi b c hi d=>(h.pgs i b c hi d).ch hs.ch (h.dis.2 i b c hi d).1,h.inj,h.dis,h.u32,h.most⟩;obtain⟨j,cs,k,l⟩:=h.row;exact⟨j,cs,hs.old k h.dis.1,l⟩
def gD.put(L:gD)(i:Nat)(v:Option (Nat×Nat)):gD:= {L with pg:=λj=>if j=i then v else L.pg j}
theorem gD.KJ {L:gD}{i:Nat}{v:Option (Nat×Nat)}{k:Nat}(h:(L.put i v).X k):L.X k\/∃c,v=some (k,c):=by
 rcases h with h|h|⟨j,c,d,b⟩
 ·exact .inl (.inl h)
 ·exact .inl (.inr (.inl h))
 ·simp only[gD.put]at b;split at b
  ·exact .inr ⟨c,b⟩
  ·exact .inl (.inr (.inr ⟨j,c,d,b⟩))
theorem dq.lay(h:dq w g L m){s:Bool}{p:Nat}(q:p<m.cnt s){v:Option (Nat×Nat)}{f:Nat->Int}(t:∀o,0<=f o/\f o<4294967296)
 (u:v=none->∀o,f o=0)(k:∀b c,v=some (b,c)->PgB w b f/\¬L.X b){cs:Array Value}{T:TypeId}(x:Blk w L.a cs T)(hs:cJ w L.a (setAt cs (m.idx s p) [Ju v]) T w2):
 dq w2 g (L.put (m.idx s p) v) (m.fill s p f):=by
 have hi:=m.Dj q;obtain⟨H,I,y,z,A⟩:=h.row;obtain⟨rfl,rfl⟩:=x.inj y;have J:=h.n;refine⟨h.gq,h.n,?_,⟨T,_,hs.blk,by rw[gR];exact z,λi d=>?_⟩,λi d hq o=>?_,λi b c d hq=>?_,λi j b c c' d r l n=>?_,⟨h.dis.1,λi b c d hq=>?_⟩,λB i o=>?_,h.most⟩
 ·obtain⟨C,hd⟩:=h.hd;exact⟨C,hs.old hd h.dis.1.symm⟩
 ·rw[fJ _ _ _ _ (by simp;omega)];simp only[gD.put,List.length_cons,List.length_nil];by_cases e:i=m.idx s p
  ·subst e;simp
  ·rw[if_neg (by omega),if_neg e];exact A i d
 ·rw[m.mX q];simp only[gD.put]at hq;split at hq
  ·rename_i e;rw[if_pos e];exact u hq o
  ·rename_i e;rw[if_neg e];exact h.nil i d hq o
 ·have F:(m.fill s p f).word i=if i=m.idx s p then f else m.word i:=by
   funext o;rw[m.mX q];split<;>rfl
  rw[F];simp only[gD.put]at hq;split at hq
  ·rename_i e;rw[if_pos e];exact(k b c hq).1.ch hs.ch λG=>(k b c hq).2 (.inr (.inl G))
  ·rename_i e;rw[if_neg e];exact(h.pgs i b c d hq).ch hs.ch (h.dis.2 i b c d hq).2
 ·simp only[gD.put]at l n;split at l<;>split at n
  ·omega
  ·exact absurd (.inr (.inr ⟨j,c',r,n⟩)) (k b c l).2
  ·exact absurd (.inr (.inr ⟨i,c,d,l⟩)) (k b c' n).2
  ·exact h.inj i j b c c' d r l n
 ·simp only[gD.put]at hq;split at hq
  ·have:=(k b c hq).2;exact⟨λe=>this (.inl e),λe=>this (.inr (.inl e))⟩
  ·exact h.dis.2 i b c d hq
 ·simp only[Mem.fill];split
  ·exact t o
  ·exact h.u32 B i o
theorem dq.No(h:dq w g L m){s:Bool}{p:Nat}(k:p<m.cnt s){b c:Nat}(d:L.pg (m.idx s p)=some (b,c)){f:Nat->Int}(n:∀o,0<=f o/\f o<4294967296){cs:Array Value}{T:TypeId}(q:1024<=cs.size)(r:∀o,o<1024->cs[o]? =some (O (f o)))
 (hs:cJ w b cs T w2):dq w2 g L (m.fill s p f):=by
 have hi:=m.Dj k;have F:=h.n;have hd':=h.dis.2 _ b c (by omega) d;refine⟨h.gq,h.n,?_,?_,λi j hq o=>?_,λi l c' j hq=>?_,h.inj,h.dis,λt i o=>?_,h.most⟩
 ·obtain⟨u,hd⟩:=h.hd;exact⟨u,hs.old hd hd'.1.symm⟩
 ·obtain⟨v,x,y,z⟩:=h.row;exact⟨v,x,hs.old y hd'.2.symm,z⟩
 ·rw[m.mX k];by_cases e:i=m.idx s p
  ·subst e;rw[d]at hq;cases hq
  ·rw[if_neg e];exact h.nil i j hq o
 ·have A:(m.fill s p f).word i=if i=m.idx s p then f else m.word i:=by
   funext o;rw[m.mX k];split<;>rfl
  rw[A];by_cases e:i=m.idx s p
  ·subst e;rw[d]at hq;injection hq with hq
   injection hq with B G
   subst B;rw[if_pos rfl];exact⟨T,cs,hs.blk,q,r⟩
  ·rw[if_neg e];exact(h.pgs i l c' j hq).ch hs.ch λC=>e (h.inj i _ l c' c j (by omega) hq (C▸d))
 ·simp only[Mem.fill];split
  ·exact n o
  ·exact h.u32 t i o
end
end
theorem FB {g:Nat}{L:gD}{m:Mem}{w:World}(h:dq w g L m):
 Calls prog 52 #[(.pointer (pvA g))] w λe w'=>∃v,e=.returned v/\v=.int .i64 m.S/\w'=w:=by
 refine sV (pvA g) ?_;obtain⟨_,b⟩:=(by have d:=h.hd;rwa[h.gq]at d:∃T:TypeId×Int,Blk _ _ #[_,_,.int .i64 T.2] T.1);refine ar _ rfl ⟨_,b.at rfl,?_⟩;exact⟨rfl,rfl⟩
theorem pz {g:Nat}{L:gD}{m:Mem}{w:World}(h:dq w g L m)(j:Bool)(n:Int):
 Calls prog 73 #[(.pointer (pvA g)),(.agg #[vB j,J n])] w λe w'=>∃v,e=.returned v/\v=.int .i64 (m.place j n)/\Pu w w':=by
 refine vD (pvA g) _ _ ?_;have t:=h.n;have u:=h.most;have b:=Ch.refl (λ_=>False) w;have x:=h.lt;refine mkd λy z i=>?_;have d:=i.blk;refine⟨_,d.at rfl,?_⟩;refine aD (λo=>?_) (λo=>?_)
 ·have b:=Ch.made b i;exact⟨congrArg (Value.int .i64) (by unfold Mem.place Mem.has Mem.cnt Mem.idx;cases j<;>simp_all[wrap_i64]<;>omega),b⟩
 ·refine⟨_,d.at rfl,?_⟩;refine aj (λp=>?_) (λp=>?_)
  ·have d:=Blk.drew d;have h:=(h.pu i.pu).pu (Pu.aR _);obtain⟨_,k⟩:=(by have l:=h.hd;rwa[h.gq]at l:∃T:TypeId×Int,Blk _ _ #[_,_,.int .i64 T.2] T.1);refine⟨_,d.at rfl,ar _ rfl ⟨_,k.at rfl,?_⟩⟩;refine aD (λq=>?_) (λq=>?_)
   ·refine⟨_,d.at rfl,?_⟩;have b:=Ch.drew (Ch.made b i);exact⟨congrArg (Value.int .i64) (by unfold Mem.place Mem.has Mem.cnt Mem.idx;cases j<;>simp_all[wrap_i64]<;>omega),b⟩
   ·have b:=Ch.drew (Ch.made b i);exact⟨congrArg (Value.int .i64) (by unfold Mem.place Mem.has Mem.cnt Mem.idx;cases j<;>simp_all[wrap_i64]<;>omega),b⟩
  ·have d:=Blk.drew d;have h:=(h.pu i.pu).pu (Pu.aR _);obtain⟨_,k⟩:=(by have l:=h.hd;rwa[h.gq]at l:∃T:TypeId×Int,Blk _ _ #[_,_,.int .i64 T.2] T.1);refine⟨_,d.at rfl,ar _ rfl ⟨_,_,_,k.at rfl,ar _ rfl ⟨_,k.at rfl,?_⟩⟩⟩;refine aD (λr=>?_) (λr=>?_)
   ·refine ar _ rfl ?_;have k:=Blk.drew k;have d:=Blk.drew d;refine⟨_,k.at rfl,_,d.at rfl,?_⟩;have b:=Ch.drew (Ch.drew (Ch.made b i));exact⟨congrArg (Value.int .i64) (by unfold Mem.place Mem.has Mem.cnt Mem.idx;cases j<;>simp_all[wrap_i64]<;>omega),b⟩
   ·have b:=Ch.drew (Ch.made b i);exact⟨congrArg (Value.int .i64) (by unfold Mem.place Mem.has Mem.cnt Mem.idx;cases j<;>simp_all[wrap_i64]<;>omega),b⟩
section
section
variable {w:World}{g:Nat}{L:gD}{m:Mem}
theorem nh {s:Bool}{p:Int}:(m.place s p<0)↔m.has s p=false:=by
 unfold Mem.place;cases h:m.has s p
 ·simp
 ·simp
theorem ng {s:Bool}{p:Int}(h:m.has s p=true):m.place s p=(m.idx s p.toNat:Int):=by unfold Mem.place;rw[if_pos h]
theorem dq.slot(h:dq w g L m){s:Bool}{p:Nat}(b:p<m.cnt s):∃T cs,Blk w L.a cs T/\L.n<=cs.size/\m.idx s p<L.n/\cs[m.idx s p]? =some (Ju (L.pg (m.idx s p))):=by
 obtain⟨T,cs,d,i,j⟩:=h.row;have hi:=m.Dj b;have k:=h.n;exact⟨T,cs,d,i,by omega,j _ (by omega)⟩
theorem Ei(h:dq w g L m)(s:Bool)(p o:Int):
 Calls prog 48 #[ptr g,fr s p,.int .i64 o] w λe w'=>∃u,e=.returned u/\u=.int .u32 (m.aI s p o)/\Pu w w':=by
 refine wG _ s p o ?_;refine mkd λH w1 n=>?_;refine⟨_,_,⟨n.blk.at rfl,n.blk.at rfl⟩,(pz (h.pu n.pu) s p).mono ?_⟩;rintro e w2 ⟨_,rfl,rfl,y⟩;have i:Pu w w2:=(show Pu w w1 from n.pu).trans y;have j:=h.pu i;have z:=j.gq;subst z;obtain⟨T,hd⟩:=j.hd;refine⟨_,rfl,?_⟩;cases k:m.has s p with
 | false=>
  refine⟨λb w'=>w2=w'/\b=true,aj (λ_=>⟨rfl,rfl⟩) (λd=>by simp[nh,k]at d),?_⟩;rintro _ _ _ ⟨rfl,rfl⟩;exact cr ⟨by simp[Mem.aI,k],i⟩
 | true=>
  have r:=Mem.fC k;obtain⟨T2,cs,t,I,hi,l⟩:=j.slot r;have J:=ng k;have v:(m.place s p).toNat=m.idx s p.toNat:=by omega
  cases q:L.pg (m.idx s p.toNat)with
  | none=>
   rw[q]at l;refine⟨λb w'=>w2=w'/\b=true,aj (λ_=>⟨rfl,rfl⟩) (λ_=>aj (λ_=>⟨rfl,rfl⟩) (λ_=>aj (λ_=>⟨rfl,rfl⟩) (λ_=>?_))),?_⟩
   ·refine ar _ rfl ⟨_,_,_,hd.at rfl,by omega,ar _ rfl ⟨none,0,0,?_,rfl,rfl⟩⟩;rw[Nat.mul_one,v];exact t.at l
   ·rintro _ _ _ ⟨rfl,rfl⟩;refine cr ⟨?_,i⟩;have:=j.nil _ hi q o.toNat;rw[Mem.oV m r]at this;simp[Mem.aI,this]
  | some A=>
   obtain⟨b,c⟩:=A;rw[q]at l;obtain⟨M,N,B,O,hw⟩:=j.pgs _ b c hi q;refine⟨λx w'=>w2=w'/\x= !(Mem.eF o),aj (λd=>?_) (λ_=>aj (λd=>⟨rfl,?_⟩) (λC=>aj (λd=>⟨rfl,?_⟩) (λd=>?_))),?_⟩
   ·have:m.place s p<0:=by simpa using d
    omega
   ·have:o<0:=by simpa using d
    simp[Mem.eF];omega
   ·have:o>=1024:=by simpa using d
    simp[Mem.eF];omega
   ·have F:0<=o:=by simpa using C
    have G:o<1024:=by simpa using d
    refine ar _ rfl ⟨_,_,_,hd.at rfl,by omega,ar _ rfl ⟨some (vA b),1024,c,?_,rfl,?_⟩⟩
    ·rw[Nat.mul_one,v];exact t.at l
    ·simp[Mem.eF,F,G]
   ·rintro _ x _ ⟨rfl,rfl⟩;refine cH (λd=>?_) (λd=>?_)
    ·exact⟨by simp[Mem.aI,d],i⟩
    ·have Q:=Mem.jt d;refine ar _ rfl ⟨_,_,_,hd.at rfl,by omega,ar _ rfl ⟨some (vA b),1024,c,?_,?_⟩⟩
     ·rw[Nat.mul_one,v];exact t.at l
     ·refine⟨by omega,ar _ rfl ⟨m.word (m.idx s p.toNat) o.toNat,?_,?_,i⟩⟩
      ·rw[Nat.mul_one];exact B.at (hw o.toNat (by omega))
      ·simp only[Mem.aI,k,d,Bool.and_self,if_true];rw[Mem.oV m r]
def wP(L b:gD)(w:World):Prop:=∀k,b.X k->L.X k\/w.heap.size<=k
theorem wP.refl(L:gD)(w:World):wP L L w:=λ_ h=>.inl h
theorem Jq(h:dq w g L m)(s:Bool)(p:Int):
 Calls prog 53 #[ptr g,fr s p] w λe w'=>∃u,e=.returned u/\∃o,u=.int .i64 (m.cX s p)/\dq w' g o (m.zero s p)/\wP L o w/\Ch L.X w w':=by
 refine wE _ s p ?_;refine mkd λH w1 i=>?_;refine⟨_,_,⟨i.blk.at rfl,i.blk.at rfl⟩,(pz (h.pu i.pu) s p).mono ?_⟩;rintro e w2 ⟨_,rfl,rfl,q⟩;have r:Ch L.X w w2:=((Ch.refl L.X w).made i).pu q;have j:=(h.pu i.pu).pu q;have A:=j.gq;subst A;refine⟨_,rfl,?_⟩;cases d:m.has s p with
 | false=>
  refine aj (λ_=>⟨L,by simp[Mem.cX,d],by simpa[Mem.zero,d]using j,wP.refl _ _,r⟩) (λl=>by simp[nh,d]at l)
 | true=>
  have t:=Mem.fC d;have I:=ng d;have B:(m.place s p).toNat=m.idx s p.toNat:=by omega
  refine aj (λl=>?_) (λ_=>?_)
  ·have:m.place s p<0:=by simpa using l
   omega
  obtain⟨T,hd⟩:=j.hd;refine ar _ rfl ⟨_,hd.at rfl,ar _ rfl (aZ hd (by simp) λC x=>?_)⟩;have n:dq C L.g L (m.tick 1024):=j.tick x;obtain⟨J,hd'⟩:=n.hd;obtain⟨T2,cs,y,M,hi,N⟩:=n.slot (s:=s) (p:=p.toNat) (by simpa using t);have O:m.idx s p.toNat<L.n:=hi;refine ar _ rfl ⟨_,_,_,hd'.at rfl,by omega,ar _ rfl ?_⟩;rw[Nat.mul_one,B];refine aZ y (by simp;omega) λQ z=>?_;have F:=n.lay (s:=s) (p:=p.toNat) (v:=none) (f:=λ_=>0) (by simpa using t) (λ_=>by omega) (λ_ _=>rfl) (λb c e=>by cases e) y z;refine⟨L.put (m.idx s p.toNat) none,by simp[Mem.cX,d],?_,λk G=>.inl ((gD.KJ (v:=none) G).elim id fun⟨c,h⟩=>by cases h),(r.stored x (.inl (.inl rfl))).stored z (.inl (.inr (.inl rfl)))⟩;simp only[Mem.zero,d,if_true];exact F
theorem Jf:S1 prog 25 31 (.slice none 0 0) 24:=S1.of (by kernel_rfl) (by kernel_rfl) rfl
theorem Hg(h:dq w g L m)(s:Bool)(p o v:Int)(hv:0<=v/\v<4294967296):
 Calls prog 36 #[ptr g,fr s p,.int .i64 o,.int .u32 v] w λe w'=>∃u,e=.returned u/\∃d,u=.int .i64 (m.err s p o)/\dq w' g d (m.write s p o v)/\wP L d w/\Ch L.X w w':=by
 refine vC _ s p o v ?_;refine mkd λg1 w1 F=>?_;refine⟨_,_,⟨F.blk.at rfl,F.blk.at rfl⟩,(pz (h.pu F.pu) s p).mono ?_⟩;rintro e w2 ⟨_,rfl,rfl,q2⟩;have S:Ch L.X w w2:=((Ch.refl L.X w).made F).pu q2;have G:=(h.pu F.pu).pu q2;have hg:=G.gq;subst hg;refine⟨_,rfl,?_⟩;cases j:m.has s p with
 | false=>
  refine aj (λ_=>⟨L,by simp[Mem.err,j],by simpa[Mem.write,j]using G,wP.refl _ _,S⟩) (λi=>by simp[nh,j]at i)
 | true=>
  have hn:=Mem.fC j;have aA:=ng j;have ei:(m.place s p).toNat=m.idx s p.toNat:=by omega
  refine aj (λi=>?_) (λ_=>?_)
  ·have:m.place s p<0:=by simpa using i
   omega
  refine⟨λb w'=>w2=w'/\b= !(Mem.eF o),aj (λi=>⟨rfl,?_⟩) (λi=>⟨rfl,?_⟩),?_⟩
  ·simp at i;simp[Mem.eF];omega
  ·simp at i;simp only[Mem.eF,ge_iff_le];rw[Bool.eq_iff_iff];simp;omega
  rintro _ x _ ⟨rfl,rfl⟩;refine cH (λz=>?_) (λz=>?_)
  ·exact⟨L,by simp[Mem.err,j,z],by simpa[Mem.write,j,z]using G,wP.refl _ _,S⟩
  have VP:=Mem.jt z;obtain⟨T,hd⟩:=G.hd;refine ar _ rfl ⟨_,hd.at rfl,ar _ rfl (aZ hd (by simp) λr s3=>?_)⟩;have h3:=G.tick s3;have V:Ch L.X w r:=S.stored s3 (.inl (.inl rfl));have t:p.toNat<(m.tick 1).cnt s:=by simpa using hn
  have H:dq r L.g L (m.tick 1):=h3;obtain⟨T',hd'⟩:=H.hd;obtain⟨T2,cs,hr,O8,hi,I⟩:=H.slot t;have J:(m.place s p).toNat=(m.tick 1).idx s p.toNat:=ei;have bd:m.place s p=((m.tick 1).idx s p.toNat:Int):=aA;refine ar _ rfl ⟨_,_,_,hd'.at rfl,by omega,ar _ rfl ?_⟩;have fin:∀(d:gD)(n:World)(b c:Nat),dq n L.g d (m.tick 1)->wP L d w->Ch L.X w n->d.pg ((m.tick 1).idx s p.toNat)=some (b,c)->
   ay (some (Addr.mk L.g 0 none)) λaC=>
   ∃(A:oA)(N C:Nat),n.cell? (aC.add 0)=some (.slice A N C)/\
   (0<=(m.place s p:Int)/\(m.place s p:Int)<((N:Nat):Int))/\
   ay A λa0=>
   ∃(A2:oA)(N2 C2:Nat),n.cell? (a0.add (Int.toNat (m.place s p)*1))=some (.slice A2 N2 C2)/\
   (0<=(o:Int)/\(o:Int)<((N2:Nat):Int))/\
   ay A2 λa1=>
   aF n (a1.add (Int.toNat o*1)) [O v] λOi=>
   ∃d,Value.int .i64 0=.int .i64 (m.err s p o)/\dq Oi L.g d (m.write s p o v)/\wP L d w/\Ch L.X w Oi:=by
   intro d n b c q aa a2 M;obtain⟨T5,ab⟩:=q.hd;have a3:=q.gq;obtain⟨T6,bf,a4,bg,ae,af⟩:=q.slot t;rw[M]at af;obtain⟨T7,a5,a6,a7,a8⟩:=q.pgs _ b c ae M;rw[a3]at ab;refine ar _ rfl ⟨_,_,_,ab.at rfl,by omega,ar _ rfl ⟨some (vA b),1024,c,by rw[Nat.mul_one,J];exact a4.at af,by omega,ar _ rfl ?_⟩⟩;rw[Nat.mul_one];refine aZ a6 (by simp;omega) λw6 s6=>?_;have hX:d.X b:=.inr (.inr ⟨_,c,ae,M⟩);refine⟨d,by simp[Mem.err,j,z],?_,aa,a2.stored s6 (aa b hX)⟩;have:=q.No (s:=s) (p:=p.toNat) (f:=λl=>if l=o.toNat then v else m.pg s p.toNat l) t M (λl=>by split;exact hv;exact h.u32 _ _ _) (cs:=setAt a5 o.toNat [.int .u32 v]) (by rw[gR];exact a7) (λl ah=>?_) s6
   ·simp only[Mem.write,j,z,Bool.and_self,if_true];exact this
   ·rw[fJ _ _ _ _ (by simp;omega)];simp only[List.length_cons,List.length_nil];by_cases e:l=o.toNat
    ·rw[if_pos (by omega),if_pos e];simp[e]
    ·rw[if_neg (by omega),if_neg e,a8 l ah,Mem.oV _ t];rfl
  cases Q:L.pg ((m.tick 1).idx s p.toNat)with
  | some bc=>
   obtain⟨b,c⟩:=bc;rw[Q]at I;refine⟨some (vA b),1024,c,by rw[Nat.mul_one,J];exact hr.at I,aj (λi=>by simp at i) (λ_=>?_)⟩;exact fin L r b c H (wP.refl _ _) V Q
  | none=>
   rw[Q]at I;refine⟨none,0,0,by rw[Nat.mul_one,J];exact hr.at I,aj (λ_=>?_) (λi=>by simp at i)⟩;have an:∀k,L.X k->k<r.heap.size:=H.lt;refine⟨λ_ k=>k=L.g,ar _ rfl ⟨block_add _ _,_,_,_,hd'.drew.at rfl,?_⟩⟩;refine nr (P:=prog) nP (by omega) (by omega) (by omega) λb w4 B=>?_;have p4:Ch L.X w w4:=V.drew.made B;have R:=(H.pu (Pu.aR r)).pu B.pu;refine⟨B.kept.mono λk W=>(show k=L.g by simpa[bD]using W)▸an _ (.inl rfl),λ_ k=>k=L.g,λ_ _ h=>h,by omega,ar _ rfl ?_⟩;obtain⟨T8,bh,az,bk,a9,bl⟩:=R.slot t;refine aZ az (by simp;omega) λn s5=>?_;rw[Nat.mul_one,J]at s5;have ba:¬L.X b:=λhx=>by have:=an b hx;have h9:=B.num;have bm:r.drew.heap.size=r.heap.size:=rfl;omega
   have q:=R.lay (s:=s) (p:=p.toNat) (v:=some (b,1024)) (f:=(m.tick 1).pg s p.toNat) t (λo=>R.u32 _ _ _) (λe=>by cases e)
    (λb' c' e=>by
     injection e with e;injection e with e1 e2;subst e1
     refine⟨⟨_,_,B.blk,by rw[Array.size_replicate];omega,λl ah=>?_⟩,ba⟩;have:=R.nil _ a9 Q l;rw[Mem.oV _ t]at this;rw[this,Array.getElem?_replicate,if_pos (by omega)]) az s5
   have bb:(m.tick 1).fill s p.toNat ((m.tick 1).pg s p.toNat)=m.tick 1:=by
    simp only[Mem.fill,Mem.tick];congr 1;funext s' p' l;split
    ·rename_i e;rw[e.1,e.2]
    ·rfl
   rw[bb]at q;refine⟨λ_ k=>k=L.g,λ_ _ h=>h,?_⟩;refine fin _ n b 1024 q (λk W=>?_) (p4.stored s5 (.inl (.inr (.inl rfl)))) (by simp[gD.put]);rcases gD.KJ W with y|⟨c6,y⟩
   ·exact .inl y
   ·injection y with y;injection y with y _;subst y
    right;have:=B.num;have h9:=V.size;rw[this];exact h9
theorem K8(s i:Int)(hs:1<=s/\s<=64)(hi:1<=i/\i<=64):
 Calls prog 18 #[.int .i64 s,.int .i64 i] w λe w'=>∃v,e=.returned v/\∃g L,v=.tuple #[ptr g,.int .i64 0]/\dq w' g L (Mem.fresh s.toNat i.toNat)/\(∀k,L.X k->w.heap.size<=k)/\Pu w w':=by
 refine zt s i ?_;refine⟨λb w'=>w=w'/\b=false,?_,?_⟩
 ·refine aj (λd=>by simp at d;omega) (λ_=>aj (λd=>by simp at d;omega) (λ_=>aj (λd=>by simp at d;omega) (λ_=>⟨rfl,by simp;omega⟩)))
 rintro _ x _ ⟨rfl,rfl⟩;refine fy ?_;obtain⟨S,rfl⟩:=Int.eq_ofNat_of_zero_le (show 0<=s by omega);obtain⟨I,rfl⟩:=Int.eq_ofNat_of_zero_le (show 0<=i by omega);refine mkd λl w1 t=>?_;rintro _ rfl;have O:SN prog 25 31 (.slice none 0 0) 1 24:=Jf.sn;refine⟨λk x W=>∃(j:Nat)(A:oA)(c:Nat),k=S+I - j/\x=(j:Int)/\j<=S+I/\gA W (λk=>w.heap.size<=k/\k≠l) 31 1 A j c (List.replicate j (.slice none 0 0))/\(∃T,Blk W l #[.slice A j c,.int .i64 S,.int .i64 0] T)/\Pu w W,
  ⟨_,0,none,0,rfl,rfl,by omega,gA.nil,⟨_,t.blk⟩,t.pu⟩,?_⟩
 rintro _ _ _ w2 ⟨j,A,c,rfl,rfl,Q,y,⟨T,d⟩,B⟩;rw[av (x:=(S:Int)+(I:Int)) (by omega)];refine aD (λR=>?_) (λR=>?_)
 ·refine⟨_,_,_,d.at rfl,?_⟩;refine mkd λg3 w3 n=>?_;have ah:l<w2.heap.size:=d.lt;refine ze O (y.pu n.pu) (news:= [.slice none 0 0]) (m:=1) rfl (λq u hu=>by
   match q with
   |0=>simp at hu;subst hu;exact n.blk.at rfl
   |q+1=>simp at hu) (by simp[Value.oneCell']) (by omega) (by omega) λA' c' C V G=>?_
  have aa:=t.lo (Ch.refl (λ_=>False) w);have ab:Pu w C:=(B.made n).call G λk ⟨b,r,p⟩=>.inr (by have:=y.2 b r;omega);have ae:Blk C l #[.slice A j c,.int .i64 S,.int .i64 0] T:=G.blk (n.old d) fun⟨b,r,p⟩=>(y.2 b r).2 p;refine aZ ae (by simp) λw5 F=>?_;rintro _ rfl;have an:=n.num;refine⟨S+I - (j+1),by omega,j+1,A',c',rfl,by rw[av (by omega)];omega,by omega,?_,⟨T,F.blk⟩,ab.stored F (.inr aa)⟩;have h6:gA C (λk=>w.heap.size<=k/\k≠l) 31 1 A' (j+1) c' (List.replicate (j+1) (.slice none 0 0)):=by
   rw[List.replicate_succ'];exact V.mono λk p=>p.elim id λe=>by subst e;have:=B.size;have:=n.size;omega
  exact h6.ch F.ch λk p e=>p.2 e
 ·have:j=S+I:=by omega
  subst this;obtain⟨H,cur,r,J,M,N,ht⟩:=y.blk (by omega);subst r;have az:H<w2.heap.size:=M.lt;refine⟨l,⟨l,H,c,S+I,λ_=>none⟩,rfl,⟨rfl,rfl,⟨(T,_),d⟩,⟨_,cur,M,by rw[Nat.mul_one]at N;exact N,λq hq=>?_⟩,λq hq _ o=>(by unfold Mem.word;split<;>rfl),λq b c hq h=>(by cases h),λq j b c c' hq Q h=>(by cases h),⟨J.2,λq b c hq h=>(by cases h)⟩,λ_ _ _=>by simp[Mem.fresh],by simp[Mem.fresh];omega⟩,?_,B⟩
  ·have z:(cur.toList.take ((S+I)*1))[q]? =some (.slice none 0 0):=by
    have af:q<S+I:=hq;rw[ht,List.getElem?_replicate,if_pos af]
   rw[List.getElem?_take]at z;split at z
   ·simpa[Ju]using z
   ·cases z
  ·rintro k (rfl|rfl|⟨q,c',_,hq⟩)
   ·exact t.lo (Ch.refl (λ_=>False) w)
   ·exact J.1
   ·cases hq
end
end
open Enc (enc)
section
instance:Enc Ent:=⟨λe=>[.int .i64 e.typ,.int .i64 e.owner,.int .i64 e.refs,.int .i64 e.state,.bool e.aW],5,λ_=>rfl,by simp[Value.oneCell'],by omega⟩
structure lY where
 g:Nat
 e:Nat
 c:Nat
 M:gD
def lY.X(L:lY):Nat->Prop:=λk=>k=L.g\/k=L.e\/L.M.X k
abbrev DB.aT(D:DB):List Ent:=(List.range D.S).map D.ent
structure ic(w:World)(g:Nat)(L:lY)(D:DB):Prop where
 gq:L.g=g
 hd:∃T,Blk w L.g #[.pointer (some (Addr.mk L.M.g 0 none)),.slice (some (Addr.mk L.e 0 none)) D.S L.c,.int .i64 D.aO] T
 es:Own w (λk=>k=L.e) 104 (some (Addr.mk L.e 0 none)) D.S L.c D.aT
 mem:dq w L.M.g L.M D.mem
 ok:D.Ok
 pos:1<=D.S
 dis:L.e≠L.g/\¬L.M.X L.g/\¬L.M.X L.e
section
variable {w w' w2:World}{g:Nat}{L:lY}{D:DB}{Y:Nat->Prop}
theorem ic.hd'(h:ic w g L D):∃T,Blk w g #[.pointer (some (Addr.mk L.M.g 0 none)),.slice (some (Addr.mk L.e 0 none)) D.S L.c,.int .i64 D.aO] T:=h.gq▸h.hd
theorem ic.lt(h:ic w g L D):∀k,L.X k->k<w.heap.size:=by
 rintro k (rfl|rfl|b)
 ·obtain⟨T,hd⟩:=h.hd;exact hd.lt
 ·obtain⟨d,j,i,l⟩:=h.es.lt h.pos;have:d=L.e:=i;omega
 ·exact h.mem.lt k b
theorem ic.ch(h:ic w g L D)(b:Ch Y w w')(d:∀k,L.X k->¬Y k):ic w' g L D:=by
 refine⟨h.gq,?_,h.es.ch b λk e=>d k (.inr (.inl e)),h.mem.ch b λk i=>d k (.inr (.inr i)),h.ok,h.pos,h.dis⟩;obtain⟨T,hd⟩:=h.hd;exact⟨T,b.blk hd (d _ (.inl rfl))⟩
theorem ic.pu(h:ic w g L D)(b:Pu w w'):ic w' g L D:=h.ch b (by simp)
theorem ic.S64(h:ic w g L D):D.S<=64:=h.mem.most.1
theorem lY.inM(L:lY)(k:Nat)(h:L.M.X k):L.X k:=.inr (.inr h)
theorem ic.eK(h:ic w g L D){m:Mem}{M:gD}(hm:dq w' L.M.g M m)(i:Ch L.M.X w w')(j:∀k,M.X k->L.M.X k\/w.heap.size<=k)(hs:m.S=D.mem.S):ic w' g {L with M:=M} (D.bO m)/\(∀k,lY.X {L with M:=M} k->L.X k\/w.heap.size<=k):=by
 have l:∀k,L.X k->¬L.M.X k->¬M.X k:=λk b o q=>(j k q).elim o λr=>absurd (h.lt k b) (Nat.not_lt.2 r);have t:DB.aT (D.bO m)=D.aT:=by show List.map D.ent (List.range m.S)=List.map D.ent (List.range D.mem.S);rw[hs]
 have d:DB.S (D.bO m)=D.S:=hs;refine⟨⟨h.gq,?_,?_,?_,⟨λp n=>?_,h.ok.aO⟩,by rw[d];exact h.pos,h.dis.1,l _ (.inl rfl) h.dis.2.1,l _ (.inr (.inl rfl)) h.dis.2.2⟩,?_⟩
 ·obtain⟨T,hd⟩:=h.hd;refine⟨T,?_⟩;rw[d];show Blk w' L.g #[.pointer (some (Addr.mk M.g 0 none)),_,_] T;rw[hm.gq];exact i.blk hd h.dis.2.1
 ·rw[t,d];exact h.es.ch i λk e=>e▸h.dis.2.2
 ·show dq w' M.g M m;have:=hm.gq;rw[this];exact hm
 ·rw[d]at n ⊢;exact h.ok.ent p n
 ·rintro k (b|b|b)
  ·exact .inl (.inl b)
  ·exact .inl (.inr (.inl b))
  ·exact(j k b).imp (λh=>.inr (.inr h)) id
theorem ic.Fo(h:ic w g L D){x:Int}{T:TypeId}(hs:cJ w g #[.pointer (some (Addr.mk L.M.g 0 none)),.slice (some (Addr.mk L.e 0 none)) D.S L.c,.int .i64 x] T w2)(b:0<=x/\x<=64):ic w2 g L (D.ig x):=by
 have d:=h.gq;subst d;exact⟨rfl,⟨T,hs.blk⟩,h.es.ch hs.ch λk e i=>h.dis.1 (by rw[<-e,i]),h.mem.ch hs.ch λk j e=>h.dis.2.1 (e▸j),⟨h.ok.ent,b⟩,h.pos,h.dis⟩
theorem ic.ldE(h:ic w g L D){i:Int}(d:0<=i)(k:i<(D.S:Int)):∃p,some (Addr.mk L.e 0 none)=some p/\∀j,j<5->w.cell? ((p.add (i.toNat *5)).add j)=(enc (D.at_ i))[j]? :=by
 obtain⟨p,x,l,b,o,n⟩:=h.es.rd.ld d k;refine⟨p,l,?_⟩;have hi:i.toNat<D.S:=by omega
 rw[List.getElem?_map,List.getElem?_range hi]at b;injection b with b
 subst b;exact n
theorem DB.Bs(D:DB){p:Int}(e:Ent):(D.set p e).aT=D.aT.set p.toNat e:=by
 apply List.ext_getElem?;intro i;show((List.range D.S).map (D.set p e).ent)[i]? =_;rw[List.getElem?_set,List.getElem?_map,List.getElem?_map];by_cases hi:i<D.S
 ·rw[List.getElem?_range hi];simp only[DB.set,Option.map_some];by_cases b:p.toNat=i
  ·rw[if_pos b.symm,if_pos b,if_pos (by simp;omega)]
  ·rw[if_neg (λe=>b e.symm),if_neg b]
 ·rw[List.getElem?_eq_none (by simp;omega)];simp;omega
end
end
section
structure Fl where
 rs:List U32
 pc:Int
 z:Bool
 n:Bool
 l:Bool
namespace Fl
def Ok(s:Fl):Prop:=s.rs.length=15
def po(s:Fl)(i:Nat)(x:U32):Fl:= {s with rs:=List.set s.rs i x}
def zero:Fl:=⟨[U32.mk 0,U32.mk 0,U32.mk 0,U32.mk 0,U32.mk 0,U32.mk 0,U32.mk 0,U32.mk 0,U32.mk 0,U32.mk 0,U32.mk 0,U32.mk 0,U32.mk 0,U32.mk 0,U32.mk 0],0,false,false,false⟩
def norm(s:Fl):Fl:= {s with rs:=aV (λj=>U32.mk (s.rs.getD j (U32.mk 0)).v) (upN 0 15)}
theorem Nd(s:Fl):s.norm.Ok:=rfl
def words(s:Fl):List Value:=aV (λj=>.int .u32 (s.rs.getD j (U32.mk 0)).v) (upN 0 15)
def cells(s:Fl):List Value:=s.words++ [.int .u32 s.pc,.bool s.z,.bool s.n,.bool s.l]
theorem words_eq {s:Fl}(h:s.Ok):s.words=s.rs.map λx=>.int .u32 x.v:=by
 obtain⟨rs,pc,z,n,l⟩:=s
 match rs,h with
 | [_,_,_,_,_,_,_,_,_,_,_,_,_,_,_],_=>rfl
theorem gX(s:Fl):s.words.length=15:=rfl
theorem F9 {s:Fl}(h:s.Ok){i:Nat}{x:U32}(b:s.rs[i]? =some x):s.cells[i]? =some (.int .u32 x.v):=by
 have hi:i<15:=by have:=(List.getElem?_eq_some_iff.1 b).1;rw[h]at this;exact this
 rw[cells,List.getElem?_append_left (by rw[gX];exact hi),words_eq h,List.getElem?_map,b];rfl
theorem F8 {s:Fl}(h:s.Ok){i:Nat}(hi:i<15)(x:U32):(s.po i x).cells=s.cells.set i (.int .u32 x.v):=by
 have b:(s.po i x).Ok:=by show(List.set s.rs i x).length=15;rw[List.length_set];exact h
 rw[cells,words_eq b,cells,words_eq h,List.set_append_left _ _ (by rw[List.length_map,h];exact hi)];show(List.set s.rs i x).map _++_=_;rw[List.map_set];rfl
end Fl
theorem flE {s t:Fl}(h:s=t):Value.agg ⟨Fl.cells s⟩=Value.agg ⟨Fl.cells t⟩:=h▸rfl
theorem pJ {α β:Type}{f:α->β}{u:β}:∀ {l:List α},u∈aV f l->∃a,u=f a
 | a::l,h=>by
  rcases List.mem_cons.1 h with e|h
  ·exact⟨a,e⟩
  ·exact pJ (l:=l) h
instance:Enc Fl:=⟨Fl.cells,19,λ_=>rfl,λx u h=>by
 rcases List.mem_append.1 h with h|h
 ·obtain⟨a,rfl⟩:=pJ h
  rfl
 ·simp only[List.mem_cons,List.not_mem_nil,or_false]at h
  rcases h with rfl|rfl|rfl|rfl<;>rfl,by omega⟩
structure FlP(w:World)(g:Nat)(s:Fl):Prop where
 len:s.Ok
 blk:∃T,Blk w g ⟨s.cells⟩ T
section
variable {w:World}{g:Nat}{s:Fl}{K:World->Prop}
theorem FlP.st(h:FlP w g s){i:Nat}{v:Value}{b:Fl}(hi:i<19)(d:b.Ok)(j:b.cells=s.cells.set i v)(l:∀w',FlP w' g b->Ch (λk=>k=g) w w'->K w'):aF w ⟨g,i,none⟩ [v] K:=by
 obtain⟨T,n⟩:=h.blk;exact jC n (by show i+1<=s.cells.length;show i+1<=19;omega) λw2 st=>l w2 ⟨d,T,by rw[j];exact st.blk.cast (by rw[kD];simp)⟩ st.ch
theorem FlP.li(h:FlP w g s){X:Nat->Prop}(b:∀k,k=g↔X k):Rd w X (some (Addr.mk g 0 none)) s.rs.length s.rs.length s.rs:=by
 obtain⟨T,d⟩:=h.blk;refine⟨rfl,Nat.le_refl _,λk n=>by rw[(b k).2 n];exact d.lt,λi x hi=>⟨_,rfl,(b _).1 rfl,λj l=>?_⟩⟩;have l:j=0:=by have:Enc.size U32=1:=rfl;omega
 subst l;rw[cm,Nat.zero_add,show Enc.size U32=1 from rfl,Nat.mul_one];show w.cell? ⟨g,i,none⟩=some (.int .u32 x.v);exact d.cell (by simpa using Fl.F9 h.len hi)
theorem FlP.stR(h:FlP w g s){X:Nat->Prop}(d:∀k,k=g↔X k){i:Nat}{x y:U32}(p:s.rs[i]? =some x){o:Nat}{vs:List Value}(u:o+vs.length<=1)(b:enc y=(enc x).take o++vs++(enc x).drop (o+vs.length))(n:∀w',(∀k,k=g↔X k)/\FlP w' g (s.po i y)->Ch X w w'->K w'):
 aF w (((Addr.mk g 0 none).add (i*1)).add o) vs K:=by
 have hi:i<15:=by have:=(List.getElem?_eq_some_iff.1 p).1;rw[h.len]at this;exact this
 have hlen:(s.po i y).Ok:=by show(List.set s.rs i y).length=15;rw[List.length_set];exact h.len
 obtain⟨T,r⟩:=h.blk;rw[cm,Nat.zero_add,Nat.mul_one];have ex:enc x= [.int .u32 x.v]:=rfl;have z:enc y= [.int .u32 y.v]:=rfl;rw[ex,z]at b;have t:∀j,j<=19->j<=(⟨s.cells⟩:Array Value).size:=λj A=>A;have same:x=y->s.po i y=s:=λe=>by
  subst e;have:s.rs.set i x=s.rs:=by
   apply List.ext_getElem?;intro j;rw[List.getElem?_set];split
   ·rename_i e;subst e;rw[if_pos (by rw[h.len];exact hi),p]
   ·rfl
  unfold Fl.po;rw[this]
 match vs,o,u with
 | [v],0,_=>
  simp at b;subst b;exact(FlP.st h (i:=i) (by omega) hlen (Fl.F8 h.len hi y) λw' B q=>n w' ⟨d,B⟩ (q.mono λk l=>(d k).1 l))
 | [],0,_=>
  simp at b;refine⟨g,i,_,T,rfl,r,by simpa using t i (by omega),λw2 st=>n w2 ⟨d,by rw[same (by cases x;cases y;simp at b;rw[b])];exact⟨h.len,T,st.blk⟩⟩ (st.ch.mono λk l=>(d k).1 l)⟩
 | [],1,_=>
  simp at b;refine⟨g,i+1,_,T,rfl,r,by simpa using t (i+1) (by omega),λw2 st=>n w2 ⟨d,by rw[same (by cases x;cases y;simp at b;rw[b])];exact⟨h.len,T,st.blk⟩⟩ (st.ch.mono λk l=>(d k).1 l)⟩
theorem FlP.all(h:FlP w g s){b:Fl}(d:b.Ok)(i:∀w',FlP w' g b->Ch (λk=>k=g) w w'->K w'):aF w ⟨g,0,none⟩ b.cells K:=by
 obtain⟨T,j⟩:=h.blk;exact bE j rfl λw2 st=>i w2 ⟨d,T,st.blk.cast (by simp)⟩ st.ch
end
def xH:List Value->Option Fl
 | [.int .u32 a0,.int .u32 b,.int .u32 d,.int .u32 h,.int .u32 i,.int .u32 j,.int .u32 k,.int .u32 o,.int .u32 p,.int .u32 q,.int .u32 r,.int .u32 t,.int .u32 u,.int .u32 v,.int .u32 x,.int .u32 pc,.bool z,.bool n,.bool l]=>
  some ⟨[⟨a0⟩,⟨b⟩,⟨d⟩,⟨h⟩,⟨i⟩,⟨j⟩,⟨k⟩,⟨o⟩,⟨p⟩,⟨q⟩,⟨r⟩,⟨t⟩,⟨u⟩,⟨v⟩,⟨x⟩],pc,z,n,l⟩
 |_=>none
theorem nt {cs:List Value}{s:Fl}(h:xH cs=some s):cs=s.cells/\s.Ok:=by
 unfold xH at h;split at h
 ·injection h with h
  subst h;exact⟨rfl,rfl⟩
 ·cases h
end
section
structure Pd where
 n:Nat
 aO:Int
 ent:Nat->Ent
namespace Pd
def on(E:Pd)(m:Mem):DB:=⟨m,E.aO,E.ent⟩
def aT(E:Pd):List Ent:=(List.range E.n).map E.ent
end Pd
abbrev eG(E:Pd)(p:Int):Ent:=(Pd.aT E).getD p.toNat Ent.free
namespace Pd
def set(E:Pd)(i:Nat)(e:Ent):Pd:= {E with ent:=λq=>if q=i then e else E.ent q}
def ig(E:Pd)(x:Int):Pd:= {E with aO:=x}
structure Ok(E:Pd):Prop where
 ent:∀p,p<E.n->(E.ent p).ok=true/\(E.ent p).owner<E.n
 aO:0<=E.aO/\E.aO<=64
 most:E.n<=64
@[simp] theorem eZ(E:Pd):E.aT.length=E.n:=by simp[aT]
theorem Bt {E:Pd}{i:Nat}(h:i<E.n):E.aT[i]? =some (E.ent i):=by simp[aT,h]
theorem dQ {E:Pd}{p:Int}{d:Ent}(h:0<=p/\p<((E.n:Nat):Int)):E.aT.getD p.toNat d=E.ent p.toNat:=by
 rw[List.getD_eq_getElem?_getD,Bt (by omega)];rfl
theorem Bs(E:Pd)(i:Nat)(e:Ent):(E.set i e).aT=E.aT.set i e:=by
 apply List.ext_getElem?;intro j;show((List.range E.n).map (E.set i e).ent)[j]? =_;rw[List.getElem?_set,List.getElem?_map];by_cases b:j<E.n
 ·rw[List.getElem?_range b];simp only[Option.map_some,set,eZ,Bt b];by_cases d:i=j
  ·subst d;simp[b]
  ·rw[if_neg (λh=>d h.symm),if_neg d]
 ·rw[List.getElem?_eq_none (by simp;omega),List.getElem?_eq_none (l:=E.aT) (by simp;omega)];simp;intro k;omega
end Pd
def DB.pd(D:DB):Pd:=⟨D.S,D.aO,D.ent⟩
theorem Pd.dm(E:Pd)(m:Mem)(h:E.n=m.S):(E.on m).pd=E:=by
 cases E;simp only[on]at *;simp[DB.pd,DB.S,<-h]
theorem Pd.dS(E:Pd)(m:Mem):(E.on m).mem=m:=rfl
theorem Pd.uv(E:Pd)(m:Mem)(h:E.n=m.S):(E.on m).S=E.n:=h.symm
theorem Pd.lu(E:Pd)(m:Mem)(p:Int)(h:E.n=m.S):(E.on m).has p=decide (0<=p/\p<((E.n:Nat):Int)):=by unfold DB.has;rw[uv E m h]
theorem Pd.pF(E:Pd)(m:Mem)(p:Int):(E.on m).at_ p=E.ent p.toNat:=rfl
theorem Pd.gS(E:Pd)(m:Mem)(p:Int)(e:Ent):(E.on m).set p e=(E.set p.toNat e).on m:=rfl
theorem Pd.gB(E:Pd)(m:Mem)(f:Mem->Mem):(E.on m).eK f=E.on (f m):=rfl
theorem Pd.uu(E:Pd)(m m':Mem):(E.on m).bO m'=E.on m':=rfl
theorem Pd.AM(E:Pd)(m:Mem)(b:Int):(E.on m).ig b=(E.ig b).on m:=rfl
theorem Pd.IV(E:Pd)(b:Int):(E.ig b).n=E.n:=rfl
theorem Pd.FL(E:Pd)(m:Mem):(E.on m).aO=E.aO:=rfl
theorem Pd.pn(E:Pd)(i:Nat)(e:Ent):(E.set i e).n=E.n:=rfl
theorem Pd.jn(E:Pd)(i j:Nat)(e:Ent):(E.set i e).ent j=if j=i then e else E.ent j:=rfl
theorem Pd.CN(E:Pd)(i:Nat)(e:Ent):(E.set i e).aO=E.aO:=rfl
structure PdP(w:World)(g a mg:Nat)(E:Pd):Prop where
 hd:∃T,Blk w g #[.pointer (pvA mg),.int .i64 E.aO,.slice (pvA a) (2*E.n) (2*E.n)] T
 ws:∃T cs,Blk w a cs T/\cs.size=2*E.n/\∀p,p<E.n->cs[2*p]? =some (O (E.ent p).w0)/\cs[2*p+1]? =some (O (E.ent p).w1)
 ok:E.Ok
 ne:a≠g
structure nM(w:World)(g mg e c:Nat)(E:Pd):Prop where
 hd:∃T,Blk w g #[.pointer (pvA mg),.slice (pvA e) E.n c,.int .i64 E.aO] T
 es:Own w (λk=>k=e) 104 (pvA e) E.n c E.aT
 ok:E.Ok
 ne:e≠g
 pos:1<=E.n
section
variable {w w':World}{g a mg e c:Nat}{E:Pd}{Y:Nat->Prop}
theorem PdP.ch(h:PdP w g a mg E)(q:Ch Y w w')(b:¬Y g)(d:¬Y a):PdP w' g a mg E:=by
 obtain⟨T,hd⟩:=h.hd;obtain⟨T2,cs,i,j⟩:=h.ws;exact⟨⟨T,q.blk hd b⟩,⟨T2,cs,q.blk i d,j⟩,h.ok,h.ne⟩
theorem nM.ch(h:nM w g mg e c E)(q:Ch Y w w')(b:¬Y g)(he:¬Y e):nM w' g mg e c E:=by
 obtain⟨T,hd⟩:=h.hd;exact⟨⟨T,q.blk hd b⟩,h.es.ch q λk d=>d▸he,h.ok,h.ne,h.pos⟩
theorem PdP.lt(h:PdP w g a mg E):g<w.heap.size/\a<w.heap.size:=by
 obtain⟨T,hd⟩:=h.hd;obtain⟨T2,cs,b,d⟩:=h.ws;exact⟨hd.lt,b.lt⟩
theorem nM.lt(h:nM w g mg e c E):g<w.heap.size/\e<w.heap.size:=by
 obtain⟨T,hd⟩:=h.hd;obtain⟨b,i,d,j⟩:=h.es.lt h.pos;have:b=e:=d;exact⟨hd.lt,by omega⟩
theorem PdP.db {L:gE}{m:Mem}(h:PdP w g a L.g E)(hm:dW w L m)(b:E.n=m.S)(d:¬L.X g/\¬L.X a):DBP w ⟨g,a,L⟩ (E.on m):=by
 have j:(E.on m).S=E.n:=b.symm;refine⟨?_,?_,hm,⟨λp i=>?_,h.ok.aO⟩,h.ne,d.1,d.2⟩
 ·show ∃T,Blk w g #[_,_,.slice _ (2*m.S) (2*m.S)] T;rw[<-b];exact h.hd
 ·show ∃T cs,Blk w a cs T/\cs.size=2*m.S/\∀p,p<m.S->_;rw[<-b];exact h.ws
 ·rw[j]at i ⊢;exact h.ok.ent p i
theorem DBP.pd {L:gG}{D:DB}(h:DBP w L D):PdP w L.g L.a L.M.g D.pd:=⟨h.hd,h.ws,⟨h.ok.ent,h.ok.aO,h.mem.most.1⟩,h.dis.1⟩
theorem PdP.Fo(h:PdP w g a mg E){x:Int}(b:0<=x/\x<=64){K:World->Prop}(d:∀w',PdP w' g a mg (E.ig x)->Ch (λk=>k=g) w w'->K w'):aF w ⟨g,1,none⟩ [.int .i64 x] K:=by
 obtain⟨T,hd⟩:=h.hd;obtain⟨T2,cs,i,j⟩:=h.ws;exact jC hd (by simp) λw2 s=>d w2 ⟨⟨T,s.blk⟩,⟨T2,cs,s.old i h.ne,j⟩,⟨h.ok.ent,b,h.ok.most⟩,h.ne⟩ s.ch
theorem nM.Fo(h:nM w g mg e c E){x:Int}(b:0<=x/\x<=64){K:World->Prop}(d:∀w',nM w' g mg e c (E.ig x)->Ch (λk=>k=g) w w'->K w'):aF w ⟨g,2,none⟩ [.int .i64 x] K:=by
 obtain⟨T,hd⟩:=h.hd;exact jC hd (by simp) λw2 s=>d w2 ⟨⟨T,s.blk⟩,h.es.ch s.ch λk i j=>h.ne (by rw[<-i,j]),⟨h.ok.ent,b,h.ok.most⟩,h.ne,h.pos⟩ s.ch
theorem nM.KZ(h:nM w g mg e c E){i:Nat}{x y:Ent}(d:E.aT[i]? =some x){o:Nat}{vs:List Value}(q:o+vs.length<=5)(r:enc y=(enc x).take o++vs++(enc x).drop (o+vs.length))(j:y.ok=true/\y.owner<(E.n:Int)){K:World->Prop}
 (t:∀w',nM w' g mg e c (E.set i y)->Ch (λk=>k=e) w w'->K w'):aF w (((vA e).add (i*5)).add o) vs K:=by
 have hi:i<E.n:=by
  have:=(List.getElem?_eq_some_iff.1 d).1;simpa using this
 obtain⟨T,hd⟩:=h.hd;refine h.es.st rfl hi d q r λw2 u l=>t w2 ⟨⟨T,l.blk hd λe=>h.ne e.symm⟩,by rw[Pd.Bs];exact u,⟨λp n=>?_,h.ok.aO,h.ok.most⟩,h.ne,h.pos⟩ l;show(if p=i then y else E.ent p).ok=true/\_;split
 ·rename_i b;refine⟨j.1,?_⟩;show(if p=i then y else E.ent p).owner<_;rw[if_pos b];exact j.2
 ·rename_i b;refine⟨(h.ok.ent p n).1,?_⟩;show(if p=i then y else E.ent p).owner<_;rw[if_neg b];exact(h.ok.ent p n).2
end
def Dg.sv(d:Dg):List Value:=aV (λj=>.int .u32 (d.save.getD j 0)) (upN 0 26)
def Dg.svL(d:Dg):List U32:=aV (λj=>uM (d.save.getD j 0)) (upN 0 26)
def vn(w:World)(g:Nat)(s:List U32):Prop:=∃T,Blk w g (bS (s.map U32.v)) T
def wk:List Value->Option (List U32)
 | []=>some []
 | .int .u32 x::r=>(match wk r with
  |some l=>some (uM x::l)
  |none=>none)
 |_=>none
theorem kO:∀ {cs:List Value}{l:List U32},wk cs=some l->cs=(l.map U32.v).map (Value.int .u32)
 | [],l,h=>by simp only[wk,Option.some.injEq]at h;subst h;rfl
 | v::r,l,h=>by
  unfold wk at h;split at h
  ·rename_i e;cases e
  ·rename_i x r' e;injection e with b d
   subst b;subst d;split at h
   ·rename_i l' i;injection h with h
    subst h;rw[kO i];rfl
   ·cases h
  ·cases h
theorem K3 {w:World}{g mg e c:Nat}{E:Pd}{X:Nat->Prop}(d:∀k,(k=g\/k=e)↔X k)(h:nM w g mg e c E):Rd w X (pvA e) E.aT.length c E.aT:=by
 rw[Pd.eZ];exact h.es.rd.mono (λk b=>(d k).1 (.inr b.1)) λk b=>by rcases(d k).2 b with rfl|rfl;exact h.lt.1;exact h.lt.2
theorem K4 {w:World}{g mg e c:Nat}{E:Pd}(h:nM w g mg e c E):w.cell? ⟨g,0,none⟩=some (.pointer (some ⟨mg,0,none⟩))/\w.cell? ⟨g,1,none⟩=some (.slice (some ⟨e,0,none⟩) E.aT.length c)/\w.cell? ⟨g,2,none⟩=some (J E.aO):=by
 obtain⟨T,hd⟩:=h.hd;rw[Pd.eZ];exact⟨hd.cell rfl,hd.cell rfl,hd.cell rfl⟩
theorem Mw {w:World}{g a mg:Nat}{E:Pd}(h:PdP w g a mg E):w.cell? ⟨g,0,none⟩=some (.pointer (some ⟨mg,0,none⟩))/\w.cell? ⟨g,1,none⟩=some (J E.aO):=by
 obtain⟨T,hd⟩:=h.hd;exact⟨hd.cell rfl,hd.cell rfl⟩
theorem Jj {w:World}{g:Nat}{s:List U32}{X:Nat->Prop}(b:∀k,k=g↔X k)(h:vn w g s):Rd w X (pvA g) s.length s.length s:=by
 obtain⟨T,d⟩:=h;refine⟨rfl,Nat.le_refl _,λk n=>by rw[(b k).2 n];exact d.lt,λi x hi=>⟨_,rfl,(b _).1 rfl,λj l=>?_⟩⟩;have l:j=0:=by have:Enc.size U32=1:=rfl;omega
 subst l;have o:i<s.length:=(List.getElem?_eq_some_iff.1 hi).1;rw[cm,Nat.zero_add,show Enc.size U32=1 from rfl,Nat.mul_one];show w.cell? ⟨g,i,none⟩=some (O x.v);refine d.cell ?_;rw[iT (by simpa using o),List.getD_eq_getElem?_getD,List.getElem?_map,hi];rfl
theorem Ji {w:World}{g i:Nat}{s:List U32}{X:Nat->Prop}(p:∀k,k=g↔X k)(h:vn w g s){x y:U32}(d:s[i]? =some x){o:Nat}{vs:List Value}(r:o+vs.length<=1)(b:enc y=(enc x).take o++vs++(enc x).drop (o+vs.length)){K:World->Prop}(t:∀w',(∀k,k=g↔X k)/\vn w' g (s.set i y)->Ch X w w'->K w'):
 aF w (((vA g).add (i*1)).add o) vs K:=by
 obtain⟨T,l⟩:=h;have q:i<s.length:=(List.getElem?_eq_some_iff.1 d).1;have n:∀w2,cJ w g (bS ((s.set i y).map U32.v)) T w2->K w2:=λw2 st=>t w2 ⟨p,T,st.blk⟩ (st.ch.mono λk u=>(p k).1 u);rw[cm,Nat.zero_add,Nat.mul_one];have ex:enc x= [.int .u32 x.v]:=rfl;have z:enc y= [.int .u32 y.v]:=rfl;rw[ex,z]at b
 match vs,o,r with
 | [v],0,_=>
  simp at b;subst b;refine⟨g,i,_,T,rfl,l,by simp;omega,λw2 st=>n w2 ?_⟩;rw[List.map_set,<-ug];exact st
 | [],0,_=>
  simp at b;refine⟨g,i,_,T,rfl,l,by simp;omega,λw2 st=>n w2 ?_⟩;have:s.set i y=s:=by
   have:y=x:=by cases x;cases y;simp at b;rw[b]
   rw[this];exact List.ext_getElem? λj=>by rw[List.getElem?_set];split;(rename_i e;subst e;(try rw[if_pos q]);rw[d]);rfl
  rw[this];exact st
 | [],1,_=>
  simp at b;refine⟨g,i+1,_,T,rfl,l,by simp;omega,λw2 st=>n w2 ?_⟩;have:s.set i y=s:=by
   have:y=x:=by cases x;cases y;simp at b;rw[b]
   rw[this];exact List.ext_getElem? λj=>by rw[List.getElem?_set];split;(rename_i e;subst e;(try rw[if_pos q]);rw[d]);rfl
  rw[this];exact st
theorem Jg {w:World}{g:Nat}{s l:List U32}{vs:List Value}{X:Nat->Prop}(b:∀k,k=g↔X k)(h:vn w g s)(d:wk vs=some l)(p:s.length=l.length){K:World->Prop}(i:∀w',(∀k,k=g↔X k)/\vn w' g l->Ch X w w'->K w'):aF w ⟨g,0,none⟩ vs K:=by
 obtain⟨T,j⟩:=h;have e:=kO d;have n:vs=(bS (l.map U32.v)).toList:=by rw[e];simp[bS]
 rw[n];exact nb j (by simp;omega) λw2 st=>i w2 ⟨b,T,st.blk⟩ (st.ch.mono λk o=>(b k).1 o)
def Mem.Wf(m:Mem):Prop:=(∀s i o,0<=m.pg s i o/\m.pg s i o<4294967296)/\m.S<=64/\m.I<=64
end
section
structure Hd where
 A:Option Addr
 n:Nat
 c:Nat
instance:Enc Hd:=⟨λx=>[.slice x.A x.n x.c],1,λ_=>rfl,by simp[Value.oneCell'],by omega⟩
structure Nst where
 A:Option Addr
 c:Nat
 hs:List Hd
 ls:List (List U32)
 own:Bool
namespace Nst
def hd(s:Nst)(k:Nat):Hd:=s.hs.getD k ⟨none,0,0⟩
def l(s:Nst)(k:Nat):List U32:=s.ls.getD k []
def set(s:Nst)(k i:Nat)(x:U32):Nst:= {s with ls:=s.ls.set k ((s.l k).set i x)}
structure Ok(s:Nst):Prop where
 len:s.ls.length=s.hs.length
 n:∀k,k<s.hs.length->(s.hd k).n=(s.l k).length
theorem Ok.n_eq {s:Nst}(h:s.Ok)(k:Nat):(s.hs.getD k ⟨none,0,0⟩).n=(s.l k).length:=by
 by_cases b:k<s.hs.length
 ·exact h.n k b
 ·unfold l;rw[List.getD_eq_getElem?_getD,List.getElem?_eq_none (by omega),List.getD_eq_getElem?_getD,List.getElem?_eq_none (by rw[h.len];omega)];rfl
theorem KB(s:Nst){k i j:Nat}{x:U32}(b:k<s.ls.length):(s.set k i x).l j=if j=k then(s.l k).set i x else s.l j:=by
 unfold l set;simp only;rw[List.getD_eq_getElem?_getD,List.getElem?_set];by_cases h:j=k
 ·subst h;rw[if_pos rfl,if_pos b,if_pos rfl];rfl
 ·rw[if_neg (λe=>h e.symm),if_neg h,List.getD_eq_getElem?_getD]
end Nst
structure zG(w:World)(s:Nst)(X Z:Nat->Prop)(g:Nat->Nat)(f:Nat->List U32):Prop where
 out:Rd w Z s.A s.hs.length s.c s.hs
 z:∀k,Z k->X k
 inn:∀k,k<s.hs.length->¬Z (g k)/\X (g k)/\(s.hd k).A=some ⟨g k,0,none⟩/\(∃c,Own w (λi=>i=g k) 23 (some ⟨g k,0,none⟩) (f k).length c (f k))/\(s.hd k).n<=(f k).length/\s.l k=(f k).take (s.hd k).n
 ne:∀j k,j<s.hs.length->k<s.hs.length->j≠k->g j≠g k
structure gj(w:World)(s:Nst)(X:Nat->Prop):Prop where
 ok:s.Ok
 lt:∀k,X k->k<w.heap.size
 out:Rd w X s.A s.hs.length s.c s.hs
 inn:∀k,k<s.hs.length->Rd w X (s.hd k).A (s.hd k).n (s.hd k).c (s.l k)
 own:s.own=true->∃Z g f,zG w s X Z g f
section
variable {w w':World}{s:Nst}{X Y Z:Nat->Prop}{g:Nat->Nat}{f:Nat->List U32}
theorem zG.ch(h:zG w s X Z g f)(q:Ch Y w w')(d:∀k,X k->¬Y k):zG w' s X Z g f:=
 ⟨h.out.ch q λk b=>d k (h.z k b),h.z,λk b=>by
  obtain⟨l,j,n,⟨c,o⟩,p⟩:=h.inn k b;exact⟨l,j,n,⟨c,o.ch q λi hi=>hi▸d _ j⟩,p⟩,h.ne⟩
theorem gj.ch(h:gj w s X)(q:Ch Y w w')(b:∀k,X k->¬Y k):gj w' s X:=
 ⟨h.ok,λk d=>Nat.lt_of_lt_of_le (h.lt k d) q.size,h.out.ch q b,λk d=>(h.inn k d).ch q b,λe=>by
  obtain⟨Z,g,f,i⟩:=h.own e;exact⟨Z,g,f,i.ch q b⟩⟩
theorem Rd.take {A:Option Addr}{n m c:Nat}{l:List U32}(h:Rd w X A n c l)(hm:m<=n):Rd w X A m c (l.take m):=
 ⟨by rw[List.length_take,h.len];omega,Nat.le_trans hm h.cap,h.lt,λi x b=>by
  rw[List.getElem?_take]at b;split at b
  ·exact h.cell i x b
  ·cases b⟩
theorem zG.rd(h:zG w s X Z g f)(d:∀k,X k->k<w.heap.size){k:Nat}(j:k<s.hs.length)(l:(s.hd k).n<=(s.hd k).c):Rd w X (s.hd k).A (s.hd k).n (s.hd k).c (s.l k):=by
 obtain⟨A,n,o,⟨c,q⟩,r,t⟩:=h.inn k j;have b:=Rd.take q.rd r;rw[<-o,<-t]at b;exact⟨b.len,l,d,λi x u=>by
  obtain⟨p,v,y,z⟩:=b.cell i x u;exact⟨p,v,by rw[y.1];exact n,z⟩⟩
def Nst.li(s:Nst)(i:Nat):List U32:=s.l i
theorem gj.ne(h:gj w s X){i:Nat}{x:Hd}(b:s.hs[i]? =some x):enc x= [.slice (s.hd i).A (s.l i).length (s.hd i).c]:=by
 have hi:=(List.getElem?_eq_some_iff.1 b).1;have e:s.hd i=x:=by unfold Nst.hd;rw[List.getD_eq_getElem?_getD,b];rfl
 rw[<-h.ok.n i hi,e];rfl
theorem gj.st(h:gj w s X)(H:s.own=true){k i:Nat}(n:k<s.hs.length){x y:U32}(r:(s.l k)[i]? =some x){off:Nat}{vs:List Value}(I:off+vs.length<=1)(J:enc y=(enc x).take off++vs++(enc x).drop (off+vs.length)){K:World->Prop}(M:∀w',gj w' (s.set k i y) X->Ch X w w'->K w'):
 aF w ((((s.hd k).A.getD ⟨0,0,none⟩).add (i*1)).add off) vs K:=by
 obtain⟨Z,g,f,l⟩:=h.own H;obtain⟨v,N,O,⟨c,Q⟩,h5,z⟩:=l.inn k n;have R:i<(s.hd k).n:=by
  have:=(List.getElem?_eq_some_iff.1 r).1;rw[<-h.ok.n k n]at this;exact this
 have S:(f k)[i]? =some x:=by rw[z,List.getElem?_take,if_pos R]at r;exact r
 have T:s.ls.length=s.hs.length:=h.ok.len;rw[O];refine Q.st rfl (i:=i) (by omega) S (o:=off) (vs:=vs) (y:=y) I J λw2 V q=>?_;have W:Ch X w w2:=q.mono λj d=>d▸N;have t:∀j,X j->j<w2.heap.size:=λj d=>Nat.lt_of_lt_of_le (h.lt j d) q.size;have A:zG w2 (s.set k i y) X Z g (λj=>if j=k then(f k).set i y else f j):=by
  refine⟨l.out.ch q λj d e=>v (e▸d),l.z,λj d=>?_,l.ne⟩;obtain⟨B,C,F,⟨c',a4⟩,G,a6⟩:=l.inn j d;rw[s.KB (by omega:k<s.ls.length)];by_cases e:j=k
  ·subst e;simp only[if_true];refine⟨B,C,F,⟨c,by rw[List.length_set];exact V⟩,by rw[List.length_set];exact G,?_⟩;show(s.l j).set i y=_;rw[z,List.take_set];rfl
  ·simp only[if_neg e];exact⟨B,C,F,⟨c',a4.ch q λb hb u=>l.ne j k d n e (by rw[<-hb,<-u])⟩,G,a6⟩
 have OZ:(s.set k i y).Ok:=⟨by show(s.ls.set k _).length=_;rw[List.length_set];exact T,λj d=>by
  rw[s.KB (by omega:k<s.ls.length)];by_cases e:j=k
  ·subst e;rw[if_pos rfl,List.length_set];exact h.ok.n j d
  ·rw[if_neg e];exact h.ok.n j d⟩
 have YE:Rd w2 X s.A s.hs.length s.c s.hs:=by
  have:=l.out.ch q λj d e=>v (e▸d);exact⟨this.len,this.cap,t,λa b WK=>by
   obtain⟨p,e1,u,e3⟩:=this.cell a b WK;exact⟨p,e1,l.z _ u,e3⟩⟩
 exact M w2 ⟨OZ,t,YE,λj d=>A.rd t d (h.inn j d).cap,λ_=>⟨Z,g,_,A⟩⟩ W
end
end
structure LSt where
 D:DB
 R:DB
 pM:Nat
 pD:Nat
 pR:Nat
structure fM(w:World)(g:Nat)(s:LSt)(X:Nat->Prop):Prop where
 hd:Blk w g #[.pointer (some (Addr.mk s.pM 0 none)),.pointer (some (Addr.mk s.pD 0 none)),.pointer (some (Addr.mk s.pR 0 none))] 60
 dbs:∃(a:Nat)(L:gE)(RL:lY),L.g=s.pM/\DBP w ⟨s.pD,a,L⟩ s.D/\ic w s.pR RL s.R/\(∀k,gG.X ⟨s.pD,a,L⟩ k->¬RL.X k)/\¬gG.X ⟨s.pD,a,L⟩ g/\¬RL.X g/\∀k,(k=g\/gG.X ⟨s.pD,a,L⟩ k\/RL.X k)↔X k
theorem fM.ch {w w':World}{g:Nat}{s:LSt}{X Y:Nat->Prop}(h:fM w g s X)(q:Ch Y w w')(d:∀k,X k->¬Y k):fM w' g s X:=by
 obtain⟨a,L,j,l,n,o,p,r,t,b⟩:=h.dbs;exact⟨q.blk h.hd (d _ ((b _).1 (.inl rfl))),a,L,j,l,n.ch q λk i=>d k ((b k).1 (.inr (.inl i))),o.ch q λk i=>d k ((b k).1 (.inr (.inr i))),p,r,t,b⟩
theorem fM.lt {w:World}{g:Nat}{s:LSt}{X:Nat->Prop}(h:fM w g s X):∀k,X k->k<w.heap.size:=by
 intro k b;obtain⟨a,L,l,n,d,i,o,p,q,j⟩:=h.dbs;rcases(j k).2 b with rfl|b|b
 ·exact h.hd.lt
 ·exact d.lt k b
 ·exact i.lt k b
structure LSt.Ok(s:LSt):Prop where
 wf:Mem.Wf s.D.mem
 pd:Pd.Ok s.D.pd
 pos:1<=s.R.S
theorem fM.ok {w:World}{g:Nat}{s:LSt}{X:Nat->Prop}(h:fM w g s X):LSt.Ok s:=by
 obtain⟨a,L,i,j,b,d,_⟩:=h.dbs;exact⟨⟨b.mem.u32,b.mem.most⟩,b.pd.ok,d.pos⟩
namespace V
structure Els where
 el:Nat->Type
 en:(t:Nat)->Enc (el t)
 df:(t:Nat)->el t
 dec:(t:Nat)->List Value->Option (el t)
 iE:∀ {t:Nat}{cs:List Value}{x:el t},dec t cs=some x->(en t).enc x=cs
structure Kind(E:Els) where
 ty:Type
 pred:(Nat->Nat)->ty->(Nat->Prop)->World->Prop
 ch:∀ {r:Nat->Nat}{s:ty}{X Y:Nat->Prop}{w w':World},pred r s X w->Ch Y w w'->(∀k,X k->¬Y k)->pred r s X w'
 lt:∀ {r:Nat->Nat}{s:ty}{X:Nat->Prop}{w:World},pred r s X w->∀k,X k->k<w.heap.size
 li:(Nat->Nat)->ty->Nat->Option (Ls E.el):=λ_ _ _=>none
 nS:∀ {r:Nat->Nat}{s:ty}{X:Nat->Prop}{w:World}{i:Nat}{L:Ls E.el},pred r s X w->li r s i=some L-> @Rd (E.el L.t) (E.en L.t) w X L.A L.l.length L.c L.l:=by intro _ _ _ _ _ _ _ h;cases h
 ne:Nat->Bool:=λ_=>false
 xn:∀ {r:Nat->Nat}{s:ty}{X:Nat->Prop}{w:World}{j i:Nat}{L:Ls E.el}{x:E.el L.t},pred r s X w->ne j=true->li r s j=some L->L.l[i]? =some x->∃L':Ls E.el,li r s (i+1)=some L'/\(E.en L.t).enc x= [.slice L'.A L'.l.length L'.c]:=by intro _ _ _ _ _ _ _ _ _ h;cases h
 fs:(Nat->Nat)->ty->Nat->Nat->Value->Option (Prop×ty):=λ_ _ _ _ _=>none
 uJ:∀ {r:Nat->Nat}{s s':ty}{X:Nat->Prop}{w:World}{path off:Nat}{v:Value}{c:Prop},pred r s X w->fs r s path off v=some (c,s')->c->∀ {K:World->Prop},(∀w',pred r s' X w'->Ch X w w'->K w')->aF w ⟨r path,off,none⟩ [v] K:=by intro _ _ _ _ _ _ _ _ _ _ h;cases h
 st:(Nat->Nat)->ty->Nat->Nat->(tt:Nat)->E.el tt->Option (Prop×ty):=λ_ _ _ _ _ _=>none
 pj:∀ {r:Nat->Nat}{s s':ty}{X:Nat->Prop}{w:World}{j i:Nat}{L:Ls E.el}{x y:E.el L.t}{off:Nat}{vs:List Value}{c:Prop},pred r s X w->li r s j=some L->L.l[i]? =some x->off+vs.length<=(E.en L.t).size->(E.en L.t).enc y=((E.en L.t).enc x).take off++vs++((E.en L.t).enc x).drop (off+vs.length)->st r s j i L.t y=some (c,s')->c->∀ {K:World->Prop},(∀w',pred r s' X w'->Ch X w w'->K w')->aF w (((L.A.getD ⟨0,0,none⟩).add (i*(E.en L.t).size)).add off) vs K:=by intro _ _ _ _ _ _ _ _ _ _ _ _ _ _ _ _ _ _ h;cases h
 iv:Bool:=false
 inv:ty->Prop:=λ_=>True
 iu:∀ {r:Nat->Nat}{s:ty}{X:Nat->Prop}{w:World},pred r s X w->inv s:=by intros;trivial
 fo:(Nat->Nat)->ty->Nat->Nat->Option FV:=λ_ _ _ _=>none
 uL:∀ {r:Nat->Nat}{s:ty}{X:Nat->Prop}{w:World}{path off:Nat}{f:FV}{v:Value},pred r s X w->fo r s path off=some f->fvV r (li r s) f=some v->X (r path)/\w.cell? ⟨r path,off,none⟩=some v:=by intro _ _ _ _ _ _ _ _ _ h;cases h
 ix:Nat->Nat->Option Nat:=λ_ _=>none
 rU:∀ {r:Nat->Nat}{s:ty}{path off i:Nat}{L:Ls E.el},ix path off=some i->li r s i=some L->L.A=some ⟨r path,off,none⟩:=by intro _ _ _ _ _ _ h;cases h
 wl:(Nat->Nat)->ty->Nat->Nat->Nat->Option (Prop×List Value):=λ_ _ _ _ _=>none
 tF:∀ {r:Nat->Nat}{s:ty}{X:Nat->Prop}{w:World}{path off n:Nat}{c:Prop}{cs:List Value},pred r s X w->wl r s path off n=some (c,cs)->c->X (r path)/\∀j u,cs[j]? =some u->w.cell? ⟨r path,off+j,none⟩=some u:=by intro _ _ _ _ _ _ _ _ _ _ h;cases h
 ws:(Nat->Nat)->ty->Nat->Nat->List Value->Option (Prop×ty):=λ_ _ _ _ _=>none
 rB:∀ {r:Nat->Nat}{s s':ty}{X:Nat->Prop}{w:World}{path off:Nat}{vs:List Value}{c:Prop},pred r s X w->ws r s path off vs=some (c,s')->c->∀ {K:World->Prop},(∀w',pred r s' X w'->Ch X w w'->K w')->aF w ⟨r path,off,none⟩ vs K:=by intro _ _ _ _ _ _ _ _ _ _ h;cases h
 mp:ty->Option (List (Int×Value)):=λ_=>none
 AU:∀ {r:Nat->Nat}{s:ty}{X:Nat->Prop}{w:World}{l:List (Int×Value)},pred r s X w->mp s=some l->oT w (r 0) l:=by intro _ _ _ _ _ _ h;cases h
def Kind.none(E:Els):Kind E where
 ty:=Unit
 pred:=λ_ _ X _=>∀k,¬X k
 ch:=λh _ _=>h
 lt:=λh k b=>absurd b (h k)
def Uni.of(E:Els)(K:Nat->Kind E)(cd:TypeId->Option Nat)(mko:TypeId->List Value->Option ((t:Nat)×(K t).ty))(yE:∀ {T:TypeId}{cs:List Value}{q:(t:Nat)×(K t).ty}{w:World}{g:Nat},mko T cs=some q->Blk w g ⟨cs⟩ T->(K q.1).pred (λ_=>g) q.2 (λk=>k=g) w):Uni where
 ty:=λt=>(K t).ty
 pred:=λt=>(K t).pred
 ch:=λ{t}=>(K t).ch
 lt:=λ{t}=>(K t).lt
 el:=E.el
 en:=E.en
 df:=E.df
 dec:=E.dec
 iE:=E.iE
 cd:=cd
 li:=λt=>(K t).li
 nS:=λ{t}=>(K t).nS
 ne:=λt=>(K t).ne
 xn:=λ{t}=>(K t).xn
 fs:=λt=>(K t).fs
 uJ:=λ{t}=>(K t).uJ
 st:=λt=>(K t).st
 pj:=λ{t}=>(K t).pj
 iv:=λt=>(K t).iv
 inv:=λt=>(K t).inv
 iu:=λ{t}=>(K t).iu
 fo:=λt=>(K t).fo
 uL:=λ{t}=>(K t).uL
 mp:=λt=>(K t).mp
 AU:=λ{t}=>(K t).AU
 mko:=mko
 yE:=yE
 ix:=λt=>(K t).ix
 rU:=λ{t}=>(K t).rU
 wl:=λt=>(K t).wl
 tF:=λ{t}=>(K t).tF
 ws:=λt=>(K t).ws
 rB:=λ{t}=>(K t).rB
section
section
variable {U:Uni}{P:Program}{tbl:Tb U}{may:List Nat}{k0:Nat}
def Ext(θ b:Th):Prop:=∀j i,dY θ j=some i->dY b j=some i
theorem Ext.refl(θ:Th):Ext θ θ:=λ_ _ h=>h
theorem Ext.trans {a b c:Th}(h:Ext a b)(k:Ext b c):Ext a c:=λj i d=>k j i (h j i d)
theorem jA {j id:Nat}{θ:Th}{F:Th->Prop}(h:n7 j id θ F):∃b,F b/\Ext θ b/\dY b j=some id:=by
 unfold n7 at h;split at h
 ·rename_i k;refine⟨_,h,λl i d=>?_,?_⟩
  ·unfold dY;split
   ·rename_i he;rw[<-Nat.eq_of_beq_eq_true he,k]at d;cases d
   ·exact d
  ·simp[dY]
 ·rename_i i hi;split at h
  ·rename_i he;exact⟨θ,h,Ext.refl θ,by rw[hi,Nat.eq_of_beq_eq_true he]⟩
  ·exact h.elim
theorem mY {j i:Nat}:∀ {θ:Th},dY θ j=some i->(j,i)∈θ
 | [],h=>by cases h
 | (a,b)::r,h=>by
  unfold dY at h;split at h
  ·rename_i he;injection h with h
   rw[<-h,Nat.eq_of_beq_eq_true he];exact List.mem_cons_self ..
  ·exact List.mem_cons_of_mem _ (mY h)
theorem KT {θ:Th}(p:qD (aV (·.2) θ)=true){a b i:Nat}(q:dY θ a=some i)(t:dY θ b=some i):a=b:=by
 have j:=mY q;have d:=mY t;have n:=oq p;rw[iW]at n;have key:∀(l:Th),(l.map (·.2)).Nodup->(a,i)∈l->(b,i)∈l->a=b:=by
  intro l
  induction l with
  |nil=>intro _ h;cases h
  | cons x r u=>
   intro hd j d;rw[List.map_cons,List.nodup_cons]at hd;rcases List.mem_cons.1 j with o|j
   ·rcases List.mem_cons.1 d with k|d
    ·rw[<-o]at k;injection k with k;exact k.symm
    ·exact absurd (List.mem_map.2 ⟨(b,i),d,by rw[<-o]⟩) hd.1
   ·rcases List.mem_cons.1 d with k|d
    ·exact absurd (List.mem_map.2 ⟨(a,i),j,by rw[<-k]⟩) hd.1
    ·exact u hd.2 j d
 exact key θ n j d
theorem PK.yA {f:Nat->Option Nat}{p q:PK}(h:p.ren f=some q):f p.id=some q.id:=by
 cases p<;>simp only[PK.ren,Option.map_eq_some_iff]at h<;>obtain⟨i,hi,rfl⟩:=h<;>exact hi
theorem PK.Ha {f g:Nat->Option Nat}(h:∀j i,f j=some i->g j=some i){p q:PK}(b:p.ren f=some q):p.ren g=some q:=by
 cases p<;>simp only[PK.ren,Option.map_eq_some_iff]at b ⊢ <;>obtain⟨i,hi,rfl⟩:=b<;>exact⟨i,h _ _ hi,rfl⟩
def Rel(r r':Res U):Prop:=r=r'\/∃(t:Nat)(own:Bool)(T b:TypeId)(A:Option Addr)(c:Nat)(l:List (U.el t)),r=.lst t false T A c l/\r'=.lst t own b A c l
theorem Rel.den {r r':Res U}(h:Rel r r'){f:Nat->Option Nat}{p q:PK}(b:p.ren f=some q):cQ U p (some r)=cQ U q (some r'):=by
 rcases h with rfl|⟨t,own,T,d,A,c,l,rfl,rfl⟩
 ·cases p<;>simp only[PK.ren,Option.map_eq_some_iff]at b<;>obtain⟨i,hi,rfl⟩:=b<;>cases r<;>rfl
 ·cases p<;>simp only[PK.ren,Option.map_eq_some_iff]at b<;>obtain⟨i,hi,rfl⟩:=b<;>rfl
def Emb(f:Nat->Option Nat)(L G:List (Res U)):Prop:=∀j r,nth L j=some r->∃i r',f j=some i/\nth G i=some r'/\Rel r r'
theorem Emb.dn {f:Nat->Option Nat}{L G:List (Res U)}(h:Emb f L G){p q:PK}(j:p.ren f=some q){v:Value}(hd:den U L p=some v):den U G q=some v:=by
 unfold V.den at hd ⊢;cases d:nth L p.id with
 |none=>rw[d]at hd;cases p<;>simp[cQ]at hd
 | some r=>
  rw[d]at hd;obtain⟨i,r',b,k,l⟩:=h _ _ d;rw[PK.yA j]at b;injection b with b
  subst b;rw[k,<-l.den j];exact hd
theorem fu {f:Nat->Option Nat}{l:List (Option PK)}{j:Nat}{q:PK}(h:nth (aV (uq f) l) j=some (some q)):∃p,nth l j=some (some p)/\p.ren f=some q:=by
 rw[cj]at h;cases b:nth l j with
 |none=>rw[b]at h;cases h
 | some o=>
  rw[b]at h;injection h with h
  cases o with
  |none=>cases h
  |some p=>exact⟨p,rfl,h⟩
theorem Emb.kn {f:Nat->Option Nat}{L G:List (Res U)}(h:Emb f L G){k k':Kn}(d:k.ren f=some k'){v:Value}(r:jW L v k):jW G v k':=by
 cases k with
 |pan=>exact r.elim
 | p p=>
  simp only[Kn.ren,Option.map_eq_some_iff]at d;obtain⟨q,hq,rfl⟩:=d;exact h.dn hq r
 | w p n=>
  simp only[Kn.ren,Option.map_eq_some_iff]at d;obtain⟨q,hq,rfl⟩:=d;obtain⟨a,c,x,y⟩:=r;exact⟨a,c,h.dn hq x,y⟩
 | t l=>
  simp only[Kn.ren,Option.some.injEq]at d;subst d;obtain⟨vs,e,z⟩:=r;refine⟨vs,e,λj q i=>?_⟩;obtain⟨p,o,hq⟩:=fu i;obtain⟨u,hu,hd⟩:=z j p o;exact⟨u,hu,h.dn hq hd⟩
 | ag l=>
  simp only[Kn.ren,Option.some.injEq]at d;subst d;obtain⟨vs,e,z⟩:=r;refine⟨vs,e,λj q i=>?_⟩;obtain⟨p,o,hq⟩:=fu i;obtain⟨u,hu,hd⟩:=z j p o;exact⟨u,hu,h.dn hq hd⟩
 | f a b=>
  simp only[Kn.ren,Option.some.injEq]at d;subst d;obtain⟨fn,fs,cs,e,A,x,y⟩:=r;refine⟨fn,fs,cs,e,by simpa using A,λj q i=>?_,λj q i=>?_⟩
  ·obtain⟨p,o,hq⟩:=fu i;obtain⟨u,hu,hd⟩:=x j p o;exact⟨u,hu,h.dn hq hd⟩
  ·obtain⟨p,o,hq⟩:=fu i;obtain⟨u,hu,hd⟩:=y j p o;exact⟨u,hu,h.dn hq hd⟩
theorem Emb.knO {f:Nat->Option Nat}{L G:List (Res U)}(h:Emb f L G){k:Option Kn}{v:Value}(b:KnO L v k):KnO G v (EA f k):=by
 cases k with
 |none=>exact trivial
 | some k=>
  show KnO G v (k.ren f);cases d:k.ren f with
  |none=>exact trivial
  |some k'=>exact h.kn d b
theorem kI {f:Nat->Option Nat}{key:Key}{k':Kn}:∀ {l:List (Key×Kn)},(key,k')∈lW f l->∃i b o k,((key=.c b o/\(Key.c i o,k)∈l)\/(key=.l b o/\(Key.l i o,k)∈l))/\f i=some b/\k.ren f=some k'
 | [],h=>by cases h
 | (.s _,_)::r,h=>by
  obtain⟨i,b,o,k,n,p⟩:=kI (l:=r) h;exact⟨i,b,o,k,n.imp (λh=>⟨h.1,List.mem_cons_of_mem _ h.2⟩) (λh=>⟨h.1,List.mem_cons_of_mem _ h.2⟩),p⟩
 | (.c i o,k)::r,h=>by
  have tail:(key,k')∈lW f r->∃i1 b d j,((key=.c b d/\(Key.c i1 d,j)∈(Key.c i o,k)::r)\/(key=.l b d/\(Key.l i1 d,j)∈(Key.c i o,k)::r))/\f i1=some b/\j.ren f=some k':=λh=>by
   obtain⟨i,b,o,k,n,p⟩:=kI (l:=r) h;exact⟨i,b,o,k,n.imp (λh=>⟨h.1,List.mem_cons_of_mem _ h.2⟩) (λh=>⟨h.1,List.mem_cons_of_mem _ h.2⟩),p⟩
  simp only[lW]at h;split at h
  ·rename_i b v hi q;rcases List.mem_cons.1 h with e|h
   ·injection e with t u
    subst t;subst u;exact⟨i,b,o,k,.inl ⟨rfl,List.mem_cons_self ..⟩,hi,q⟩
   ·exact tail h
  ·exact tail h
 | (.l i o,k)::r,h=>by
  have tail:(key,k')∈lW f r->∃i1 b d j,((key=.c b d/\(Key.c i1 d,j)∈(Key.l i o,k)::r)\/(key=.l b d/\(Key.l i1 d,j)∈(Key.l i o,k)::r))/\f i1=some b/\j.ren f=some k':=λh=>by
   obtain⟨i,b,o,k,n,p⟩:=kI (l:=r) h;exact⟨i,b,o,k,n.imp (λh=>⟨h.1,List.mem_cons_of_mem _ h.2⟩) (λh=>⟨h.1,List.mem_cons_of_mem _ h.2⟩),p⟩
  simp only[lW]at h;split at h
  ·rename_i b v hi q;rcases List.mem_cons.1 h with e|h
   ·injection e with t u
    subst t;subst u;exact⟨i,b,o,k,.inr ⟨rfl,List.mem_cons_self ..⟩,hi,q⟩
   ·exact tail h
  ·exact tail h
def AvD(θ:Th)(v:Value)(k:Option PK):AV->Prop
 |.v x=>x=v
 |.k p=>∃q,k=some q/\p.ren (dY θ)=some q
theorem AvD.mono {θ b:Th}(h:Ext θ b){v:Value}{k:Option PK}{a:AV}(d:AvD θ v k a):AvD b v k a:=by
 cases a with
 |v x=>exact d
 |k p=>obtain⟨q,i,j⟩:=d;exact⟨q,i,PK.Ha h j⟩
def D9(θ:Th)(vs:List Value)(kc:Nat->Option PK)(i:Nat)(b:List AV):Prop:=b.length=vs.length/\∀j a v,nth b j=some a->nth vs j=some v->AvD θ v (kc (i+j)) a
theorem D9.mono {θ b:Th}(h:Ext θ b){vs:List Value}{kc:Nat->Option PK}{i:Nat}{d:List AV}(k:D9 θ vs kc i d):D9 b vs kc i d:=⟨k.1,λj a v l n=>(k.2 j a v l n).mono h⟩
theorem ES {T:Type}{c:CP}{J:c.T T}{v:Value}{k:Option PK}{θ:Th}{F:T->Th->Prop}(h:apC c J v k θ F):∃o d a,F o d/\Ext θ d/\(∀G:T->AV->Prop,alC c J G->G o a)/\AvD d v k a:=by
 cases c with
 | int q=>
  cases v<;>simp only[apC]at h<;>skip
  rename_i k' x;split at h
  ·rename_i he;obtain rfl:=pS he;exact⟨_,θ,.v (.int q x),h,Ext.refl θ,λG b=>b x,rfl⟩
  ·exact h.elim
 | bool=>
  cases v<;>simp only[apC]at h<;>skip
  exact⟨_,θ,_,h,Ext.refl θ,λG b=>b _,rfl⟩
 | str=>
  cases v<;>simp only[apC]at h<;>skip
  exact⟨_,θ,_,h,Ext.refl θ,λG b=>b _,rfl⟩
 |any=>exact⟨_,θ,.v v,h,Ext.refl θ,λG b=>b _,rfl⟩
 | hdr=>
  cases v<;>simp only[apC]at h<;>skip
  exact⟨_,θ,_,h,Ext.refl θ,λG b=>b _ _ _,rfl⟩
 | nsl=>
  simp only[apC]at h;split at h
  ·exact⟨_,θ,_,h,Ext.refl θ,λG b=>b,rfl⟩
  ·exact h.elim
 | nil=>
  simp only[apC]at h;split at h
  ·exact⟨_,θ,_,h,Ext.refl θ,λG b=>b,rfl⟩
  ·exact h.elim
 | fn f=>
  simp only[apC]at h;split at h
  ·split at h
   ·rename_i he;obtain rfl:=Nat.eq_of_beq_eq_true he;exact⟨_,θ,_,h,Ext.refl θ,λG b=>b,rfl⟩
   ·exact h.elim
  ·exact h.elim
 | ptr j=>
  simp only[apC]at h;split at h
  ·rename_i id;obtain⟨d,i,l,n⟩:=jA h;exact⟨_,d,_,i,l,λG b=>b,_,rfl,by simp[PK.ren,n]⟩
  ·exact h.elim
 | obj j path=>
  simp only[apC]at h;split at h
  ·rename_i id p;split at h
   ·rename_i he;obtain⟨d,i,l,n⟩:=jA h;exact⟨_,d,_,i,l,λG b=>b,_,rfl,by simp[PK.ren,n,Nat.eq_of_beq_eq_true he]⟩
   ·exact h.elim
  ·exact h.elim
 | sl j=>
  simp only[apC]at h;split at h
  ·rename_i id;obtain⟨d,i,l,n⟩:=jA h;exact⟨_,d,_,i,l,λG b=>b,_,rfl,by simp[PK.ren,n]⟩
  ·exact h.elim
theorem uZ {T:Type}:∀ {l:List CP}{J:D8 l T}{vs:List Value}{kc:Nat->Option PK}{i:Nat}{θ:Th}{F:T->Th->Prop},J6 l J vs kc i θ F->∃d n k,F d n/\Ext θ n/\(∀G:T->List AV->Prop,DA l J G->G d k)/\D9 n vs kc i k
 | [],J,[],kc,i,θ,F,h=>⟨J,θ,[],h,Ext.refl θ,λG o=>o,rfl,λj a v t=>by simp[nth]at t⟩
 | [],_,_::_,_,_,_,_,h=>h.elim
 |c::l,J,[],_,_,_,_,h=>h.elim
 | c::l,J,v::vs,kc,i,θ,F,h=>by
  obtain⟨I,M,a,x,y,z,d1⟩:=ES h;obtain⟨A,B,k,C,r,H,d2⟩:=uZ x;refine⟨A,B,a::k,C,y.trans r,λG o=>H (λp vs=>G p (a::vs)) (z (λd a'=>DA l d λp vs=>G p (a'::vs)) o),?_,λj b u q hu=>?_⟩
  ·simp[d2.1]
  ·cases j with
   | zero=>
    simp only[nth,Option.some.injEq]at q hu;subst q;subst hu;exact d1.mono r
   | succ j=>
    have:=d2.2 j b u q hu
    rwa[show i+1+j=i+(j+1)by omega]at this
def AaD(θ:Th)(v:Value)(k:Option Kn):AA->Prop
 |.one a=>AvD θ v (ki k) a
 |.agg b=>∃cs,v=.agg cs/\D9 θ cs.toList (LN k) 0 b
theorem AaD.mono {θ b:Th}(h:Ext θ b){v:Value}{k:Option Kn}{a:AA}(d:AaD θ v k a):AaD b v k a:=by
 cases a with
 |one a=>exact AvD.mono h d
 |agg j=>obtain⟨cs,e,i⟩:=d;exact⟨cs,e,i.mono h⟩
theorem BM {T:Type}:∀ {l:List AP}{J:Eb U l T}{vs:List Value}{p:List (Option Kn)}{θ:Th}{F:T->Th->Prop},BN l J vs p θ F->∃d n q,F d n/\Ext θ n/\(∀G:T->List AA->Prop,zh l J G->G d q)/\q.length=vs.length/\∀j a v,nth q j=some a->nth vs j=some v->∃k,nth p j=some k/\AaD n v k a
 | [],J,[],p,θ,F,h=>⟨J,θ,[],h,Ext.refl θ,λG i=>i,rfl,λj a v o=>by simp[nth]at o⟩
 | [],_,_::_,_,_,_,h=>by simp[BN]at h
 |_::_,_,[],_,_,_,h=>by simp[BN]at h
 |_::_,_,_::_,[],_,_,h=>by simp[BN]at h
 | a::l,J,v::vs,k::p,θ,F,h=>by
  simp only[BN]at h;have one:∃d n x,BN l d vs p n F/\Ext θ n/\(∀G:Eb U l T->AA->Prop,alA a J G->G d x)/\AaD n v k x:=by
   cases a with
   | one c=>
    obtain⟨A,B,x,r,t,z,d1⟩:=ES (show apC c J v (ki k) θ _ from h);exact⟨A,B,.one x,r,t,λG i=>z (λd y=>G d (.one y)) i,d1⟩
   | agg cs=>
    simp only[apA]at h;split at h
    ·rename_i M;obtain⟨A,B,x,r,t,z,d1⟩:=uZ h;exact⟨A,B,.agg x,r,t,λG i=>z (λd y=>G d (.agg y)) i,M,rfl,d1⟩
    ·exact h.elim
   | enc tt=>
    simp only[apA]at h;split at h
    ·rename_i cs;split at h
     ·rename_i x N;have e:=U.iE N;refine⟨_,θ,.agg (aV .v ((U.en tt).enc x)),h,Ext.refl θ,λG i=>i x,cs,rfl,?_,λj a v o O=>?_⟩
      ·rw[e,iW,List.length_map]
      ·rw[e,cj,O]at o;injection o with o
       subst o;rfl
     ·exact h.elim
    ·exact h.elim
  obtain⟨A,B,x,r,t,z,d1⟩:=one;obtain⟨Q,R,q,S,I,V,l2,d2⟩:=BM r;refine⟨Q,R,x::q,S,t.trans I,λG i=>V (λC vs=>G C (x::vs)) (z (λd a'=>zh l d λC vs=>G C (a'::vs)) i),by simp[l2],λj b u H hu=>?_⟩;cases j with
  | zero=>
   simp only[nth,Option.some.injEq]at H hu;subst H;subst hu;exact⟨k,rfl,d1.mono I⟩
  |succ j=>exact d2 j b u H hu
def LkD(θ:Th)(b:Nat->Option PK)(lk:List (Nat×Nat×Nat)):Prop:=∀p j q,(p,j,q)∈lk->∃i,b p=some (.obj i q 0)/\dY θ j=some i
def PrD(θ:Th)(kc h:Nat->Option PK):PR U->Res U->Prop
 |.ob t r s lk,x=>x=.ob t r s/\LkD θ h lk
 |.blk g i T,x=>∃cs,x=.blk g cs T/\D9 θ cs kc 0 i
 |.lst t own T A c l,x=>∃b d,x=.lst t b d A c l/\(own=true->b=true/\d=T)
theorem PrD.mono {θ d:Th}(h:Ext θ d){kc k:Nat->Option PK}{p:PR U}{x:Res U}(b:PrD θ kc k p x):PrD d kc k p x:=by
 cases p with
 |ob t r s lk=>exact⟨b.1,λp j q hm=>by obtain⟨i,n,o⟩:=b.2 p j q hm;exact⟨i,n,h _ _ o⟩⟩
 |blk g v T=>obtain⟨cs,e,u⟩:=b;exact⟨cs,e,u.mono h⟩
 |lst t own T A c l=>exact b
def K5:RP->Bool
 |.lst _ own _=>!own
 |_=>false
def Lc:PR U->Bool
 |.lst _ own _ _ _ _=>!own
 |_=>false
theorem BL:∀ {l:List (Nat×Nat×Nat)}{b:Nat->Option PK}{θ:Th}{F:Th->Prop},J5 l b θ F->∃d,F d/\Ext θ d/\LkD d b l
 | [],b,θ,F,h=>⟨θ,h,Ext.refl θ,λ_ _ _ hm=>by cases hm⟩
 | (p,j,q)::l,b,θ,F,h=>by
  simp only[J5]at h;split at h
  ·rename_i i q' o;split at h
   ·rename_i hq;have hq:=Nat.eq_of_beq_eq_true hq;subst hq;obtain⟨B,r,t,u⟩:=jA h;obtain⟨v,x,n,y⟩:=BL r;refine⟨v,x,t.trans n,λC G H hm=>?_⟩;rcases List.mem_cons.1 hm with e|hm
    ·injection e with z k
     injection k with k A
     subst z;subst k;subst A;exact⟨i,o,n _ _ u⟩
    ·exact y _ _ _ hm
   ·exact h.elim
  ·exact h.elim
theorem J4 {T:Type}{p:RP}{J:p.T U T}{r:Option (Res U)}{kc B:Nat->Option PK}{θ:Th}{F:T->Th->Prop}(h:apR p J r kc B θ F):∃i k x y,r=some x/\F i k/\Ext θ k/\(∀G:T->PR U->Prop,alR p J G->G i y)/\PrD k kc B y x/\Lc y=K5 p:=by
 cases p with
 | ob t lk=>
  cases r with
  |none=>exact h.elim
  | some x=>
   cases x<;>simp only[apR]at h<;>skip
   rename_i n r s;split at h
   ·rename_i b;subst b;obtain⟨o,q,u,v⟩:=BL h;exact⟨_,o,_,.ob n r s lk,rfl,q,u,λG d=>d r s,⟨rfl,v⟩,rfl⟩
   ·exact h.elim
 | blk l j=>
  cases r with
  |none=>exact h.elim
  | some x=>
   cases x<;>simp only[apR]at h<;>skip
   rename_i g cs C;split at h
   ·rename_i b;obtain⟨H,o,I,q,u,v,d1⟩:=uZ h;exact⟨H,o,_,.blk g I j,rfl,q,u,λG d=>v (λi cs=>G i (.blk g cs j)) (d g),⟨cs,by rw[Nat.eq_of_beq_eq_true b],d1⟩,rfl⟩
   ·exact h.elim
 | lst t own j=>
  cases r with
  |none=>exact h.elim
  | some x=>
   cases x<;>simp only[apR]at h<;>skip
   rename_i n M C A c l;split at h
   ·rename_i z;split at h
    ·rename_i b;subst b;refine⟨_,θ,_,.lst n own j A c l,rfl,h,Ext.refl θ,λG d=>d A c l,⟨M,C,rfl,λN=>?_⟩,rfl⟩;subst N;simp only[Bool.not_true,Bool.false_or,Bool.and_eq_true]at z;exact⟨z.1,Nat.eq_of_beq_eq_true z.2⟩
    ·exact h.elim
   ·exact h.elim
theorem BK {T:Type}{rs:List (Res U)}{kn:List (Key×Kn)}:∀ {l:List RP}{J:Gl U l T}{b:Nat}{θ:Th}{F:T->Th->Prop},J0 rs kn l J b θ F->∃i k d,F i k/\Ext θ k/\(∀G:T->List (PR U)->Prop,zg l J G->G i d)/\d.length=l.length/\
 ∀j p,nth d j=some p->∃id x,dY k (b+j)=some id/\nth rs id=some x/\PrD k (λo=>ki (ef (.c id o) kn)) (λq=>ki (ef (.l id q) kn)) p x/\∃q,nth l j=some q/\Lc p=K5 q
 | [],J,b,θ,F,h=>⟨J,θ,[],h,Ext.refl θ,λG n=>n,rfl,λj p v=>by simp[nth]at v⟩
 | p::l,J,b,θ,F,h=>by
  simp only[J0]at h;split at h
  ·rename_i id z;obtain⟨J1,θ1,x,y,A,B,u,C,d1,H⟩:=J4 h;obtain⟨I,M,d,N,r,O,l2,d2⟩:=BK B;refine⟨I,M,y::d,N,u.trans r,λG n=>O (λt xs=>G t (y::xs)) (C (λi Q=>zg l i λt xs=>G t (Q::xs)) n),by simp[l2],λj q hq=>?_⟩;cases j with
   | zero=>
    simp only[nth,Option.some.injEq]at hq;subst hq;exact⟨id,x,r _ _ (u _ _ z),A,d1.mono r,p,rfl,H⟩
   | succ j=>
    obtain⟨R,S,V,W,h5,h6⟩:=d2 j q hq;exact⟨R,S,by rw[show b+(j+1)=b+1+j by omega];exact V,W,h5,h6⟩
  ·exact h.elim
theorem xO {rs:List (Res U)}:∀ {l:List (Nat×Nat)}{θ:Th}{F:Th->Prop},ER rs l θ F->∃b,F b/\Ext θ b
 | [],θ,F,h=>⟨θ,h,Ext.refl θ⟩
 | (j,t)::l,θ,F,h=>by
  simp only[ER]at h;split at h
  ·obtain⟨p,d,i,_⟩:=jA h;obtain⟨k,n,o⟩:=xO d;exact⟨k,n,i.trans o⟩
  ·exact h.elim
structure ft(w0:World)(k0:Nat)(X0:Nat->Nat->Prop)(may:List Nat)(fr:Fr)(st:St U)(X:Nat->Nat->Prop)(w:World)(st':St U)(X':Nat->Nat->Prop)(w':World)(M:List Nat):Prop where
 inv:Inv w0 k0 X0 may st'.rs X' w'
 kn:aK st'.rs fr st'.kn
 md:st'.md=M++st.md
 mlt:∀i,i∈M->i<st.rs.length
 can:∀i,i∈M->i∈may\/k0<=i
 len:st.rs.length<=st'.rs.length
 same:∀i,i<st.rs.length->i ∉ M->nth st'.rs i=nth st.rs i/\X' i=X i
 grow:∀i,i∈M->∀k,X' i k->X i k\/w.heap.size<=k
 new:∀i,st.rs.length<=i->i<st'.rs.length->∀k,X' i k->w.heap.size<=k
 ch:Ch (λk=>∃j,j∈M/\X j k) w w'
 root:∀i a,nth st.rs i=some a->∃b,nth st'.rs i=some b/\eC a b
theorem ja {i:Nat}(h:l4 may k0 i=true):i∈may\/k0<=i:=by
 unfold l4 at h;split at h
 ·rename_i b;exact .inr (Nat.le_of_ble_eq_true b)
 ·exact .inl (gC.1 h)
theorem hH:∀ {M:List Nat}{us:List (Upd U)}{rs rs':List (Res U)},cv rs M us=some rs'->rs'.length=rs.length/\(∀i,i ∉ M->nth rs' i=nth rs i)/\∀i,i∈M->i<rs.length/\∀a,nth rs i=some a->∃b,nth rs' i=some b/\eC a b
 | [],[],rs,rs',h=>by
  simp only[cv,Option.some.injEq]at h;subst h;exact⟨rfl,λ_ _=>rfl,λi hi=>by cases hi⟩
 | [],_::_,_,_,h=>by simp[cv]at h
 |_::_,[],_,_,h=>by simp[cv]at h
 | i::M,u::us,rs,rs',h=>by
  simp only[cv]at h;split at h
  ·rename_i r o;split at h
   ·rename_i r' v;obtain⟨p,q,l⟩:=hH h;have hi:=bG o;simp only[tW]at p l;have e:∀j,nth (cV rs i r') j=if j=i then some r' else nth rs j:=λj=>by
     rw[bY];by_cases d:j=i
     ·rw[if_pos ⟨d,hi⟩,if_pos d]
     ·rw[if_neg (λx=>d x.1),if_neg d]
    refine⟨p,λj d=>?_,λj d=>?_⟩
    ·rw[List.mem_cons,not_or]at d;rw[q j d.2,e,if_neg d.1]
    ·refine⟨?_,λa k=>?_⟩
     ·rcases List.mem_cons.1 d with rfl|d
      ·exact hi
      ·exact(l j d).1
     ·by_cases n:j=i
      ·subst n;rw[o]at k;injection k with k
       subst k;have t:=BI v;by_cases hm:j∈M
       ·obtain⟨b,y,z⟩:=(l j hm).2 r' (by rw[e,if_pos rfl]);exact⟨b,y,t.trans z⟩
       ·exact⟨r',by rw[q j hm,e,if_pos rfl],t⟩
      ·have hm:j∈M:=(List.mem_cons.1 d).resolve_left n;exact(l j hm).2 a (by rw[e,if_neg n];exact k)
   ·cases h
  ·cases h
theorem sq {f:Nat->Option Nat}(B:∀a b i,f a=some i->f b=some i->a=b):∀ {ms M:List Nat}{us:List (Upd U)}{L v G y:List (Res U)},jJ f ms=some M->cv L ms us=some v->cv G M us=some y->Emb f L G->(∀j,j∈ms->∀r,nth L j=some r->∃i,f j=some i/\nth G i=some r)->
 Emb f v y/\∀j,j∈ms->∀r,nth v j=some r->∃i,f j=some i/\nth y i=some r
 | [],M,us,L,v,G,y,p,n,q,I,J=>by
  simp only[jJ,Option.some.injEq]at p;subst p;cases us with
  |cons u us=>simp[cv]at n
  | nil=>
   simp only[cv,Option.some.injEq]at n q;subst n;subst q;exact⟨I,λj k=>by cases k⟩
 | m::ms,M,us,L,v,G,y,p,n,q,I,J=>by
  simp only[jJ]at p;split at p
  ·rename_i i t hi O;injection p with p
   subst p;cases us with
   |nil=>simp[cv]at n
   | cons u us=>
    simp only[cv]at n q;split at n
    ·rename_i r Q;split at n
     ·rename_i r1 V;obtain⟨i',C,R⟩:=J m (List.mem_cons_self ..) r Q;rw[hi]at C;injection C with C
      subst C;rw[R]at q;simp only[V]at q;have S:=bG Q;have W:=bG R;have key:∀j x,nth (cV L m r1) j=some x->(j=m/\x=r1)\/(j≠m/\nth L j=some x):=by
       intro j x d;rw[bY]at d;by_cases k:j=m
       ·rw[if_pos ⟨k,S⟩]at d;injection d with d
        exact .inl ⟨k,d.symm⟩
       ·rw[if_neg (λo=>k o.1)]at d;exact .inr ⟨k,d⟩
      have z:∀j,nth (cV G i r1) j=if j=i then some r1 else nth G j:=λj=>by
       rw[bY];by_cases k:j=i
       ·rw[if_pos ⟨k,W⟩,if_pos k]
       ·rw[if_neg (λo=>k o.1),if_neg k]
      have T:=sq B O n q (λj x d=>by
       rcases key j x d with⟨rfl,rfl⟩|⟨k,d⟩
       ·exact⟨i,_,hi,by rw[z,if_pos rfl],.inl rfl⟩
       ·obtain⟨a,b,A,N,h5⟩:=I j x d;exact⟨a,b,A,by rw[z,if_neg (by rintro rfl;exact k (B _ _ _ A hi))];exact N,h5⟩) (λj k x d=>by
       rcases key j x d with⟨rfl,rfl⟩|⟨YI,d⟩
       ·exact⟨i,hi,by rw[z,if_pos rfl]⟩
       ·obtain⟨a,A,N⟩:=J j (List.mem_cons_of_mem _ k) x d;exact⟨a,A,by rw[z,if_neg (by rintro rfl;exact YI (B _ _ _ A hi))];exact N⟩)
      refine⟨T.1,λj k x d=>?_⟩;by_cases F:j∈ms
      ·exact T.2 j F x d
      ·have aa:j=m:=(List.mem_cons.1 k).resolve_right F;subst aa;have H:=(hH n).2.1 j F;rw[d,bY,if_pos ⟨rfl,S⟩]at H;injection H with H
       subst H;have ab:i ∉ t:=by
        intro o;have:∀ {l t:List Nat},jJ f l=some t->i∈t->∃a∈l,f a=some i:=by
         intro l
         induction l with
         |nil=>intro t h o;simp only[jJ,Option.some.injEq]at h;subst h;cases o
         | cons a l ih=>
          intro t h o;simp only[jJ]at h;split at h
          ·rename_i b bs hb ae;injection h with h
           subst h;rcases List.mem_cons.1 o with rfl|o
           ·exact⟨a,List.mem_cons_self ..,hb⟩
           ·obtain⟨c,hc,af⟩:=ih ae o;exact⟨c,List.mem_cons_of_mem _ hc,af⟩
          ·cases h
        obtain⟨a,ha,ah⟩:=this O o;exact F (B _ _ _ ah hi▸ha)
       refine⟨i,hi,?_⟩;rw[(hH q).2.1 i ab,z,if_pos rfl]
     ·cases n
    ·cases n
  ·cases p
theorem AY {α β:Type}{f:α->Option β}:∀ {l:List α}{r:List β},jJ f l=some r->∀b,b∈r->∃a,a∈l/\f a=some b
 | [],r,h,b,d=>by
  simp only[jJ,Option.some.injEq]at h;subst h;cases d
 | a::l,r,h,b,d=>by
  simp only[jJ]at h;split at h
  ·rename_i c cs i j;injection h with h
   subst h;rcases List.mem_cons.1 d with rfl|d
   ·exact⟨a,List.mem_cons_self ..,i⟩
   ·obtain⟨x,k,n⟩:=AY j b d;exact⟨x,List.mem_cons_of_mem _ k,n⟩
  ·cases h
theorem nq {α β:Type}{f:α->Option β}:∀ {l:List α}{r:List β},jJ f l=some r->∀a,a∈l->∃b,b∈r/\f a=some b
 | [],r,h,a,i=>by cases i
 | a::l,r,h,x,d=>by
  simp only[jJ]at h;split at h
  ·rename_i c cs j k;injection h with h
   subst h;rcases List.mem_cons.1 d with rfl|d
   ·exact⟨c,List.mem_cons_self ..,j⟩
   ·obtain⟨b,n,o⟩:=nq k x d;exact⟨b,List.mem_cons_of_mem _ n,o⟩
  ·cases h
theorem kL {b:List (PR U)}{j:Nat}:nth (fG b) j=(nth b j).map (PR.fin (aV PR.kB b)):=by
 unfold fG;exact cj _ _ _
@[simp] theorem L9(b:List (PR U)):(fG b).length=b.length:=by unfold fG;simp
theorem ts(b:List (PR U))(p:PK):den U (fG b) p=den U (aV PR.kB b) p:=by
 unfold den;rw[kL,cj];cases nth b p.id with
 |none=>rfl
 |some y=>cases y<;>cases p<;>rfl
theorem Ex {i:Nat}{key:Key}{k:Kn}:∀ {l:List (Nat×Nat×Nat)},(key,k)∈lkK i l->∃p j q,(p,j,q)∈l/\key=.l i p/\k=.p (.obj j q 0)
 | (p,j,q)::l,h=>by
  rcases List.mem_cons.1 h with e|h
  ·injection e with b d
   exact⟨p,j,q,List.mem_cons_self ..,b,d⟩
  ·obtain⟨n,o,q',r,t⟩:=Ex (l:=l) h;exact⟨n,o,q',List.mem_cons_of_mem _ r,t⟩
theorem kH {key:Key}{k:Kn}:∀ {l:List (PR U)}{i:Nat},(key,k)∈yL i l->∃j t r s lk p b q,nth l j=some (.ob t r s lk)/\(p,b,q)∈lk/\key=.l (i+j) p/\k=.p (.obj b q 0)
 | [],_,h=>by cases h
 | .ob t r s lk::l,i,h=>by
  rcases List.mem_append.1 h with h|h
  ·obtain⟨p,b,q,d,n,o⟩:=Ex h;exact⟨0,t,r,s,lk,p,b,q,rfl,d,n,o⟩
  ·obtain⟨j,t,r,s,lk,p,b,q,d,n,o,u⟩:=kH (l:=l) h;exact⟨j+1,t,r,s,lk,p,b,q,d,n,by rw[o];congr 1;omega,u⟩
 | .blk _ _ _::l,i,h=>by
  obtain⟨j,t,r,s,lk,p,b,q,d,n,o,u⟩:=kH (l:=l) h;exact⟨j+1,t,r,s,lk,p,b,q,d,n,by rw[o];congr 1;omega,u⟩
 | .lst _ _ _ _ _ _::l,i,h=>by
  obtain⟨j,t,r,s,lk,p,b,q,d,n,o,u⟩:=kH (l:=l) h;exact⟨j+1,t,r,s,lk,p,b,q,d,n,by rw[o];congr 1;omega,u⟩
theorem xE(f:Nat->Option Nat)(k:Option Kn)(v:Value):jl (EA f k) v=jl k v:=by
 cases k with
 |none=>rfl
 | some k=>
  cases k with
  |p p=>show jl ((p.ren f).map .p) v=_;cases p.ren f<;>rfl
  |w p n=>show jl ((p.ren f).map (.w · n)) v=_;cases p.ren f<;>rfl
  |_=>rfl
theorem iy {rs:List (Res U)}{v:Value}{k:Option Kn}(h:KnO rs v k):Ending.returned v=jl k v:=by
 cases k with
 |none=>rfl
 |some k=>cases k<;>first|rfl|exact h.elim
theorem xJ {f:Nat}{args:List Value}{ks:List (Option Kn)}{st:St U}{K:fH U}{w0:World}{X0 X:Nat->Nat->Prop}{w:World}{fr:Fr}(Qw:∀f c,tbl.c f=some c->LV U P f c)(hI:Inv w0 k0 X0 may st.rs X w)(J:aK st.rs fr st.kn)
 (a6:∀j v k,nth args j=some v->nth ks j=some k->KnO st.rs v k)(h:call2 U tbl may k0 f args ks st K):
 Calls P f ⟨args⟩ w λe w'=>∃v k st' X' M,e=jl k v/\K v k st'/\(k=some .pan\/KnO st'.rs v k)/\ft w0 k0 X0 may fr st X w st' X' w' M:=by
 unfold call2 at h;split at h
 ·exact h.elim
 rename_i c hc;have a7:=Qw f c hc;obtain⟨B1,θ1,az,h,e1,g1,la,da⟩:=BM h;obtain⟨θ2,h,R⟩:=xO h;obtain⟨B2,θ,I,h,e3,g3,lp,dp⟩:=BK h;split at h
 case h_2=>exact h.elim
 rename_i M H hM;simp only[Bool.and_eq_true]at H;obtain⟨R3,a8,Re⟩:=H;split at h
 case h_2=>exact h.elim
 rename_i Pv;have UI:∀a b i,dY θ a=some i->dY θ b=some i->a=b:=λa b i=>KT R3;have OP:∀j i,dY θ j=some i->j<I.length:=λj i n=>by
  have:=dK.1 a8 _ (mY n);rw[lp];simpa[Nat.blt_eq]using this
 have Sy:∀ {p q v},p.ren (dY θ)=some q->den U st.rs q=some v->den U (aV PR.kB I) p=some v:=by
  intro p q v z hd;obtain⟨y,N⟩:=dF (OP _ _ (PK.yA z));obtain⟨id,x,B,C,F,_⟩:=dp _ y N;rw[Nat.zero_add,PK.yA z]at B;injection B with B
  subst B;unfold den at hd ⊢;rw[C]at hd;rw[cj,N,<-hd];simp only[Option.map_some];cases y with
  | ob t r s lk=>
   cases F.1;cases p<;>simp only[PK.ren,Option.map_eq_some_iff]at z<;>obtain⟨i,hi,rfl⟩:=z<;>rfl
  | blk g ab T=>
   obtain⟨cs,rfl,_⟩:=F;cases p<;>simp only[PK.ren,Option.map_eq_some_iff]at z<;>obtain⟨i,hi,rfl⟩:=z<;>rfl
  | lst t own T A c' l=>
   obtain⟨aA,T',rfl,_⟩:=F;cases p<;>simp only[PK.ren,Option.map_eq_some_iff]at z<;>obtain⟨i,hi,rfl⟩:=z<;>rfl
 have aC:∀ {v:Value}{k:Option PK}{a:AV},AvD θ v k a->(∀p,k=some p->den U st.rs p=some v)->kP (aV PR.kB I) a=v:=by
  intro v k a G UH;cases a with
  |v x=>exact G
  | k p=>
   obtain⟨q,hq,d⟩:=G;show(den U _ p).getD undef=v;rw[Sy d (UH q hq)];rfl
 have a0:∀ {vs:List Value}{kc:Nat->Option PK}{az:List AV},D9 θ vs kc 0 az->(∀j v p,nth vs j=some v->kc j=some p->den U st.rs p=some v)->aV (kP (aV PR.kB I)) az=vs:=by
  intro vs kc az hd UH;apply List.ext_getElem?;intro j;rw[<-aY,<-aY,cj];cases G:nth az j with
  | none=>
   have:vs.length<=j:=by
    rw[<-hd.1];apply Nat.le_of_not_lt;intro S;obtain⟨x,hx⟩:=dF S;rw[hx]at G;cases G
   rw[ux this];rfl
  | some a=>
   obtain⟨v,O⟩:=dF (l:=vs) (i:=j) (by rw[<-hd.1];exact bG G);rw[O];have hd':=hd.2 j a v G O;rw[Nat.zero_add]at hd';exact congrArg some (aC hd' (λp z=>UH j v p O z))
 have Sz:aV (vd (aV PR.kB I)) az=args:=by
  apply List.ext_getElem?;intro j;rw[<-aY,<-aY,cj];cases G:nth az j with
  | none=>
   have:args.length<=j:=by
    rw[<-la];apply Nat.le_of_not_lt;intro S;obtain⟨x,hx⟩:=dF S;rw[hx]at G;cases G
   rw[ux this];rfl
  | some a=>
   obtain⟨v,O⟩:=dF (l:=args) (i:=j) (by rw[<-la];exact bG G);rw[O];obtain⟨k,PI,hd⟩:=da j a v G O;have hd:=hd.mono (R.trans e3);have P7:=a6 j v k O PI;cases a with
   | one a=>
    refine congrArg some (aC hd λp z=>?_);unfold ki at z;split at z
    ·injection z with z;subst z;exact P7
    ·cases z
   | agg ab=>
    obtain⟨cs,rfl,a9⟩:=hd;have h9:=a0 a9 (λj v p O z=>by
     unfold LN at z;split at z
     ·rename_i l _;obtain⟨ba,e,S⟩:=P7;injection e with e
      subst e;split at z
      ·rename_i o ho;subst z;obtain⟨u,hu,hd⟩:=S _ _ ho;rw[aY]at O;have:some v=some u:=by rw[<-O,<-hu];simp
       injection this with this
       rw[this];exact hd
      ·cases z
     ·cases z)
    show some (Value.agg ⟨aV _ ab⟩)=_;rw[h9]
 have VE:Emb (dY θ) (fG I) st.rs:=by
  intro j r d;rw[kL]at d;cases N:nth I j with
  |none=>rw[N]at d;cases d
  | some y=>
   rw[N]at d;injection d with d
   obtain⟨id,x,B,C,F,_⟩:=dp _ y N;rw[Nat.zero_add]at B;refine⟨id,x,B,C,?_⟩;cases y with
   |ob t r' s lk=>exact .inl (by rw[<-d,F.1];rfl)
   | blk g ab T=>
    obtain⟨cs,rfl,hd⟩:=F;left;rw[<-d];show Res.blk g (aV _ ab) T=_;rw[a0 hd λo v p O z=>?_];unfold ki at z;split at z
    ·rename_i q hq;injection z with z
     subst z;obtain⟨g',ba,T',u,e4,e5,e6⟩:=J.get hq;rw[C]at e4;injection e4 with e4
     injection e4 with _ e4 _
     subst e4;rw[O]at e5;injection e5 with e5
     subst e5;exact e6
    ·cases z
   | lst t own T A c' l=>
    obtain⟨aA,T',rfl,ho⟩:=F;cases own with
    |false=>exact .inr ⟨t,aA,T,T',A,c',l,d.symm,rfl⟩
    | true=>
     obtain⟨bb,UG⟩:=ho rfl;left;rw[<-d,bb,UG];rfl
 have bc:∀j,j∈c.cE->∀r,nth (fG I) j=some r->∃i,dY θ j=some i/\nth st.rs i=some r:=by
  intro j n r d;obtain⟨i,r',B,C,F⟩:=VE j r d;refine⟨i,B,?_⟩;rcases F with rfl|⟨t,own,T,T',A,c',l,rfl,rfl⟩
  ·exact C
  ·exfalso;have hm:=dK.1 Re j n;rw[kL]at d;cases N:nth I j with
   |none=>rw[N]at d;cases d
   | some y=>
    rw[N]at d;injection d with d
    obtain⟨_,_,_,_,_,q,hq,ae⟩:=dp j y N;rw[hq]at hm;have bd:Lc y=true:=by
     cases y<;>simp only[PR.fin,reduceCtorEq]at d
     injection d with e1 R
     subst R;rfl
    rw[bd]at ae;cases q<;>simp[K5]at ae
    subst ae;simp at hm
 have WL:∀j i,dY θ j=some i->X ((dY θ j).getD 0)=X i:=λj i n=>by simp[n]
 have bf:Sat (fG I) (λj=>X ((dY θ j).getD 0)) w:=by
  refine⟨λj r d=>?_,λi j hi n O4 k QG=>?_⟩
  ·obtain⟨i,r',B,C,F⟩:=VE j r d;rw[WL j i B];have:=hI.sat.res i r' C;rcases F with rfl|⟨t,own,T,T',A,c',l,rfl,rfl⟩
   ·exact this
   ·exact this.rd
  ·obtain⟨x,hx⟩:=dF hi;obtain⟨y,N⟩:=dF n;obtain⟨a,_,B,C,_⟩:=VE i x hx;obtain⟨b,_,F,h4,_⟩:=VE j y N;rw[WL i a B]at QG;rw[WL j b F];exact hI.sat.dis a b (bG C) (bG h4) (λe=>O4 (UI i j a B (e▸F))) k QG
 have bg:=g3 _ (g1 _ a7);have Zs:aK (fG I) fr0 (yL 0 I):=by
  intro key k hm;obtain⟨j,t,r,s,lk,p,j',q,e1,R,rfl,rfl⟩:=kH hm;rw[Nat.zero_add];obtain⟨id,x,B,C,F,_⟩:=dp _ _ e1;rw[Nat.zero_add]at B;obtain⟨F,h4⟩:=F;obtain⟨i,h5,h6⟩:=h4 _ _ _ R;refine⟨t,r,s,by rw[kL,e1];rfl,?_⟩;dsimp only at h5;unfold ki at h5;split at h5
  ·rename_i k' Ta;injection h5 with h5
   subst h5;obtain⟨t',r',s',g1,g2⟩:=J.get Ta;rw[C,F]at g1;injection g1 with g1
   cases g1;show den U (fG I) (.obj j' q 0)=_;rw[ts];exact Sy (p:=.obj j' q 0) (q:=.obj i q 0) (by simp[PK.ren,h6]) g2
  ·cases h5
 have Tc:=bg _ h _ w bf Zs;rw[Sz]at Tc;refine Tc.mono λe w' z=>?_;obtain⟨out,Q,Xl,rfl,hQ,OW,V⟩:=z;split at hQ
 case h_2=>exact hQ.elim
 rename_i rs' Yw;obtain⟨bh,bk⟩:=sq UI hM OW Yw VE bc;obtain⟨u1,u2,u3⟩:=hH Yw;obtain⟨v1,v2,v3⟩:=hH OW;have Zy:∀i,i∈M->i<st.rs.length:=λi hi=>(u3 i hi).1;have bx:c.res.length=I.length:=lp.symm;have Yy:Q.length=I.length:=by rw[v1];simp
 have UJ:Emb (Ed θ c.res.length st.rs.length) (Q++out.news) (rs'++out.news):=by
  intro j r d;rw[bZ]at d;unfold Ed;by_cases n:j<Q.length
  ·rw[if_pos n]at d;obtain⟨i,r',B,C,F⟩:=bh j r d;have H:Nat.blt j c.res.length=true:=by rw[Nat.blt_eq];omega
   rw[H];exact⟨i,r',B,by rw[bZ,if_pos (bG C)];exact C,F⟩
  ·rw[if_neg n]at d;have H:Nat.blt j c.res.length=false:=by
    cases H:Nat.blt j c.res.length
    ·rfl
    ·rw[Nat.blt_eq]at H;omega
   rw[H];refine⟨_,r,rfl,?_,.inl rfl⟩;rw[bZ,if_neg (by omega),u1];rw[show st.rs.length+(j - c.res.length) - st.rs.length=j - Q.length by omega];exact d
 let X':Nat->Nat->Prop:=λi=>open Classical in if h:∃j,j∈c.cE/\dY θ j=some i then Xl h.choose else if i<st.rs.length then X i else Xl (c.res.length+(i - st.rs.length))
 have af:∀j i,j∈c.cE->dY θ j=some i->X' i=Xl j:=by
  intro j i n hi;have hex:∃j,j∈c.cE/\dY θ j=some i:=⟨j,n,hi⟩;show(open Classical in if h:_ then _ else _)=_;rw[dif_pos hex,UI _ _ _ hex.choose_spec.2 hi]
 have ah:∀i,i∈M->∃j,j∈c.cE/\dY θ j=some i:=λi hi=>AY hM i hi;have a1:∀j i,j∈c.cE->dY θ j=some i->i∈M:=by
  intro j i n hi;obtain⟨b,H,Rf⟩:=nq hM j n;rw[hi]at Rf;injection Rf with Rf
  exact Rf▸H
 have bl:∀i,i<st.rs.length->i ∉ M->X' i=X i:=by
  intro i hi hm;show(open Classical in if h:_ then _ else _)=_;rw[dif_neg (fun⟨j,n,W⟩=>hm (a1 j i n W)),if_pos hi]
 have an:∀i,st.rs.length<=i->X' i=Xl (c.res.length+(i - st.rs.length)):=by
  intro i hi;show(open Classical in if h:_ then _ else _)=_;rw[dif_neg (fun⟨j,n,W⟩=>by have:=Zy i (a1 j i n W);omega),if_neg (by omega)]
 have Zu:∀j,j∈c.cE->j<I.length:=by
  intro j n;obtain⟨b,_,H⟩:=nq hM j n;exact OP j b H
 have bm:∀j r,j∈c.cE->nth Q j=some r->nth (Q++out.news) j=some r:=λj r n d=>by rw[bZ,if_pos (bG d)];exact d
 have bs:∀j i r,j∈c.cE->dY θ j=some i->nth rs' i=some r->nth Q j=some r:=by
  intro j i r n hi d;obtain⟨r0,a2⟩:=dF (l:=Q) (i:=j) (by rw[Yy];exact Zu j n);obtain⟨i',B,C⟩:=bk j n r0 a2;rw[hi]at B;injection B with B
  subst B;rw[d]at C;injection C with C
  rw[a2,C]
 have hq:Ch (λk=>∃j,j∈M/\X j k) w w':=V.ch.mono λk ⟨j,n,J⟩=>by
  obtain⟨b,H,Rf⟩:=nq hM j n;exact⟨b,H,by rw[WL j b Rf]at J;exact J⟩
 have a3:∀i,i∈M->∀k,X' i k->X i k\/w.heap.size<=k:=by
  intro i hi k J;obtain⟨j,n,W⟩:=ah i hi;rw[af j i n W]at J;have:=V.grow j n k J
  rwa[WL j i W]at this
 have bA:(rs'++out.news).length=st.rs.length+out.news.length:=by rw[List.length_append,u1]
 have a4:∀i,st.rs.length<=i->i<(rs'++out.news).length->∀k,X' i k->w.heap.size<=k:=by
  intro i B C k J;rw[an i B]at J;exact V.new _ (by simp;omega) (by simp;omega) k J
 have QL:∀i,i<st.rs.length->i ∉ M->nth (rs'++out.news) i=nth st.rs i/\X' i=X i:=λi hi hm=>⟨by rw[bZ,if_pos (by omega)];exact u2 i hm,bl i hi hm⟩;have hinv:Inv w0 k0 X0 may (rs'++out.news) X' w':=by
  refine hI.step M hq (λj n=>⟨Zy j n,ja (dK.1 Pv j n)⟩) (by omega) QL ?_ a3 a4 ?_
  ·intro i hi r d;by_cases aa:i∈M
   ·obtain⟨j,n,W⟩:=ah i aa;rw[bZ,if_pos (by have:=Zy i aa;omega)]at d;have B:=bs j i r n W d;rw[af j i n W];exact V.sat.res j r (bm j r n B)
   ·have hi:=hi.resolve_left aa;rw[bZ,if_neg (by omega)]at d;rw[an i hi];refine V.sat.res _ r ?_;rw[bZ,if_neg (by omega)];rw[show c.res.length+(i - st.rs.length) - Q.length=i - rs'.length by omega];exact d
  ·intro i j hi n O4 B C k J;have key:∀i,(i∈M\/st.rs.length<=i)->i<(rs'++out.news).length->∃a,X' i=Xl a/\a<(Q++out.news).length/\((i∈M/\a∈c.cE/\dY θ a=some i)\/(st.rs.length<=i/\a=c.res.length+(i - st.rs.length))):=by
    intro i hi bB;by_cases aa:i∈M
    ·obtain⟨a,G,a5⟩:=ah i aa;exact⟨a,af a i G a5,by have:=Zu a G;simp;omega,.inl ⟨aa,G,a5⟩⟩
    ·have hi:=hi.resolve_left aa;exact⟨_,an i hi,by simp;omega,.inr ⟨hi,rfl⟩⟩
   obtain⟨a,ea,bt,ca⟩:=key i hi B;obtain⟨b,eb,lb,cb⟩:=key j n C;rw[ea]at J;rw[eb];refine V.sat.dis a b bt lb (λWK=>?_) k J;subst WK;rcases ca with⟨m1,m2,m3⟩|⟨m1,m2⟩<;>rcases cb with⟨n1,n2,n3⟩|⟨n1,n2⟩
   ·rw[m3]at n3;injection n3 with n3;exact O4 n3
   ·have:=Zu a m2;omega
   ·have:=Zu a n2;omega
   ·omega
 have hQ:=np (λi r d=>⟨_,_,hinv.sat.res i r d⟩) hQ;refine⟨out.res,_,_,X',M,(xE ..).symm,hQ,V.kr.imp (λe=>by rw[e];rfl) UJ.knO,hinv,?_,rfl,Zy,λi hi=>ja (dK.1 Pv i hi),by simp only[];omega,QL,a3,a4,hq,λi a G=>by
  by_cases hi:i∈M
  ·obtain⟨b,H,d⟩:=(u3 i hi).2 a G;exact⟨b,by rw[bZ,if_pos (bG H)];exact H,d⟩
  ·exact⟨a,by rw[(QL i (bG G) hi).1];exact G,eC.refl a⟩⟩
 refine aK.app ?_ (aK.fT J (λi hi hm=>(QL i hi hm).1) λi hi a G=>?_)
 ·intro key k' Pf;obtain⟨i,i',o,k,⟨rfl,B⟩|⟨rfl,B⟩,C,F⟩:=kI Pf
  ·obtain⟨g,cs,T,v,e1,R,e3⟩:=V.kc _ k B (λ_ e=>by cases e);obtain⟨i2,r',f1,f2,f3⟩:=UJ i _ e1;rw[C]at f1;injection f1 with f1
   subst f1;rcases f3 with rfl|⟨_,_,_,_,_,_,_,S,_⟩
   ·exact⟨g,cs,T,v,f2,R,UJ.kn F e3⟩
   ·cases S
  ·obtain⟨t,r,s,e1,R⟩:=V.kc _ k B (λ_ e=>by cases e);obtain⟨i2,r',f1,f2,f3⟩:=UJ i _ e1;rw[C]at f1;injection f1 with f1
   subst f1;rcases f3 with rfl|⟨_,_,_,_,_,_,_,S,_⟩
   ·exact⟨t,r,s,f2,UJ.kn F R⟩
   ·cases S
 ·obtain⟨b,H,d⟩:=(u3 i hi).2 a G;exact⟨b,by rw[bZ,if_pos (bG H)];exact H,d⟩
end
end
end V
end Go.Proofs.YtbcmefndjggkpaaGreatDoor
