/- Chapter 17, BuildValid: behind every call of every script the state is valid. -/
import Derived.Test.YtinhphjfnedhgaaGreatDoorK4
import Derived.KernelRfl
set_option linter.unusedVariables false
set_option linter.unusedSimpArgs false
namespace Go.Proofs.YtinhphjfnedhgaaGreatDoor
open Go.Proofs.Tryz (prog)
open Go Go.RowKit V
open Go.IntKind (i64 u32 u64)
section
set_option maxRecDepth 100000
set_option maxHeartbeats 1000000
attribute [local irreducible] Vc2 VcD
attribute [local grind=] Pd.cN Pd.cy Pd.gm Pd.ia Pd.cj Pd.fx Pd.gl Pd.eU Pd.jO Pd.pP
attribute [local grind .] Pd.Ok.ent
attribute [local grind→] Pd.Ok.dV
def cn:Ctr Un:=⟨[.one (.int .i64)],[],[],[],fun p K=>K ⟨(.agg #[(.bool true),(.int .i64 p)]),none,[],[],[]⟩⟩
def Cz(p:Int)(Q:Ou Un→Prop):Prop:=
 ∀(gv:Nat),
 Q ⟨(.agg #[(.bool true),(.int .i64 p)]),none,[],[],[]⟩
theorem CA:Vc2 Un prog (aQ []) [] Tryz.f88 .leaf [] cn=(∀p,∀Q,(cn.body p Q)→Cz p Q):=by kernel_rfl
theorem gy:LV Un prog 88 cn:=verify Tryz.func88 aa (tb:= []) trivial (by kernel_rfl) (CA.mpr fun p Q h gv=>h)
def iz:Ctr Un:=⟨[.one (.obj 0 0),.one (.int .i64),.enc 8],[],[.ob 1 [(1,1,0)],.ob 0 []],[1],fun s f r E rm m K=>E.n=m.S∧W26.Ok f∧K ⟨(.tuple #[]),(some (.t [])),[.ob 0 (m.wrs s 11 (W26.ws f))],[],[]⟩⟩
def KH(s:Int)(f:W26)(r:Nat→Nat)(E:Pd)(rm:Nat→Nat)(m:Mem)(Q:Ou Un→Prop):Prop:=
 Pd.Ok E→
 Mem.Wf m→
 ∀(gv:Nat),
 ∀(s1:List U32),s1=(W26.n f)→
 (s1.length=26)∧
 ∃I:Nat→Int→Mem→Prop,(∃m1,I m1 0 m)∧∀(m1:Nat)(NU:Nat→Value)(x9:Int)(On:Mem),I m1 x9 On→
 Mem.Wf On→
 split (decide (x9<26)) (
  (0≤x9∧x9<(26:Int))∧
  ∃Oz:Int,(⟨W26.c (W26.mk s1)⟩:Array Value)[Int.toNat x9*1]? =some (.int .u32 Oz)∧
  (0≤Oz∧Oz<4294967296)∧
  ∀(m3:Mem),m3=(On.write true s (i64.wrap (11+x9)) Oz)→
  Mem.Wf m3→
  ∃m2,m2<m1∧I m2 (i64.wrap (x9+1)) m3) (
  Q ⟨(.tuple #[]),(some (.t [])),[.ob 0 On],[],[]⟩)
theorem KI:Vc2 Un prog (aQ [(14,aY),(88,cn),(42,iY)]) [] Tryz.f86 (.r' (.r' (.two (.node [] (some ⟨[(9,(.one (.int .i64)))],[],[6,7]++upN 9 13,[(1,(.ob 0))]⟩) [] [] .leaf .leaf) .leaf))) [] iz=(∀s (f:W26) r (E:Pd) rm (m:Mem),∀Q,(iz.body s f r E rm m Q)→KH s f r E rm m Q):=by kernel_rfl
theorem xy:LV Un prog 86 iz:=verify Tryz.func86 aa (tb:= [(14,aY),(88,cn),(42,iY)]) ⟨cU,gy,tJ,trivial⟩ (by kernel_rfl) (KI.mpr fun s f r E rm m Q h=>by
 obtain⟨NL,NQ,h⟩:=h
 exact fun f1 f2 gv s1 P9=>af (by subst_vars;rfl) fun e3=>⟨fun m1 x9 On=>(m1=(26 - x9).toNat)∧(0≤x9∧x9≤26)∧(On=m.wrs s 11 ((W26.ws f).take x9.toNat)),⟨_,rfl,(by omega),(by rfl)⟩,fun m1 _ x9 On ⟨hm,h1,h2⟩=>fun f4=>ar (fun c1=>af (by omega) fun e5=>⟨((W26.ws f).getD x9.toNat 0),af (by subst_vars;rw [W26.F1];exact W26.MW (by omega)) fun e6=>af (W26.K1 NQ (by omega)) fun e7 m3 Pq f8=>⟨_,(by rw [aq (by omega)];omega),rfl,(by rw [aq (by omega)];omega),(by rw [Mem.xF (W26.jB f) (by omega),← h2];assumption)⟩⟩) fun c1=>au h rfl (ae (uO0 (by rw [h2,List.take_of_length_le];rw [W26.jB];omega)) rfl) rfl⟩)
def cJ:Ctr Un:=⟨[.one (.obj 0 0),.one (.int .i64),.agg [.int .i64,.int .u32,.nsl]],[(2,5)],[.ob 1 [(1,1,0)],.ob 0 [],.ob 5 []],[1],fun s k a r E rm m rk kk K=>E.n=m.S∧(0≤(a:Int)∧(a:Int)<4294967296)∧((k:Int)=1∨(k:Int)=2∨(k:Int)=4)∧K ⟨(.tuple #[]),(some (.t [])),[.ob 0 (m.msd kk s k a [])],[],[]⟩⟩
def uu(s:Int)(k:Int)(a:Int)(r:Nat→Nat)(E:Pd)(rm:Nat→Nat)(m:Mem)(rk:Nat→Nat)(kk:List Int)(Q:Ou Un→Prop):Prop:=
 Pd.Ok E→
 Mem.Wf m→
 ∀(gv:Nat),
 ∀(NJ:Nat),
 ∀(s1:List U32),s1=(W26.n (W26.mk []))→
 ∃I:Nat→Int→Mem→List U32→Prop,(∃m1,I m1 0 m s1)∧∀(m1:Nat)(OJ:Nat→Value)(NT:Int)(On:Mem)(s4:List U32),I m1 NT On s4→
 Mem.Wf On→
 split (decide (NT<26)) (
  ∀(m3:Mem),m3=On→
  Mem.Wf m3→
  ((0≤NT∧NT<(s4.length:Int))∧NT<(26:Int))∧
  True∧
  ∀(s2:List U32),s2=(List.set s4 NT.toNat (U32.mk (On.aZ true s (i64.wrap (11+NT)))))→
  ∃m2,m2<m1∧I m2 (i64.wrap (NT+1)) m3 s2) (
  (s4.length=26)∧
  W26.Ok (W26.mk (W26.n (W26.mk s4)))∧
  (0≤a∧a<4294967296)∧
  (k=1∨k=2∨k=4)∧
  split (decide ((Dg.ay (W26.n (W26.mk (W26.n (W26.mk s4)))))=0)) (
   ∀(NW:Nat),
   ∀(s2:List U32),s2=(W26.n (W26.mk []))→
   (s2.length=26)∧
   ∀(s3:List U32),s3=(Dg.svL ((Dg.load (W26.n (W26.mk (W26.n (W26.mk s4))))).add kk (opW k a [])))→
   (s3.length=26)∧
   E.n=On.S∧
   W26.Ok (W26.mk (W26.n (W26.mk s3)))∧
   ∀(m3:Mem),m3=(On.wrs s 11 (W26.ws (W26.mk (W26.n (W26.mk s3)))))→
   Mem.Wf m3→
   Q ⟨(.tuple #[]),(some (.t [])),[.ob 0 m3],[],[]⟩) (
   ∀(NW:Nat),
   ∀(s2:List U32),s2=(W26.n (W26.mk []))→
   (s2.length=26)∧
   ∀(s3:List U32),s3=(W26.n (W26.mk []))→
   split ((Dg.ay (W26.n (W26.mk (W26.n (W26.mk s4)))))==0) (
    (s3.length=26)∧
    E.n=On.S∧
    W26.Ok (W26.mk (W26.n (W26.mk s3)))∧
    ∀(m3:Mem),m3=(On.wrs s 11 (W26.ws (W26.mk (W26.n (W26.mk s3)))))→
    Mem.Wf m3→
    Q ⟨(.tuple #[]),(some (.t [])),[.ob 0 m3],[],[]⟩) (
    Q ⟨(.tuple #[]),(some (.t [])),[.ob 0 On],[],[]⟩)))
theorem uv:Vc2 Un prog (aQ [(14,aY),(88,cn),(92,kP),(68,iX),(86,iz)]) [] Tryz.f89 (.r' (.r' (.two (.r' (.two (.node [] (some ⟨[(10,(.one (.int .i64)))],[],[7]++upN 10 16,[(1,(.ob 0)),(4,(.ob 7))]⟩) [] [] .leaf .leaf) .leaf)) .leaf))) [] cJ=(∀s k a r (E:Pd) rm (m:Mem) rk (kk:List Int),∀Q,(cJ.body s k a r E rm m rk kk Q)→uu s k a r E rm m rk kk Q):=by kernel_rfl
theorem jG:LV Un prog 89 cJ:=verify Tryz.func89 aa (tb:= [(14,aY),(88,cn),(92,kP),(68,iX),(86,iz)]) ⟨cU,gy,xf,Cb,xy,trivial⟩ (by kernel_rfl) (uv.mpr fun s k a r E rm m rk kk Q h=>by
 obtain⟨NL,NQ,Oh,h⟩:=h
 exact fun f1 f2 gv NJ s1 P9=>⟨fun m1 NT On s4=>(m1=(26 - NT).toNat)∧(0≤NT∧NT≤26)∧(On=m)∧(s4=(m.dgW s).take NT.toNat++List.replicate (26 - NT.toNat) (U32.mk 0)),⟨_,rfl,(by omega),(by rfl),(by subst_vars;rfl)⟩,fun m1 _ NT On s4 ⟨hm,h1,h2,h3⟩=>fun f3=>ar (fun c1 m3 Pq f4=>af (by rw [h3];simp [Mem.fV];omega) fun e5=>af trivial fun _ s2 OI=>⟨_,(by rw [aq (by omega)];omega),rfl,(by rw [aq (by omega)];omega),(by subst_vars;rfl),(by subst h2;rw [OI];exact Mem.yR (by omega) h3)⟩) fun c1=>(by(have h4:s4=m.dgW s:=by rw [h3];exact Mem.Dn (by omega));(have h5:W26.n (W26.mk (W26.n (W26.mk s4)))=m.dgW s:=by rw [h4];exact W26.nn (Mem.fV m s));rw [h5];exact af (by rw [h4];exact Mem.fV m s) fun e7=>af (by rw [h4];exact W26.C6 (Mem.fV m s) (Mem.mI f2 s)) fun e8=>af ‹_› fun e9=>af ‹_› fun e10=>ar (fun c2=>(by(have h6:=(Dg.oO (K:=kk) (l:=opW k a []) (Dg.fE (Mem.mI f2 s) c2) (vW (k:=k) (a:=a) NQ (by omega) (fun x hx=>absurd hx (by simp)))).1);exact fun NW s2 OI=>af (by subst_vars;rfl) fun e11 s3 PJ=>af (by subst_vars;rfl) fun e12=>af (by grind) fun e13=>af (by subst PJ;exact W26.C6 rfl (Dg.Bc h6)) fun e14 m3 Pq f15=>au h rfl (ae (uO0 (by rw [Pq,PJ,Dg.Ga h6,h2];unfold Mem.msd;rw [if_pos c2])) rfl) rfl)) fun c2 NW s2 OI=>af (by subst_vars;rfl) fun Z5 s3 PJ=>aC (fun c3=>(by exfalso;exact c2 c3)) fun c3=>au h rfl (ae (uO0 (by rw [h2];unfold Mem.msd;rw [if_neg c2])) rfl) rfl)⟩)
def gG:Ctr Un:=⟨[.one (.obj 0 0),.one (.int .i64),.agg [.int .i64,.int .u32,.sl 2]],[(3,5)],[.ob 1 [(1,1,0)],.ob 0 [],.lst 1 false 29,.ob 5 []],[1],fun s k a r E rm m A0 c0 l rk kk K=>E.n=m.S∧(0≤(a:Int)∧(a:Int)<4294967296)∧(k:Int)=3∧l.length=1024∧fW l∧K ⟨(.tuple #[]),(some (.t [])),[.ob 0 (m.msd kk s k a l)],[],[]⟩⟩
def ux(s:Int)(k:Int)(a:Int)(r:Nat→Nat)(E:Pd)(rm:Nat→Nat)(m:Mem)(A0:Option Addr)(c0:Nat)(l:List U32)(rk:Nat→Nat)(kk:List Int)(Q:Ou Un→Prop):Prop:=
 Pd.Ok E→
 Mem.Wf m→
 ∀(gv:Nat),
 ∀(NJ:Nat),
 ∀(s1:List U32),s1=(W26.n (W26.mk []))→
 ∃I:Nat→Int→Mem→List U32→Prop,(∃m1,I m1 0 m s1)∧∀(m1:Nat)(OJ:Nat→Value)(NT:Int)(On:Mem)(s5:List U32),I m1 NT On s5→
 Mem.Wf On→
 split (decide (NT<26)) (
  ∀(m3:Mem),m3=On→
  Mem.Wf m3→
  ((0≤NT∧NT<(s5.length:Int))∧NT<(26:Int))∧
  True∧
  ∀(s2:List U32),s2=(List.set s5 NT.toNat (U32.mk (On.aZ true s (i64.wrap (11+NT)))))→
  ∃m2,m2<m1∧I m2 (i64.wrap (NT+1)) m3 s2) (
  (s5.length=26)∧
  W26.Ok (W26.mk (W26.n (W26.mk s5)))∧
  (0≤a∧a<4294967296)∧
  k=3∧
  l.length=1024∧
  fW l∧
  split (decide ((Dg.ay (W26.n (W26.mk (W26.n (W26.mk s5)))))=0)) (
   ∀(NW:Nat),
   ∀(s2:List U32),s2=(W26.n (W26.mk []))→
   (s2.length=26)∧
   ∀(s3:List U32),s3=(Dg.svL ((Dg.load (W26.n (W26.mk (W26.n (W26.mk s5))))).add kk (opW k a l)))→
   (s3.length=26)∧
   E.n=On.S∧
   W26.Ok (W26.mk (W26.n (W26.mk s3)))∧
   ∀(m3:Mem),m3=(On.wrs s 11 (W26.ws (W26.mk (W26.n (W26.mk s3)))))→
   Mem.Wf m3→
   Q ⟨(.tuple #[]),(some (.t [])),[.ob 0 m3],[],[]⟩) (
   ∀(NW:Nat),
   ∀(s2:List U32),s2=(W26.n (W26.mk []))→
   (s2.length=26)∧
   ∀(s3:List U32),s3=(W26.n (W26.mk []))→
   split ((Dg.ay (W26.n (W26.mk (W26.n (W26.mk s5)))))==0) (
    (s3.length=26)∧
    E.n=On.S∧
    W26.Ok (W26.mk (W26.n (W26.mk s3)))∧
    ∀(m3:Mem),m3=(On.wrs s 11 (W26.ws (W26.mk (W26.n (W26.mk s3)))))→
    Mem.Wf m3→
    Q ⟨(.tuple #[]),(some (.t [])),[.ob 0 m3],[],[]⟩) (
    Q ⟨(.tuple #[]),(some (.t [])),[.ob 0 On],[],[]⟩)))
theorem uy:Vc2 Un prog (aQ [(14,aY),(88,cn),(92,kP),(68,nL),(86,iz)]) [] Tryz.f89 (.r' (.r' (.two (.r' (.two (.node [] (some ⟨[(10,(.one (.int .i64)))],[],[7]++upN 10 16,[(1,(.ob 0)),(5,(.ob 7))]⟩) [] [] .leaf .leaf) .leaf)) .leaf))) [] gG=(∀s k a r (E:Pd) rm (m:Mem) A0 c0 (l:List U32) rk (kk:List Int),∀Q,(E.n=m.S∧(0≤(a:Int)∧(a:Int)<4294967296)∧(k:Int)=3∧l.length=1024∧fW l∧Q ⟨(.tuple #[]),(some (.t [])),[.ob 0 (m.msd kk s k a l)],[],[]⟩)→ux s k a r E rm m A0 c0 l rk kk Q):=by kernel_rfl
theorem uw:LV Un prog 89 gG:=verify Tryz.func89 aa (tb:= [(14,aY),(88,cn),(92,kP),(68,nL),(86,iz)]) ⟨cU,gy,xf,Ce,xy,trivial⟩ (by kernel_rfl) (uy.mpr fun s k a r E rm m A0 c0 l rk kk Q h=>by
 obtain⟨NL,NQ,Oh,Zr,UB,h⟩:=h
 exact fun f1 f2 gv NJ s1 P9=>⟨fun m1 NT On s5=>(m1=(26 - NT).toNat)∧(0≤NT∧NT≤26)∧(On=m)∧(s5=(m.dgW s).take NT.toNat++List.replicate (26 - NT.toNat) (U32.mk 0)),⟨_,rfl,(by omega),(by rfl),(by subst_vars;rfl)⟩,fun m1 _ NT On s5 ⟨hm,h1,h2,h3⟩=>fun f3=>ar (fun c1 m3 Pq f4=>af (by rw [h3];simp [Mem.fV];omega) fun e5=>af trivial fun _ s2 OI=>⟨_,(by rw [aq (by omega)];omega),rfl,(by rw [aq (by omega)];omega),(by subst_vars;rfl),(by subst h2;rw [OI];exact Mem.yR (by omega) h3)⟩) fun c1=>(by(have h4:s5=m.dgW s:=by rw [h3];exact Mem.Dn (by omega));(have h5:W26.n (W26.mk (W26.n (W26.mk s5)))=m.dgW s:=by rw [h4];exact W26.nn (Mem.fV m s));rw [h5];exact af (by rw [h4];exact Mem.fV m s) fun e7=>af (by rw [h4];exact W26.C6 (Mem.fV m s) (Mem.mI f2 s)) fun e8=>af ‹_› fun e9=>af ‹_› fun e10=>af ‹_› fun e11=>af ‹_› fun e12=>ar (fun c2=>(by(have h6:=(Dg.oO (K:=kk) (l:=opW k a l) (Dg.fE (Mem.mI f2 s) c2) (vW (k:=k) (a:=a) NQ (by omega) UB)).1);exact fun NW s2 OI=>af (by subst_vars;rfl) fun e13 s3 PJ=>af (by subst_vars;rfl) fun e14=>af (by grind) fun e15=>af (by subst PJ;exact W26.C6 rfl (Dg.Bc h6)) fun Z5 m3 Pq f17=>au h rfl (ae (uO0 (by rw [Pq,PJ,Dg.Ga h6,h2];unfold Mem.msd;rw [if_pos c2])) rfl) rfl)) fun c2 NW s2 OI=>af (by subst_vars;rfl) fun e18 s3 PJ=>aC (fun c3=>(by exfalso;exact c2 c3)) fun c3=>au h rfl (ae (uO0 (by rw [h2];unfold Mem.msd;rw [if_neg c2])) rfl) rfl)⟩)
def bp:Ctr Un:=⟨[.one (.bool),.one (.int .u32)],[],[],[],fun yes c K=>split yes (K ⟨(.iface 236 (.int .u32 c)),(some .pan),[],[],[]⟩) (K ⟨(.tuple #[]),(some (.t [])),[],[],[]⟩)⟩
def CB(yes:Bool)(c:Int)(Q:Ou Un→Prop):Prop:=
 split yes (
  Q ⟨(.iface 236 (.int .u32 c)),(some .pan),[],[],[]⟩) (
  Q ⟨(.tuple #[]),(some (.t [])),[],[],[]⟩)
theorem CC:Vc2 Un prog (aQ []) [] Tryz.f84 .leaf [] bp=(∀yes c,∀Q,(bp.body yes c Q)→CB yes c Q):=by kernel_rfl
theorem ek:LV Un prog 84 bp:=verify Tryz.func84 aa (tb:= []) trivial (by kernel_rfl) (CC.mpr fun yes c Q h=>ab (fun c1=>(bP h ‹_›)) fun c1=>(bQ h ‹_›))
def dX:Ctr Un:=⟨[.one (.obj 0 0),.one (.int .u32)],[],[.ob 1 [(1,1,0)],.ob 0 []],[],fun n r E rm m K=>E.n=m.S∧(0≤(n:Int)∧(n:Int)<4294967296)∧split (decide (((E.on m).bn n)≠0)) (K ⟨(.iface 236 (.int .u32 ((E.on m).bn n))),(some .pan),[],[],[]⟩) (K ⟨(.int .i64 n),none,[],[],[]⟩)⟩
def IM(n:Int)(r:Nat→Nat)(E:Pd)(rm:Nat→Nat)(m:Mem)(Q:Ou Un→Prop):Prop:=
 Pd.Ok E→
 Mem.Wf m→
 E.n=m.S∧
 split (decide ((i64.wrap n)≥(E.on m).S)) (
  Q ⟨(.iface 236 (.int .u32 1)),(some .pan),[],[],[]⟩) (
  Q ⟨(.int .i64 (i64.wrap n)),none,[],[],[]⟩)
theorem IN:Vc2 Un prog (aQ [(120,jd),(84,bp)]) [] Tryz.f83 .leaf [] dX=(∀n r (E:Pd) rm (m:Mem),∀Q,(dX.body n r E rm m Q)→IM n r E rm m Q):=by kernel_rfl
section
attribute [local grind=] DB.bn
theorem mq:LV Un prog 83 dX:=verify Tryz.func83 aa (tb:= [(120,jd),(84,bp)]) ⟨tP,ek,trivial⟩ (by kernel_rfl) (IN.mpr fun n r E rm m Q h=>by
 obtain⟨NL,NQ,h⟩:=h
 exact fun f1 f2=>(by(have Zb:i64.wrap n=n:=aq (by omega));rw [Zb];exact af ‹_› fun s3=>ar (fun c1=>au (bP h (by grind)) (congrArg (Value.iface 236) (cu (by grind))) rfl rfl) fun c1=>ib (bQ h (by grind)) (by omega)))
end
def fz:Ctr Un:=⟨[.one (.obj 0 0),.one (.int .u32)],[],[.ob 1 [(1,1,0)],.ob 0 []],[],fun n r E rm m K=>E.n=m.S∧(0≤(n:Int)∧(n:Int)<4294967296)∧split (decide (((E.on m).fH n)≠0)) (K ⟨(.iface 236 (.int .u32 ((E.on m).fH n))),(some .pan),[],[],[]⟩) (K ⟨(.agg #[(.bool false),(.int .i64 n)]),none,[],[],[]⟩)⟩
def Cx(n:Int)(r:Nat→Nat)(E:Pd)(rm:Nat→Nat)(m:Mem)(Q:Ou Un→Prop):Prop:=
 Pd.Ok E→
 Mem.Wf m→
 ∀(gv:Nat),
 split (decide ((i64.wrap n)≥m.I)) (
  Q ⟨(.iface 236 (.int .u32 17)),(some .pan),[],[],[]⟩) (
  Q ⟨(.agg #[(.bool false),(.int .i64 (i64.wrap n))]),none,[],[],[]⟩)
theorem Cy:Vc2 Un prog (aQ [(14,aY),(55,l7),(84,bp)]) [] Tryz.f94 .leaf [] fz=(∀n r (E:Pd) rm (m:Mem),∀Q,(fz.body n r E rm m Q)→Cx n r E rm m Q):=by kernel_rfl
section
attribute [local grind=] DB.fH
theorem tY:LV Un prog 94 fz:=verify Tryz.func94 aa (tb:= [(14,aY),(55,l7),(84,bp)]) ⟨cU,Ae,ek,trivial⟩ (by kernel_rfl) (Cy.mpr fun n r E rm m Q h=>by
 obtain⟨NL,NQ,h⟩:=h
 exact fun f1 f2=>(by(have Zb:i64.wrap n=n:=aq (by omega));rw [Zb];exact fun gv=>ar (fun c1=>au (bP h (by grind)) (congrArg (Value.iface 236) (cu (by grind))) rfl rfl) fun c1=>au (bQ h (by grind)) (congrArg (fun l=>Value.agg (List.toArray l)) (ae rfl (ae (cf (by omega)) rfl))) rfl rfl))
end
def eS:Ctr Un:=⟨[.one (.obj 0 0),.one (.int .i64)],[],[.ob 1 [(1,1,0)],.ob 0 []],[],fun n r E rm m K=>E.n=m.S∧split (decide (((E.on m).bw n)≠0)) (K ⟨(.iface 236 (.int .u32 ((E.on m).bw n))),(some .pan),[],[],[]⟩) (K ⟨(.tuple #[]),(some (.t [])),[],[],[]⟩)⟩
def IP(n:Int)(r:Nat→Nat)(E:Pd)(rm:Nat→Nat)(m:Mem)(Q:Ou Un→Prop):Prop:=
 Pd.Ok E→
 Mem.Wf m→
 E.n=m.S∧
 ∀(gv:Nat),
 split (((E.on m).entry n).typ !=0) (
  Q ⟨(.iface 236 (.int .u32 2)),(some .pan),[],[],[]⟩) (
  Q ⟨(.tuple #[]),(some (.t [])),[],[],[]⟩)
theorem IQ:Vc2 Un prog (aQ [(18,cQ),(84,bp)]) [] Tryz.f85 .leaf [] eS=(∀n r (E:Pd) rm (m:Mem),∀Q,(eS.body n r E rm m Q)→IP n r E rm m Q):=by kernel_rfl
section
attribute [local grind=] DB.bw
theorem pw:LV Un prog 85 eS:=verify Tryz.func85 aa (tb:= [(18,cQ),(84,bp)]) ⟨gV,ek,trivial⟩ (by kernel_rfl) (IQ.mpr fun n r E rm m Q h=>by
 obtain⟨NL,h⟩:=h
 exact fun f1 f2=>af ‹_› fun s3 gv=>aL (fun c1=>au (bP h (by grind)) (congrArg (Value.iface 236) (cu (by grind))) rfl rfl) fun c1=>(bQ h (by grind)))
end
def cx:Ctr Un:=⟨[.one (.obj 0 0),.one (.int .u32)],[],[.ob 1 [(1,1,0)],.ob 0 []],[],fun s r E rm m K=>E.n=m.S∧(0≤(s:Int)∧(s:Int)<4294967296)∧split (decide (((E.on m).aT s)≠0)) (K ⟨(.iface 236 (.int .u32 ((E.on m).aT s))),(some .pan),[],[],[]⟩) (K ⟨(.int .i64 s),none,[],[],[]⟩)⟩
def xz(s:Int)(r:Nat→Nat)(E:Pd)(rm:Nat→Nat)(m:Mem)(Q:Ou Un→Prop):Prop:=
 Pd.Ok E→
 Mem.Wf m→
 E.n=m.S∧
 (0≤s∧s<4294967296)∧
 split (decide (((E.on m).bn s)≠0)) (
  Q ⟨(.iface 236 (.int .u32 ((E.on m).bn s))),(some .pan),[],[],[]⟩) (
  E.n=m.S∧
  ∀(gv:Nat),
  split (((E.on m).entry s).typ !=1) (
   Q ⟨(.iface 236 (.int .u32 3)),(some .pan),[],[],[]⟩) (
   split (((E.on m).entry s).state !=1) (
    Q ⟨(.iface 236 (.int .u32 4)),(some .pan),[],[],[]⟩) (
    Q ⟨(.int .i64 s),none,[],[],[]⟩)))
theorem xB:Vc2 Un prog (aQ [(83,dX),(18,cQ),(84,bp)]) [] Tryz.f87 .leaf [] cx=(∀s r (E:Pd) rm (m:Mem),∀Q,(cx.body s r E rm m Q)→xz s r E rm m Q):=by kernel_rfl
section
attribute [local grind=] DB.aT DB.bn DB.entry
theorem iA:LV Un prog 87 cx:=verify Tryz.func87 aa (tb:= [(83,dX),(18,cQ),(84,bp)]) ⟨mq,gV,ek,trivial⟩ (by kernel_rfl) (xB.mpr fun s r E rm m Q h=>by
 obtain⟨NL,NQ,h⟩:=h
 exact fun f1 f2=>af ‹_› fun s3=>af ‹_› fun s4=>ar (fun c1=>au (bP h (by grind)) (congrArg (Value.iface 236) (cu (by grind))) rfl rfl) fun c1=>af ‹_› fun s5 gv=>aL (fun c2=>au (bP h (by grind)) (congrArg (Value.iface 236) (cu (by grind))) rfl rfl) fun c2=>aL (fun c3=>au (bP h (by grind)) (congrArg (Value.iface 236) (cu (by grind))) rfl rfl) fun c3=>(bQ h (by grind)))
end
def eR:Ctr Un:=⟨[.one (.int .u32)],[],[],[],fun w K=>(0≤(w:Int)∧(w:Int)<4294967296)∧split (decide (DB.fT w≠0)) (K ⟨(.iface 236 (.int .u32 (DB.fT w))),(some .pan),[],[],[]⟩) (K ⟨(.agg #[(.int .u32 (cm w)),(.bool (paW w)),(.bool (paX w))]),none,[],[],[]⟩)⟩
def AX(w:Int)(Q:Ou Un→Prop):Prop:=
 ∀(gv:Nat),
 (0≤w∧w<4294967296)∧
 ∀(NJ:Nat),
 split ((lE w) !=0) (
  Q ⟨(.iface 236 (.int .u32 6)),(some .pan),[],[],[]⟩) (
  Q ⟨(.agg #[(.int .u32 (cm w)),(.bool (paW w)),(.bool (paX w))]),none,[],[],[]⟩)
theorem AY:Vc2 Un prog (aQ [(63,l6),(84,bp)]) [] Tryz.f93 .leaf [] eR=(∀w,∀Q,(eR.body w Q)→AX w Q):=by kernel_rfl
section
attribute [local grind=] DB.fT
theorem qO:LV Un prog 93 eR:=verify Tryz.func93 aa (tb:= [(63,l6),(84,bp)]) ⟨Ig,ek,trivial⟩ (by kernel_rfl) (AY.mpr fun w Q h=>by
 obtain⟨NL,h⟩:=h
 exact fun gv=>af ‹_› fun s1 NJ=>aL (fun c1=>au (bP h (by grind)) (congrArg (Value.iface 236) (cu (by grind))) rfl rfl) fun c1=>(bQ h (by grind)))
end
def gz:Ctr Un:=⟨[.one (.obj 0 0),.one (.int .i64),.one (.int .u32)],[],[.ob 1 [(1,1,0)],.ob 0 []],[1],fun s va r E rm m K=>E.n=m.S∧(0≤(va:Int)∧(va:Int)<4294967296)∧split (decide (((E.on m).eE s va)≠0)) (K ⟨(.iface 236 (.int .u32 ((E.on m).eE s va))),(some .pan),[.ob 0 m],[],[]⟩) (K ⟨(.tuple #[]),(some (.t [])),[.ob 0 m],[],[]⟩)⟩
def FY(s:Int)(va:Int)(r:Nat→Nat)(E:Pd)(rm:Nat→Nat)(m:Mem)(Q:Ou Un→Prop):Prop:=
 Pd.Ok E→
 Mem.Wf m→
 E.n=m.S∧
 (0≤va∧va<4294967296)∧
 ∀(m1:Mem),m1=m→
 Mem.Wf m1→
 split (((E.on m).bB s va)==140) (
  Q ⟨(.iface 236 (.int .u32 7)),(some .pan),[.ob 0 m1],[],[]⟩) (
  split (((E.on m).bB s va) !=0) (
   Q ⟨(.iface 236 (.int .u32 21)),(some .pan),[.ob 0 m1],[],[]⟩) (
   Q ⟨(.tuple #[]),(some (.t [])),[.ob 0 m1],[],[]⟩))
theorem FZ:Vc2 Un prog (aQ [(156,oY),(84,bp)]) [] Tryz.f95 .leaf [] gz=(∀s va r (E:Pd) rm (m:Mem),∀Q,(gz.body s va r E rm m Q)→FY s va r E rm m Q):=by kernel_rfl
section
attribute [local grind=] DB.eE
theorem vE:LV Un prog 95 gz:=verify Tryz.func95 aa (tb:= [(156,oY),(84,bp)]) ⟨Kh,ek,trivial⟩ (by kernel_rfl) (FZ.mpr fun s va r E rm m Q h=>by
 obtain⟨NL,NQ,h⟩:=h
 exact fun f1 f2=>af ‹_› fun s3=>af ‹_› fun s4 m1 Oe f5=>aC (fun c1=>au (bP h (by grind)) (congrArg (Value.iface 236) (cu (by grind))) (ae (uO0 (by grind)) rfl) rfl) fun c1=>aL (fun c2=>au (bP h (by grind)) (congrArg (Value.iface 236) (cu (by grind))) (ae (uO0 (by grind)) rfl) rfl) fun c2=>au (bQ h (by grind)) rfl (ae (uO0 (by grind)) rfl) rfl)
end
def gx:Ctr Un:=⟨[.one (.obj 0 0),.one (.int .u32),.one (.int .u32)],[(2,5)],[.ob 1 [(1,1,0)],.ob 0 [],.ob 5 []],[0,1],fun s q r E rm m rk kk K=>E.n=m.S∧(0≤(s:Int)∧(s:Int)<4294967296)∧(0≤(q:Int)∧(q:Int)<4294967296)∧K ⟨(.int .u32 ((E.on m).cz s q)),none,[.ob 1 (((E.on m).bE s q).pd),.ob 0 (((E.on m).bE s q).mem)],[],[]⟩⟩
def FR(s:Int)(q:Int)(r:Nat→Nat)(E:Pd)(rm:Nat→Nat)(m:Mem)(rk:Nat→Nat)(kk:List Int)(Q:Ou Un→Prop):Prop:=
 Pd.Ok E→
 Mem.Wf m→
 ∀(gv:Nat),
 E.n=m.S∧
 (0≤s∧s<4294967296)∧
 split (decide (((E.on m).bn s)≠0)) (
  Q ⟨(.int .u32 ((E.on m).bn s)),none,[.ob 1 E,.ob 0 m],[],[]⟩) (
  E.n=m.S∧
  (0≤q∧q<4294967296)∧
  split (decide (((E.on m).bn q)≠0)) (
   Q ⟨(.int .u32 ((E.on m).bn q)),none,[.ob 1 E,.ob 0 m],[],[]⟩) (
   split (s==q) (
    Q ⟨(.int .u32 16),none,[.ob 1 E,.ob 0 m],[],[]⟩) (
    E.n=m.S∧
    split (decide (((E.on m).bw s)≠0)) (
     Q ⟨(.int .u32 ((E.on m).bw s)),none,[.ob 1 E,.ob 0 m],[],[]⟩) (
     E.n=m.S∧
     split (decide (((E.on m).bw q)≠0)) (
      Q ⟨(.int .u32 ((E.on m).bw q)),none,[.ob 1 E,.ob 0 m],[],[]⟩) (
      E.n=m.S∧
      ∀(E1:Pd),E1=((E.on m).aN s q).pd→
      Pd.Ok E1→
      ∀(m1:Mem),m1=((E.on m).aN s q).mem→
      Mem.Wf m1→
      split (((E.on m).aR s q) !=0) (
       Q ⟨(.int .u32 24),none,[.ob 1 E1,.ob 0 m1],[],[]⟩) (
       E1.n=m1.S∧
       W26.Ok (W26.mk (Dg.svL Dg.new))∧
       ∀(m2:Mem),m2=(m1.wrs s 11 (W26.ws (W26.mk (Dg.svL Dg.new))))→
       Mem.Wf m2→
       Q ⟨(.int .u32 0),none,[.ob 1 E1,.ob 0 m2],[],[]⟩))))))
theorem FT:VcD Un prog (aQ [(83,dX),(84,bp),(85,eS),(60,kV),(62,l5),(86,iz)]) 82 236 [] Tryz.f31 .leaf [] gx=(∀s q r (E:Pd) rm (m:Mem) rk (kk:List Int),∀Q,(gx.body s q r E rm m rk kk Q)→FR s q r E rm m rk kk Q):=by kernel_rfl
section
attribute [local grind=] DB.cz
theorem vD:LV Un prog 31 gx:=nQ ans Tryz.func31 aa (tb:= [(83,dX),(84,bp),(85,eS),(60,kV),(62,l5),(86,iz)]) ⟨mq,ek,pw,xr,H7,xy,trivial⟩ (by kernel_rfl) (FT.mpr fun s q r E rm m rk kk Q h=>by
 obtain⟨NL,NQ,Oh,h⟩:=h
 exact fun f1 f2 gv=>af ‹_› fun s3=>af ‹_› fun s4=>ar (fun c1=>au h (cu (by grind)) (ae (uO1 (by(rw [DB.bE,if_neg (by grind)];exact Pd.cj _ _ NL))) (ae (uO0 (by(rw [DB.bE,if_neg (by grind)];(subst_vars;rfl)))) rfl)) rfl) fun c1=>af ‹_› fun s5=>af ‹_› fun s6=>ar (fun c2=>au h (cu (by grind)) (ae (uO1 (by(rw [DB.bE,if_neg (by grind)];exact Pd.cj _ _ NL))) (ae (uO0 (by(rw [DB.bE,if_neg (by grind)];(subst_vars;rfl)))) rfl)) rfl) fun c2=>aC (fun c3=>au h (cu (by grind)) (ae (uO1 (by(rw [DB.bE,if_neg (by grind)];exact Pd.cj _ _ NL))) (ae (uO0 (by(rw [DB.bE,if_neg (by grind)];(subst_vars;rfl)))) rfl)) rfl) fun c3=>af ‹_› fun s7=>ar (fun c4=>au h (cu (by grind)) (ae (uO1 (by(rw [DB.bE,if_neg (by grind)];exact Pd.cj _ _ NL))) (ae (uO0 (by(rw [DB.bE,if_neg (by grind)];(subst_vars;rfl)))) rfl)) rfl) fun c4=>af ‹_› fun s8=>ar (fun c5=>au h (cu (by grind)) (ae (uO1 (by(rw [DB.bE,if_neg (by grind)];exact Pd.cj _ _ NL))) (ae (uO0 (by(rw [DB.bE,if_neg (by grind)];(subst_vars;rfl)))) rfl)) rfl) fun c5=>af ‹_› fun s9 E1 Pe f10 m1 Oe f11=>aL (fun c6=>(by have htk:=DB.fi c1 c2 c3 c4 c5;exact au h (cu (by grind)) (ae (uO1 (by rw [DB.bE,if_neg (by grind)];subst_vars;rw [DB.aN,if_neg c6])) (ae (uO0 (by rw [DB.bE,if_neg (by grind)];subst_vars;rw [DB.aN,if_neg c6])) rfl)) rfl)) fun c6=>af (by(subst_vars;rfl)) fun Sr=>af (by show fW _;rw [W26.Jo (by rfl)];exact Dg.Bc Dg.nm) fun S4 m2 Qa f14=>(by have htk:=DB.fi c1 c2 c3 c4 c5;exact au h (cu (by grind)) (ae (uO1 (by(rw [DB.bE,if_pos (by grind)];subst_vars;exact DB.jS (by simp only [Mem.lH,Mem.bh,Mem.ig])))) (ae (uO0 (by(rw [DB.bE,if_pos (by grind)];subst_vars;rfl))) rfl)) rfl))
end
def fy:Ctr Un:=⟨[.one (.obj 0 0),.one (.int .u32),.one (.int .u32),.one (.int .u32)],[(2,5)],[.ob 1 [(1,1,0)],.ob 0 [],.ob 5 []],[0,1],fun s p b r E rm m rk kk K=>E.n=m.S∧(0≤(s:Int)∧(s:Int)<4294967296)∧(0≤(p:Int)∧(p:Int)<4294967296)∧(0≤(b:Int)∧(b:Int)<4294967296)∧K ⟨(.int .u32 ((E.on m).bV s p)),none,[.ob 1 ((DB.bu kk (E.on m) s p b).pd),.ob 0 ((DB.bu kk (E.on m) s p b).mem)],[],[]⟩⟩
def Cv(s:Int)(p:Int)(b:Int)(r:Nat→Nat)(E:Pd)(rm:Nat→Nat)(m:Mem)(rk:Nat→Nat)(kk:List Int)(Q:Ou Un→Prop):Prop:=
 Pd.Ok E→
 Mem.Wf m→
 ∀(gv:Nat),
 E.n=m.S∧
 (0≤s∧s<4294967296)∧
 split (decide (((E.on m).aT s)≠0)) (
  Q ⟨(.int .u32 ((E.on m).aT s)),none,[.ob 1 E,.ob 0 m],[],[]⟩) (
  E.n=m.S∧
  (0≤p∧p<4294967296)∧
  split (decide (((E.on m).bn p)≠0)) (
   Q ⟨(.int .u32 ((E.on m).bn p)),none,[.ob 1 E,.ob 0 m],[],[]⟩) (
   E.n=m.S∧
   split (decide (((E.on m).bw p)≠0)) (
    Q ⟨(.int .u32 ((E.on m).bw p)),none,[.ob 1 E,.ob 0 m],[],[]⟩) (
    E.n=m.S∧
    ∀(E1:Pd),E1=((E.on m).take p 2 s).pd→
    Pd.Ok E1→
    ∀(m1:Mem),m1=((E.on m).take p 2 s).mem→
    Mem.Wf m1→
    (0≤b∧b<4294967296)∧
    ∀(m2:Mem),m2=(m1.write true p 0 b)→
    Mem.Wf m2→
    E1.n=m2.S∧
    (0≤b∧b<4294967296)∧
    ((1:Int)=1∨(1:Int)=2∨(1:Int)=4)∧
    ∀(m3:Mem),m3=(m2.msd kk s 1 b [])→
    Mem.Wf m3→
    Q ⟨(.int .u32 0),none,[.ob 1 E1,.ob 0 m3],[],[]⟩)))
theorem Cw:VcD Un prog (aQ [(87,cx),(83,dX),(85,eS),(64,kT),(14,aY),(88,cn),(42,iY),(89,cJ)]) 82 236 [] Tryz.f32 .leaf [] fy=(∀s p b r (E:Pd) rm (m:Mem) rk (kk:List Int),∀Q,(fy.body s p b r E rm m rk kk Q)→Cv s p b r E rm m rk kk Q):=by kernel_rfl
section
attribute [local grind=] DB.bV DB.bn DB.bw
theorem tX:LV Un prog 32 fy:=nQ ans Tryz.func32 aa (tb:= [(87,cx),(83,dX),(85,eS),(64,kT),(14,aY),(88,cn),(42,iY),(89,cJ)]) ⟨iA,mq,pw,xq,cU,gy,tJ,jG,trivial⟩ (by kernel_rfl) (Cw.mpr fun s p b r E rm m rk kk Q h=>by
 obtain⟨NL,NQ,Oh,Zr,h⟩:=h
 exact fun f1 f2 gv=>af ‹_› fun s3=>af ‹_› fun s4=>ar (fun c1=>au h (cu (by grind)) (ae (uO1 (by(rw [DB.bu,if_neg (by grind)];exact Pd.cj _ _ NL))) (ae (uO0 (by(rw [DB.bu,if_neg (by grind)];(subst_vars;rfl)))) rfl)) rfl) fun c1=>af ‹_› fun s5=>af ‹_› fun s6=>ar (fun c2=>au h (cu (by grind)) (ae (uO1 (by(rw [DB.bu,if_neg (by grind)];exact Pd.cj _ _ NL))) (ae (uO0 (by(rw [DB.bu,if_neg (by grind)];(subst_vars;rfl)))) rfl)) rfl) fun c2=>af ‹_› fun s7=>ar (fun c3=>au h (cu (by grind)) (ae (uO1 (by(rw [DB.bu,if_neg (by grind)];exact Pd.cj _ _ NL))) (ae (uO0 (by(rw [DB.bu,if_neg (by grind)];(subst_vars;rfl)))) rfl)) rfl) fun c3=>af ‹_› fun s8 E1 Pe f9 m1 Oe f10=>af ‹_› fun On m2 Qa f12=>af (by(subst_vars;(simp only [Mem.bh,Mem.ig,Mem.lH,Mem.lZ];rfl))) fun S4=>af ‹_› fun TT=>af (by decide) fun Tu m3 Pq f16=>au h (cu (by grind)) (ae (uO1 (by(rw [DB.bu,if_pos (by grind)];subst_vars;exact DB.jS (by simp only [Mem.lH,Mem.bh,Mem.ig])))) (ae (uO0 (by(rw [DB.bu,if_pos (by grind)];subst_vars;rfl))) rfl)) rfl)
end
def kh:Ctr Un:=⟨[.one (.obj 0 0),.one (.int .u32),.one (.int .u32),.one (.int .u32)],[(2,5)],[.ob 1 [(1,1,0)],.ob 0 [],.ob 5 []],[0,1],fun s p i r E rm m rk kk K=>E.n=m.S∧(0≤(s:Int)∧(s:Int)<4294967296)∧(0≤(p:Int)∧(p:Int)<4294967296)∧(0≤(i:Int)∧(i:Int)<4294967296)∧K ⟨(.int .u32 ((E.on m).dh s p i)),none,[.ob 1 ((DB.dG kk (E.on m) s p i).pd),.ob 0 ((DB.dG kk (E.on m) s p i).mem)],[],[]⟩⟩
def FP(s:Int)(p:Int)(i:Int)(r:Nat→Nat)(E:Pd)(rm:Nat→Nat)(m:Mem)(rk:Nat→Nat)(kk:List Int)(Q:Ou Un→Prop):Prop:=
 Pd.Ok E→
 Mem.Wf m→
 ∀(gv:Nat),
 E.n=m.S∧
 (0≤s∧s<4294967296)∧
 split (decide (((E.on m).aT s)≠0)) (
  Q ⟨(.int .u32 ((E.on m).aT s)),none,[.ob 1 E,.ob 0 m],[],[]⟩) (
  E.n=m.S∧
  (0≤p∧p<4294967296)∧
  split (decide (((E.on m).bn p)≠0)) (
   Q ⟨(.int .u32 ((E.on m).bn p)),none,[.ob 1 E,.ob 0 m],[],[]⟩) (
   split (decide (i≥256)) (
    Q ⟨(.int .u32 16),none,[.ob 1 E,.ob 0 m],[],[]⟩) (
    E.n=m.S∧
    split (decide (((E.on m).bw p)≠0)) (
     Q ⟨(.int .u32 ((E.on m).bw p)),none,[.ob 1 E,.ob 0 m],[],[]⟩) (
     E.n=m.S∧
     ∀(m1:Mem),m1=m→
     Mem.Wf m1→
     ∀(m2:Mem),m2=m1→
     Mem.Wf m2→
     split ((m1.aZ true ((E.on m).tbl s) (i64.wrap i)) !=0) (
      Q ⟨(.int .u32 7),none,[.ob 1 E,.ob 0 m2],[],[]⟩) (
      E.n=m2.S∧
      ∀(E1:Pd),E1=((E.on m2).take p 4 s).pd→
      Pd.Ok E1→
      ∀(m3:Mem),m3=((E.on m2).take p 4 s).mem→
      Mem.Wf m3→
      E1.n=m3.S∧
      ∀(E2:Pd),E2=((E1.on m3).add s (i64.wrap i) p).pd→
      Pd.Ok E2→
      ∀(m4:Mem),m4=((E1.on m3).add s (i64.wrap i) p).mem→
      Mem.Wf m4→
      E2.n=m4.S∧
      (0≤i∧i<4294967296)∧
      ((2:Int)=1∨(2:Int)=2∨(2:Int)=4)∧
      ∀(m5:Mem),m5=(m4.msd kk s 2 i [])→
      Mem.Wf m5→
      Q ⟨(.int .u32 0),none,[.ob 1 E2,.ob 0 m5],[],[]⟩)))))
theorem FQ:VcD Un prog (aQ [(87,cx),(83,dX),(84,bp),(85,eS),(91,fY),(14,aY),(88,cn),(92,kP),(64,kT),(65,gU),(89,cJ)]) 82 236 [] Tryz.f34 .leaf [] kh=(∀s p i r (E:Pd) rm (m:Mem) rk (kk:List Int),∀Q,(kh.body s p i r E rm m rk kk Q)→FP s p i r E rm m rk kk Q):=by kernel_rfl
section
attribute [local grind=] DB.dh DB.word DB.bn DB.bw
theorem FO:LV Un prog 34 kh:=nQ ans Tryz.func34 aa (tb:= [(87,cx),(83,dX),(84,bp),(85,eS),(91,fY),(14,aY),(88,cn),(92,kP),(64,kT),(65,gU),(89,cJ)]) ⟨iA,mq,ek,pw,tH,cU,gy,xf,xq,zY,jG,trivial⟩ (by kernel_rfl) (FQ.mpr fun s p i r E rm m rk kk Q h=>by
 obtain⟨NL,NQ,Oh,Zr,h⟩:=h
 exact fun f1 f2=>(by(have Zc:i64.wrap i=i:=aq (by omega));rw [Zc];exact fun gv=>af ‹_› fun s3=>af ‹_› fun s4=>ar (fun c1=>au h (cu (by grind)) (ae (uO1 (by(rw [DB.dG,if_neg (by grind)];exact Pd.cj _ _ NL))) (ae (uO0 (by(rw [DB.dG,if_neg (by grind)];(subst_vars;rfl)))) rfl)) rfl) fun c1=>af ‹_› fun s5=>af ‹_› fun s6=>ar (fun c2=>au h (cu (by grind)) (ae (uO1 (by(rw [DB.dG,if_neg (by grind)];exact Pd.cj _ _ NL))) (ae (uO0 (by(rw [DB.dG,if_neg (by grind)];(subst_vars;rfl)))) rfl)) rfl) fun c2=>ar (fun c3=>au h (cu (by grind)) (ae (uO1 (by(rw [DB.dG,if_neg (by grind)];exact Pd.cj _ _ NL))) (ae (uO0 (by(rw [DB.dG,if_neg (by grind)];(subst_vars;rfl)))) rfl)) rfl) fun c3=>af ‹_› fun s7=>ar (fun c4=>au h (cu (by grind)) (ae (uO1 (by(rw [DB.dG,if_neg (by grind)];exact Pd.cj _ _ NL))) (ae (uO0 (by(rw [DB.dG,if_neg (by grind)];(subst_vars;rfl)))) rfl)) rfl) fun c4=>af ‹_› fun s8 m1 Oe f9 m2 Qa f10=>aL (fun c5=>au h (cu (by grind)) (ae (uO1 (by(rw [DB.dG,if_neg (by grind)];exact Pd.cj _ _ NL))) (ae (uO0 (by(rw [DB.dG,if_neg (by grind)];(subst_vars;rfl)))) rfl)) rfl) fun c5=>af (by(subst_vars;assumption)) fun On E1 Pe f12 m3 Pq f13=>af (by(subst_vars;rfl)) fun TT E2 To f15 m4 Tn f16=>af (by(subst_vars;rfl)) fun YZ=>af ‹_› fun s18=>af (by decide) fun s19 m5 VM f20=>au h (cu (by grind)) (ae (uO1 (by(rw [DB.dG,if_pos (by grind)];subst_vars;exact DB.jS (by simp only [Mem.lH,Mem.bh,Mem.ig])))) (ae (uO0 (by(rw [DB.dG,if_pos (by grind)];subst_vars;rfl))) rfl)) rfl))
end
def mr:Ctr Un:=⟨[.one (.obj 0 0),.one (.int .u32),.one (.int .u32),.one (.int .u32),.one (.int .u32)],[(2,5)],[.ob 1 [(1,1,0)],.ob 0 [],.ob 5 []],[0,1],fun s p v n r E rm m rk kk K=>E.n=m.S∧(0≤(s:Int)∧(s:Int)<4294967296)∧(0≤(p:Int)∧(p:Int)<4294967296)∧(0≤(v:Int)∧(v:Int)<4294967296)∧(0≤(n:Int)∧(n:Int)<4294967296)∧K ⟨(.int .u32 ((E.on m).dq s p v n)),none,[.ob 1 ((DB.eO kk (E.on m) s p v n).pd),.ob 0 ((DB.eO kk (E.on m) s p v n).mem)],[],[]⟩⟩
def IT(s:Int)(p:Int)(v:Int)(n:Int)(r:Nat→Nat)(E:Pd)(rm:Nat→Nat)(m:Mem)(rk:Nat→Nat)(kk:List Int)(Q:Ou Un→Prop):Prop:=
 Pd.Ok E→
 Mem.Wf m→
 ∀(gv:Nat),
 E.n=m.S∧
 (0≤s∧s<4294967296)∧
 split (decide (((E.on m).aT s)≠0)) (
  Q ⟨(.int .u32 ((E.on m).aT s)),none,[.ob 1 E,.ob 0 m],[],[]⟩) (
  E.n=m.S∧
  (0≤p∧p<4294967296)∧
  split (decide (((E.on m).bn p)≠0)) (
   Q ⟨(.int .u32 ((E.on m).bn p)),none,[.ob 1 E,.ob 0 m],[],[]⟩) (
   (0≤v∧v<4294967296)∧
   split (decide (DB.fT v≠0)) (
    Q ⟨(.int .u32 (DB.fT v)),none,[.ob 1 E,.ob 0 m],[],[]⟩) (
    ∀(NJ:Nat),
    E.n=m.S∧
    (0≤n∧n<4294967296)∧
    split (decide (((E.on m).fH n)≠0)) (
     Q ⟨(.int .u32 ((E.on m).fH n)),none,[.ob 1 E,.ob 0 m],[],[]⟩) (
     ∀(OB:Nat),
     E.n=m.S∧
     split (decide (((E.on m).bw p)≠0)) (
      Q ⟨(.int .u32 ((E.on m).bw p)),none,[.ob 1 E,.ob 0 m],[],[]⟩) (
      E.n=m.S∧
      (0≤(cm v)∧(cm v)<4294967296)∧
      split (decide (((E.on m).eE s (cm v))≠0)) (
       ∀(m1:Mem),m1=m→
       Mem.Wf m1→
       Q ⟨(.int .u32 ((E.on m).eE s (cm v))),none,[.ob 1 E,.ob 0 m1],[],[]⟩) (
       ∀(m1:Mem),m1=m→
       Mem.Wf m1→
       E.n=m1.S∧
       ∀(E1:Pd),E1=((E.on m1).take p 5 s).pd→
       Pd.Ok E1→
       ∀(m2:Mem),m2=((E.on m1).take p 5 s).mem→
       Mem.Wf m2→
       ∀(m3:Mem),m3=(m2.copy true p false n)→
       Mem.Wf m3→
       E1.n=m3.S∧
       (0≤(cm v)∧(cm v)<4294967296)∧
       ∀(E2:Pd),E2=((E1.on m3).put s (cm v) (Mp.mk true p (paW v) (paX v))).pd→
       Pd.Ok E2→
       ∀(m4:Mem),m4=((E1.on m3).put s (cm v) (Mp.mk true p (paW v) (paX v))).mem→
       Mem.Wf m4→
       split (m4.has true p) (
        ∀(A:Option Addr),
        ∀(m5:Mem),m5=m4→
        Mem.Wf m5→
        ∀(l:List U32),l=(m4.words true p.toNat)→
        (some (.slice A l.length 1024):Option Value)=some (.slice A ((m4.words true p.toNat).length) 1024)∧
        E2.n=m5.S∧
        (0≤v∧v<4294967296)∧
        (3:Int)=3∧
        l.length=1024∧
        fW l∧
        ∀(m6:Mem),m6=(m5.msd kk s 3 v l)→
        Mem.Wf m6→
        Q ⟨(.int .u32 0),none,[.ob 1 E2,.ob 0 m6],[],[]⟩) (
        ∀(m5:Mem),m5=m4→
        Mem.Wf m5→
        False)))))))
theorem IU:VcD Un prog (aQ [(87,cx),(83,dX),(93,eR),(94,fz),(85,eS),(95,gz),(64,kT),(14,aY),(88,cn),(66,xk),(67,nM),(69,xg),(89,gG)]) 82 236 [] Tryz.f35 (.r' (.r' (.r' (.r' (.r' (.r' (.r' (.two (.node [] none [] [(4,[5])] .leaf .leaf) (.two (.node [] none [] [(3,[4]),(7,[4]),(9,[4])] .leaf .leaf) .leaf))))))))) [] mr=(∀s p v n r (E:Pd) rm (m:Mem) rk (kk:List Int),∀Q,(mr.body s p v n r E rm m rk kk Q)→IT s p v n r E rm m rk kk Q):=by kernel_rfl
section
attribute [local grind=] DB.dq DB.bn DB.bw
theorem IS:LV Un prog 35 mr:=nQ ans Tryz.func35 aa (tb:= [(87,cx),(83,dX),(93,eR),(94,fz),(85,eS),(95,gz),(64,kT),(14,aY),(88,cn),(66,xk),(67,nM),(69,xg),(89,gG)]) ⟨iA,mq,qO,tY,pw,vE,xq,cU,gy,Kz,Ie,Ku,uw,trivial⟩ (by kernel_rfl) (IU.mpr fun s p v n r E rm m rk kk Q h=>by
 obtain⟨NL,NQ,Oh,Zr,UB,h⟩:=h
 exact fun f1 f2 gv=>af ‹_› fun s3=>af ‹_› fun s4=>ar (fun c1=>au h (cu (by grind)) (ae (uO1 (by(rw [DB.eO,if_neg (by grind)];exact Pd.cj _ _ NL))) (ae (uO0 (by(rw [DB.eO,if_neg (by grind)];(subst_vars;rfl)))) rfl)) rfl) fun c1=>af ‹_› fun s5=>af ‹_› fun s6=>ar (fun c2=>au h (cu (by grind)) (ae (uO1 (by(rw [DB.eO,if_neg (by grind)];exact Pd.cj _ _ NL))) (ae (uO0 (by(rw [DB.eO,if_neg (by grind)];(subst_vars;rfl)))) rfl)) rfl) fun c2=>af ‹_› fun s7=>ar (fun c3=>au h (cu (by grind)) (ae (uO1 (by(rw [DB.eO,if_neg (by grind)];exact Pd.cj _ _ NL))) (ae (uO0 (by(rw [DB.eO,if_neg (by grind)];(subst_vars;rfl)))) rfl)) rfl) fun c3 NJ=>af ‹_› fun s8=>af ‹_› fun s9=>ar (fun c4=>au h (cu (by grind)) (ae (uO1 (by(rw [DB.eO,if_neg (by grind)];exact Pd.cj _ _ NL))) (ae (uO0 (by(rw [DB.eO,if_neg (by grind)];(subst_vars;rfl)))) rfl)) rfl) fun c4 OB=>af ‹_› fun S5=>ar (fun c5=>au h (cu (by grind)) (ae (uO1 (by(rw [DB.eO,if_neg (by grind)];exact Pd.cj _ _ NL))) (ae (uO0 (by(rw [DB.eO,if_neg (by grind)];(subst_vars;rfl)))) rfl)) rfl) fun c5=>af ‹_› fun On=>af (om ‹_›) fun Sr=>ar (fun c6 m1 Oe f13=>au h (cu (by grind)) (ae (uO1 (by(rw [DB.eO,if_neg (by grind)];exact Pd.cj _ _ NL))) (ae (uO0 (by(rw [DB.eO,if_neg (by grind)];(subst_vars;rfl)))) rfl)) rfl) fun c6 m1 Oe f14=>af (by(subst_vars;assumption)) fun Tu E1 Pe f16 m2 Qa f17 m3 Pq f18=>af (by(subst_vars;(simp only [Mem.bh,Mem.ig,Mem.lH,Mem.lZ];rfl))) fun s19=>af (om ‹_›) fun s20 E2 To f21 m4 Tn f22=>ab (fun c7 A m5 VM f23 l QA=>af (by(subst_vars;rfl)) fun s24=>af (by(subst_vars;rfl)) fun s25=>af ‹_› fun s26=>af (by omega) fun s27=>af (by subst_vars;exact Mem.eT _ _ _) fun s28=>af (by subst_vars;exact Mem.rL ‹_› _ _) fun s29 m6 h_m6 f30=>au h (cu (by grind)) (ae (uO1 (by(rw [DB.eO,if_pos (by grind)];subst_vars;exact DB.jS (by simp only [Mem.lH,Mem.bh,Mem.ig])))) (ae (uO0 (by(rw [DB.eO,if_pos (by grind)];subst_vars;rfl))) rfl)) rfl) fun c7=>(by exfalso;rw [show m4=((E.on m).cO s p v n).mem by subst_vars;rfl,DB.BO,DB.fw c2]at c7;cases c7))
end
def ki:Ctr Un:=⟨[.one (.obj 0 0),.one (.int .u32),.one (.int .u32),.one (.int .u32)],[(2,5)],[.ob 1 [(1,1,0)],.ob 0 [],.ob 5 []],[0,1],fun s v n r E rm m rk kk K=>E.n=m.S∧(0≤(s:Int)∧(s:Int)<4294967296)∧(0≤(v:Int)∧(v:Int)<4294967296)∧(0≤(n:Int)∧(n:Int)<4294967296)∧K ⟨(.int .u32 ((E.on m).dW s v n)),none,[.ob 1 ((DB.dH kk (E.on m) s v n).pd),.ob 0 ((DB.dH kk (E.on m) s v n).mem)],[],[]⟩⟩
def FW(s:Int)(v:Int)(n:Int)(r:Nat→Nat)(E:Pd)(rm:Nat→Nat)(m:Mem)(rk:Nat→Nat)(kk:List Int)(Q:Ou Un→Prop):Prop:=
 Pd.Ok E→
 Mem.Wf m→
 ∀(gv:Nat),
 E.n=m.S∧
 (0≤s∧s<4294967296)∧
 split (decide (((E.on m).aT s)≠0)) (
  Q ⟨(.int .u32 ((E.on m).aT s)),none,[.ob 1 E,.ob 0 m],[],[]⟩) (
  (0≤v∧v<4294967296)∧
  split (decide (DB.fT v≠0)) (
   Q ⟨(.int .u32 (DB.fT v)),none,[.ob 1 E,.ob 0 m],[],[]⟩) (
   ∀(NJ:Nat),
   split (paX v) (
    Q ⟨(.int .u32 6),none,[.ob 1 E,.ob 0 m],[],[]⟩) (
    E.n=m.S∧
    (0≤n∧n<4294967296)∧
    split (decide (((E.on m).fH n)≠0)) (
     Q ⟨(.int .u32 ((E.on m).fH n)),none,[.ob 1 E,.ob 0 m],[],[]⟩) (
     ∀(OB:Nat),
     E.n=m.S∧
     (0≤(cm v)∧(cm v)<4294967296)∧
     split (decide (((E.on m).eE s (cm v))≠0)) (
      ∀(m1:Mem),m1=m→
      Mem.Wf m1→
      Q ⟨(.int .u32 ((E.on m).eE s (cm v))),none,[.ob 1 E,.ob 0 m1],[],[]⟩) (
      ∀(m1:Mem),m1=m→
      Mem.Wf m1→
      E.n=m1.S∧
      (0≤(cm v)∧(cm v)<4294967296)∧
      ∀(E1:Pd),E1=((E.on m1).put s (cm v) (Mp.mk false n (paW v) false)).pd→
      Pd.Ok E1→
      ∀(m2:Mem),m2=((E.on m1).put s (cm v) (Mp.mk false n (paW v) false)).mem→
      Mem.Wf m2→
      E1.n=m2.S∧
      (0≤v∧v<4294967296)∧
      ((4:Int)=1∨(4:Int)=2∨(4:Int)=4)∧
      ∀(m3:Mem),m3=(m2.msd kk s 4 v [])→
      Mem.Wf m3→
      Q ⟨(.int .u32 0),none,[.ob 1 E1,.ob 0 m3],[],[]⟩)))))
theorem FX:VcD Un prog (aQ [(87,cx),(93,eR),(84,bp),(94,fz),(95,gz),(67,nM),(89,cJ)]) 82 236 [] Tryz.f36 .leaf [] ki=(∀s v n r (E:Pd) rm (m:Mem) rk (kk:List Int),∀Q,(ki.body s v n r E rm m rk kk Q)→FW s v n r E rm m rk kk Q):=by kernel_rfl
section
attribute [local grind=] DB.dW DB.bn DB.bw
theorem FU:LV Un prog 36 ki:=nQ ans Tryz.func36 aa (tb:= [(87,cx),(93,eR),(84,bp),(94,fz),(95,gz),(67,nM),(89,cJ)]) ⟨iA,qO,ek,tY,vE,Ie,jG,trivial⟩ (by kernel_rfl) (FX.mpr fun s v n r E rm m rk kk Q h=>by
 obtain⟨NL,NQ,Oh,Zr,h⟩:=h
 exact fun f1 f2 gv=>af ‹_› fun s3=>af ‹_› fun s4=>ar (fun c1=>au h (cu (by grind)) (ae (uO1 (by(rw [DB.dH,if_neg (by grind)];exact Pd.cj _ _ NL))) (ae (uO0 (by(rw [DB.dH,if_neg (by grind)];(subst_vars;rfl)))) rfl)) rfl) fun c1=>af ‹_› fun s5=>ar (fun c2=>au h (cu (by grind)) (ae (uO1 (by(rw [DB.dH,if_neg (by grind)];exact Pd.cj _ _ NL))) (ae (uO0 (by(rw [DB.dH,if_neg (by grind)];(subst_vars;rfl)))) rfl)) rfl) fun c2 NJ=>ab (fun c3=>au h (cu (by grind)) (ae (uO1 (by(rw [DB.dH,if_neg (by grind)];exact Pd.cj _ _ NL))) (ae (uO0 (by(rw [DB.dH,if_neg (by grind)];(subst_vars;rfl)))) rfl)) rfl) fun c3=>af ‹_› fun s6=>af ‹_› fun s7=>ar (fun c4=>au h (cu (by grind)) (ae (uO1 (by(rw [DB.dH,if_neg (by grind)];exact Pd.cj _ _ NL))) (ae (uO0 (by(rw [DB.dH,if_neg (by grind)];(subst_vars;rfl)))) rfl)) rfl) fun c4 OB=>af ‹_› fun s8=>af (om ‹_›) fun s9=>ar (fun c5 m1 Oe f10=>au h (cu (by grind)) (ae (uO1 (by(rw [DB.dH,if_neg (by grind)];exact Pd.cj _ _ NL))) (ae (uO0 (by(rw [DB.dH,if_neg (by grind)];(subst_vars;rfl)))) rfl)) rfl) fun c5 m1 Oe f11=>af (by(subst_vars;assumption)) fun Sr=>af (om ‹_›) fun S4 E1 Pe f14 m2 Qa f15=>af (by(subst_vars;rfl)) fun Vc=>af ‹_› fun YZ=>af (by decide) fun s18 m3 Pq f19=>au h (cu (by grind)) (ae (uO1 (by(rw [DB.dH,if_pos (by grind)];subst_vars;exact DB.jS (by simp only [Mem.lH,Mem.bh,Mem.ig])))) (ae (uO0 (by(rw [DB.dH,if_pos (by grind)];subst_vars;rfl))) rfl)) rfl)
end
end
end Go.Proofs.YtinhphjfnedhgaaGreatDoor
namespace Go.Proofs.YtinhphjfnedhgaaGreatDoor
open Go.Proofs.Tryz (prog)
open Go Go.RowKit V
open Go.IntKind (i64 u32 u64)
theorem u7 {w w1:World} {L:fh} {D:DB} {L':eQ} {s:Nat} {T':TypeId}(h:DBP w L D)(hq:Pu w w1)(hM:cv w1 L' D.mem)(hX:∀k,L'.X k→w.heap.size≤k)(hb:Blk w1 s (bI (List.replicate D.n2 0)) T')(hsw:w.heap.size≤s)(V6:¬L'.X s) {R:aB}(hR:∀v w',(∃L2:fh,v=ptr L2.g∧DBP w' L2 D∧(∀k,L2.X k→w.heap.size≤k)∧Pu w w')→R v w'):
 ∀(gv:Nat)(NF:World),gv=w1.heap.size→NF=w1.alloc (.cells #[ptr L'.g,.int .i64 D.av,.slice (some (Addr.mk s 0 none)) D.n2 D.n2] 110)→
 Kept (cg (fun _ k=>k=L.g) [0,1,2,5,6,9,10,11,12]) w1 NF∧∃b3:Nat→Nat→Prop,(∀i k,(fun _ k=>k=L.g:Nat→Nat→Prop) i k→b3 i k)∧
 ∃b4:Nat→Nat→Prop,
 b4 3 (((Addr.mk gv 0 none).add 2).block)∧
 ∃Qj:Option Addr,∃Qh:Nat,∃Qi:Nat,NF.drew.cell? ((Addr.mk gv 0 none).add 2)=some (.slice Qj Qh Qi)∧
 aA (some (Addr.mk L.g 0 none)) fun Si=>
 b4 7 ((Si.add 2).block)∧
 ∃Qg:Option Addr,∃Qe:Nat,∃Qf:Nat,NF.drew.cell? (Si.add 2)=some (.slice Qg Qe Qf)∧
 ∃P4:Int,∃NI,(Builtin.copy_ #[62,62] 3 #[(.slice Qj Qh Qi),(.slice Qg Qe Qf)]:Sem Value).run prog NF.drew= .ok (.int .i64 P4) NI∧
 Kept (cg b4 [0,4]) NF.drew NI∧∃b5:Nat→Nat→Prop,(∀i k,b4 i k→b5 i k)∧
 R (.pointer (some (Addr.mk gv 0 none))) NI:=by
 intro gv w2 hg hw2
 have hm:=made hg hw2
 have hmn:=hm.num
 have Tz:Pu w w2.drew:=(hq.trans hm.pu).trans (Pu.bj w2)
 have VO:=h.pu Tz
 have hMm:cv w2.drew L' D.mem:=(hM.pu hm.pu).pu (Pu.bj w2)
 have VI:Blk w2.drew s (bI (List.replicate D.n2 0)) T':=(hm.old hb).drew
 have UO:=hm.blk.drew
 have Vm:=hb.lt
 have hgl:L.g<w.heap.size:=h.lt _ (.inl rfl)
 have hws:=hq.size
 obtain⟨T0,hd0⟩:=VO.hd
 refine⟨hm.kept.mono (fun k hk=>by have:k=L.g:=(by simpa [cg]using hk);rw [this];omega),fun _ k=>k=L.g,fun _ k hk=>hk,fun _ k=>k=gv∨k=L.g,by rw [block_add];exact .inl rfl,_,_,_,UO.at rfl,ao _ rfl ⟨by rw [block_add];exact .inr rfl,_,_,_,hd0.at rfl,?_⟩⟩
 obtain⟨x,w3,Pa,PF⟩:=pZ (P:=prog) (dT:=62) (sT:=62) (ty:=3) (dn:=D.n2) (dc:=D.n2) si VI rfl VO.ints (by simp) (K:=fun w3=>bG w2.drew s (bI (jg (List.replicate D.n2 0) 0 (D.ws.take (min D.n2 D.n2)))) T' w3) (fun _ hs=>hs)
 have Su:D.ws.length=D.n2:=D.jB
 rw [List.take_of_length_le (by omega),n8 _ _ (by rw [Su];simp)]at PF
 refine⟨x,w3,Pa,PF.kept.mono (fun k hk=>by have:k=gv∨k=L.g:=(by simpa [cg]using hk);rcases this with e | e<;>omega),fun _ k=>k=gv∨k=L.g,fun _ k hk=>hk,hR _ _ ⟨⟨gv,s,L'⟩,rfl,⟨⟨_,PF.old UO (show gv≠s by omega)⟩,⟨T',_,PF.blk,by rw [eV,Su],fun p hp=>?_⟩,hMm.ch PF.ch fun k hk e=>V6 (e▸hk),h.ok,⟨by show s≠gv;omega,fun(hx:L'.X gv)=>absurd (hM.lt gv hx) (by omega),V6⟩⟩,?_,?_⟩⟩
 ·have Oh:p<D.S:=hp
  have e1:=mw (fun p=>(D.ent p).w0) (fun p=>(D.ent p).w1) D.S (2*p) (by omega)
  have e2:=mw (fun p=>(D.ent p).w0) (fun p=>(D.ent p).w1) D.S (2*p+1) (by omega)
  have f1:D.ws[2*p]? =some (D.ent p).w0:=by
   show((List.range D.S).flatMap fun p=>[(D.ent p).w0,(D.ent p).w1])[2*p]? =_
   rw [e1,if_pos (by omega),show 2*p / 2=p by omega]
  have f2:D.ws[2*p+1]? =some (D.ent p).w1:=by
   show((List.range D.S).flatMap fun p=>[(D.ent p).w0,(D.ent p).w1])[2*p+1]? =_
   rw [e2,if_neg (by omega),show(2*p+1) / 2=p by omega]
  have hl:D.ws.length=2*D.S:=D.jB
  exact⟨by rw [eG (by omega),List.getD_eq_getElem?_getD,f1];rfl,by rw [eG (by omega),List.getD_eq_getElem?_getD,f2];rfl⟩
 ·rintro k (e | e | hk)
  ·rw [e];show w.heap.size≤gv;omega
  ·rw [e];exact hsw
  ·exact hX k hk
 ·exact Ch.stored (X:=fun _=>False) Tz PF (.inr hsw)
theorem LK {w:World} {L:fh} {D:DB}(h:DBP w L D):
 Calls prog 17 #[ptr L.g] w fun e w'=>∃v,e= .returned v∧∃L2:fh,v=ptr L2.g∧DBP w' L2 D∧(∀k,L2.X k→w.heap.size≤k)∧Pu w w':=by
 refine xx _ ?_
 have hD:Pu w w.drew:=Pu.bj w
 have h1:=h.pu hD
 obtain⟨T,hd⟩:=h1.hd
 have hgl:L.g<w.drew.heap.size:=hd.lt
 have h0s:w.drew.heap.size=w.heap.size:=rfl
 have hm64:=h.mem.dV.1
 have eW:∀(l:List Nat)(k:Nat),cg (fun _ k=>k=L.g) l k→k=L.g:=fun l k hk=>by
  induction l with
  | nil=>simp [cg]at hk
  | cons a l ih=>
   cases l with
   | nil=>exact hk
   | cons c l=>rcases(show k=L.g∨cg (fun _ k=>k=L.g) (c::l) k from hk)with hk | hk;exact hk;exact ih hk
 refine⟨fun _ k=>k=L.g,ao _ rfl ⟨by rw [block_add],_,hd.at rfl,ao _ rfl ⟨by rw [block_add],_,hd.at rfl,ao _ rfl ⟨by rw [block_add],_,_,_,hd.at rfl,?_⟩⟩⟩⟩
 refine⟨?_,?_⟩
 ·refine(Bw h1.mem).mono ?_
  rintro e w1 ⟨_,rfl,L',rfl,hM,hX,NQ⟩
  refine⟨_,rfl,NQ.eW (fun k hk=>by rw [eW _ k hk];exact hgl),fun _ k=>k=L.g,fun _ k hk=>hk,?_⟩
  refine jq si (by omega) (by unfold DB.n2;omega) (by unfold DB.n2;omega) fun s w2 hs=>?_
  have hp1s:=NQ.size
  refine⟨hs.kept.mono (fun k hk=>by rw [eW _ k hk];omega),fun _ k=>k=L.g,fun _ k hk=>hk,?_⟩
  rw [Int.toNat_natCast]at hs ⊢
  have hq:Pu w w2:=(hD.trans NQ).trans hs.pu
  have Tp:=hM.pu hs.pu
  have hsn:=hs.num
  have hb:Blk w2 s (bI (List.replicate D.n2 0)) _:=hs.blk.cast (fL _ _)
  have V6:¬L'.X s:=fun hx=>by have:=hM.lt s hx;omega
  have hsw:w.heap.size≤s:=by omega
  have hX:∀k,L'.X k→w.heap.size≤k:=hX
  exact u7 h hq Tp hX hb hsw V6 fun _ _ h=>h
 ·refine jq si (by omega) (by unfold DB.n2;omega) (by unfold DB.n2;omega) fun s w1 hs=>?_
  refine⟨hs.kept.mono (fun k hk=>by rw [eW _ k hk];omega),fun _ k=>k=L.g,fun _ k hk=>hk,?_⟩
  rw [Int.toNat_natCast]at hs ⊢
  refine(Bw (h1.mem.pu hs.pu)).mono ?_
  rintro e w2 ⟨_,rfl,L',rfl,hM,hX,NQ⟩
  have Pn:=hs.pu.size
  refine⟨_,rfl,NQ.eW (fun k hk=>by rw [eW _ k hk];omega),fun _ k=>k=L.g,fun _ k hk=>hk,?_⟩
  have hq:Pu w w2:=(hD.trans hs.pu).trans NQ
  have hsn:=hs.num
  have hb:Blk w2 s (bI (List.replicate D.n2 0)) _:=NQ.blk (hs.blk.cast (fL _ _))
  have V6:¬L'.X s:=fun hx=>by have:=hX s hx;have:=hs.blk.lt;omega
  exact u7 h hq hM (fun k hk=>by have:=hX k hk;omega) hb (by omega) V6 fun _ _ h=>h
section
section
variable {U:Uni}
theorem aU.two {rs:List (Res U)} {X:Nat→Nat→Prop} {w w':World} {Q:Ou U→Prop} {v:Value} {k:Option Kn} {Z1 Z2:Nat→Prop} {r1 r2:Res U} {kc:List (Key×Kn)}(hs:Sat rs X w)(q:Pu w w')(h1:RS Z1 w' r1)(h2:RS Z2 w' r2)(TW:∀k,Z1 k→w.heap.size≤k)(V4:∀k,Z2 k→w.heap.size≤k)(hd:∀k,Z1 k→¬Z2 k)(hQ:Q ⟨v,k,[],[r1,r2],kc⟩)(hk:KnO (rs++ [r1,r2]) v k)
 (VA:∀key k,(key,k)∈kc→fX (rs++ [r1,r2]) fr0 key k):aU rs [] X w Q (.returned v) w':=by
 have n1:nth (rs++ [r1,r2]) rs.length=some r1:=by rw [bo,if_neg (by omega),Nat.sub_self];rfl
 have n2:nth (rs++ [r1,r2]) (rs.length+1)=some r2:=by rw [bo,if_neg (by omega),show rs.length+1 - rs.length=1 by omega];rfl
 let X':Nat→Nat→Prop:=fun i=>if i=rs.length then Z1 else if i=rs.length+1 then Z2 else X i
 have e1:X' rs.length=Z1:=if_pos rfl
 have e2:X' (rs.length+1)=Z2:=by show(if _ then _ else if _ then _ else _)=_;rw [if_neg (by omega),if_pos rfl]
 have e0:∀i,i<rs.length→X' i=X i:=fun i hi=>by show(if _ then _ else if _ then _ else _)=_;rw [if_neg (by omega),if_neg (by omega)]
 have new:∀i,rs.length≤i→i<rs.length+2→∀k,X' i k→w.heap.size≤k:=fun i ha hb k hk=>by
  rcases(show i=rs.length∨i=rs.length+1 by omega)with e | e
  ·subst e;rw [e1]at hk;exact TW k hk
  ·subst e;rw [e2]at hk;exact V4 k hk
 refine⟨⟨v,k,[],[r1,r2],kc⟩,rs,X',fU hk,hQ,by simp [bJ],⟨⟨fun i r hr=>?_,fun i j hi hj OH k Pb OC=>?_⟩,q.mono (fun _ h=>h.elim),fun i hi _=>e0 i hi,fun i hi=>(by cases hi),fun i ha hb=>new i ha (by simpa using hb),.inr hk,fun key k hm _=>VA key k hm⟩⟩
 ·have hl:=aX hr
  simp only [List.length_append,List.length_cons,List.length_nil]at hl
  by_cases hi:i<rs.length
  ·rw [bo,if_pos hi]at hr
   rw [e0 i hi]
   exact(hs.res i r hr).ch q (by simp)
  ·rcases(show i=rs.length∨i=rs.length+1 by omega)with e | e
   ·subst e;rw [n1]at hr;injection hr with hr;subst hr;rw [e1];exact h1
   ·subst e;rw [n2]at hr;injection hr with hr;subst hr;rw [e2];exact h2
 ·simp only [List.length_append,List.length_cons,List.length_nil]at hi hj
  by_cases Ov:i<rs.length
  ·have hl:k<w.heap.size:=hs.lt Ov k (by rw [e0 i Ov]at Pb;exact Pb)
   by_cases Ro:j<rs.length
   ·rw [e0 i Ov]at Pb;rw [e0 j Ro]at OC
    exact hs.dis i j Ov Ro OH k Pb OC
   ·have:=new j (by omega) (by omega) k OC;omega
  ·by_cases Ro:j<rs.length
   ·have hl:k<w.heap.size:=hs.lt Ro k (by rw [e0 j Ro]at OC;exact OC)
    have:=new i (by omega) (by omega) k Pb;omega
   ·rcases(show i=rs.length∧j=rs.length+1∨j=rs.length∧i=rs.length+1 by omega)with⟨ea,eb⟩ | ⟨ea,eb⟩
    ·subst ea;subst eb;rw [e1]at Pb;rw [e2]at OC;exact hd k Pb OC
    ·subst ea;subst eb;rw [e2]at Pb;rw [e1]at OC;exact hd k OC Pb
end
end
end Go.Proofs.YtinhphjfnedhgaaGreatDoor
namespace Go.Proofs.YtinhphjfnedhgaaGreatDoor
open Go.Proofs.Tryz (prog)
open Go Go.RowKit V
open Go.IntKind (i64 u32 u64)
section
set_option maxRecDepth 100000
set_option maxHeartbeats 1000000
attribute [local irreducible] Vc2 VcD
def jf:Ctr Un:=⟨[.one (.obj 0 0)],[],[.ob 1 [(1,1,0)],.ob 0 []],[],fun r E rm m K=>E.n=m.S∧∀(rN:Nat→Nat)(rM:Nat→Nat),K ⟨(.pointer (some (Addr.mk (rN 0) 0 none))),(some (.p (.obj 2 0 0))),[],[(.ob 1 rN E),(.ob 0 rM m)],[(.l 2 1,.p (.obj 3 0 0))]⟩⟩
theorem tW:LV Un prog 17 jf:=by
 show ∀(r:Nat→Nat)(E:Pd)(rm:Nat→Nat)(m:Mem),∀Q:Ou Un→Prop,(E.n=m.S∧∀(rN:Nat→Nat)(rM:Nat→Nat),Q ⟨(.pointer (some (Addr.mk (rN 0) 0 none))),(some (.p (.obj 2 0 0))),[],[(.ob 1 rN E),(.ob 0 rM m)],[(.l 2 1,.p (.obj 3 0 0))]⟩)→∀(X:Nat→Nat→Prop)(w:World),Sat (U:=Un) [(.ob 1 r E),(.ob 0 rm m)] X w→ax (U:=Un) [(.ob 1 r E),(.ob 0 rm m)] fr0 [(.l 0 1,.p (.obj 1 0 0))]→Calls prog 17 #[(.pointer (some (Addr.mk (r 0) 0 none)))] w (aU (U:=Un) [(.ob 1 r E),(.ob 0 rm m)] [] X w Q)
 intro r E rm m Q hQ X w hs hl
 obtain⟨hn,hQ⟩:=hQ
 obtain⟨a,L,hg,hr,hD,QB,QK⟩:=vV hs hl hn
 refine(LK hD).mono ?_
 rintro e w' ⟨u,rfl,L2,rfl,VO,hz,q⟩
 have Vq:=VO.pd
 rw [Pd.cj E m hn]at Vq
 exact aU.two (Z1:=fun k=>k=L2.g∨k=L2.a) (Z2:=L2.M.X) (k:=some (.p (.obj 2 0 0))) (kc:= [(.l 2 1,.p (.obj 3 0 0))]) hs q
  (show RS (U:=Un) _ w' (.ob 1 (fun i=>if i=0 then L2.g else L2.M.g) E)from(⟨L2.a,fun k=>Iff.rfl,Vq⟩:cT 1 (fun i=>if i=0 then L2.g else L2.M.g) E (fun k=>k=L2.g∨k=L2.a) w'))
  (show RS (U:=Un) _ w' (.ob 0 (fun _=>L2.M.g) m)from(⟨L2.M,rfl,fun _=>Iff.rfl,VO.mem⟩:cT 0 (fun _=>L2.M.g) m L2.M.X w'))
  (fun k hk=>hz k (hk.imp id .inl)) (fun k hk=>hz k (.inr (.inr hk))) (fun k h1 h2=>by rcases h1 with rfl | rfl;exact VO.dis.2.1 h2;exact VO.dis.2.2 h2) (hQ (fun i=>if i=0 then L2.g else L2.M.g) (fun _=>L2.M.g)) rfl (wq ⟨_,_,_,rfl,rfl⟩)
end
section
set_option maxRecDepth 100000
set_option maxHeartbeats 1000000
attribute [local irreducible] Vc2 VcD
attribute [local grind=] Pd.cN Pd.cy Pd.gm Pd.ia Pd.cj Pd.fx Pd.gl Pd.eU Pd.jO Pd.pP
attribute [local grind .] Pd.Ok.ent
attribute [local grind→] Pd.Ok.dV
end
section
set_option maxRecDepth 100000
set_option maxHeartbeats 1000000
attribute [local irreducible] Vc2 VcD
end
section
set_option maxRecDepth 100000
set_option maxHeartbeats 1000000
attribute [local irreducible] Vc2 VcD
attribute [local grind=] Pd.cN Pd.cy Pd.gm Pd.ia Pd.cj Pd.fx Pd.gl Pd.eU Pd.jO Pd.pP
attribute [local grind .] Pd.Ok.ent
attribute [local grind→] Pd.Ok.dV
def mj:Ctr Un:=⟨[.one (.obj 0 0),.enc 5],[(2,5)],[.ob 1 [(1,1,0)],.ob 0 [],.ob 5 []],[0,1],fun o r E rm m rk kk K=>E.n=m.S∧LOp.Ok o∧K ⟨(.int .i64 ((E.on m).dC o)),none,[.ob 1 ((DB.call kk (E.on m) o).pd),.ob 0 ((DB.call kk (E.on m) o).mem)],[],[]⟩⟩
def AB(o:LOp)(r:Nat→Nat)(E:Pd)(rm:Nat→Nat)(m:Mem)(rk:Nat→Nat)(kk:List Int)(Q:Ou Un→Prop):Prop:=
 Pd.Ok E→
 Mem.Wf m→
 ∀(gv:Nat),
 ∀x7:Bool,x7=((o.k:Int)==1)→
 split x7 (
  E.n=m.S∧
  (0≤o.a∧o.a<4294967296)∧
  (0≤o.b∧o.b<4294967296)∧
  ∀(E1:Pd),E1=((E.on m).bE o.a o.b).pd→
  Pd.Ok E1→
  ∀(m1:Mem),m1=((E.on m).bE o.a o.b).mem→
  Mem.Wf m1→
  Q ⟨(.int .i64 (i64.wrap ((E.on m).cz o.a o.b))),none,[.ob 1 E1,.ob 0 m1],[],[]⟩) (
  ∀Oy:Bool,Oy=((o.k:Int)==2)→
  split Oy (
   E.n=m.S∧
   (0≤o.a∧o.a<4294967296)∧
   (0≤o.b∧o.b<4294967296)∧
   (0≤o.c∧o.c<4294967296)∧
   ∀(E1:Pd),E1=(DB.bu kk (E.on m) o.a o.b o.c).pd→
   Pd.Ok E1→
   ∀(m1:Mem),m1=(DB.bu kk (E.on m) o.a o.b o.c).mem→
   Mem.Wf m1→
   Q ⟨(.int .i64 (i64.wrap ((E.on m).bV o.a o.b))),none,[.ob 1 E1,.ob 0 m1],[],[]⟩) (
   ∀RX:Bool,RX=((o.k:Int)==3)→
   split RX (
    E.n=m.S∧
    (0≤o.a∧o.a<4294967296)∧
    (0≤o.b∧o.b<4294967296)∧
    (0≤o.c∧o.c<4294967296)∧
    ∀(E1:Pd),E1=(DB.dG kk (E.on m) o.a o.b o.c).pd→
    Pd.Ok E1→
    ∀(m1:Mem),m1=(DB.dG kk (E.on m) o.a o.b o.c).mem→
    Mem.Wf m1→
    Q ⟨(.int .i64 (i64.wrap ((E.on m).dh o.a o.b o.c))),none,[.ob 1 E1,.ob 0 m1],[],[]⟩) (
    ∀XK:Bool,XK=((o.k:Int)==4)→
    split XK (
     E.n=m.S∧
     (0≤o.a∧o.a<4294967296)∧
     (0≤o.b∧o.b<4294967296)∧
     (0≤o.c∧o.c<4294967296)∧
     (0≤o.d∧o.d<4294967296)∧
     ∀(E1:Pd),E1=(DB.eO kk (E.on m) o.a o.b o.c o.d).pd→
     Pd.Ok E1→
     ∀(m1:Mem),m1=(DB.eO kk (E.on m) o.a o.b o.c o.d).mem→
     Mem.Wf m1→
     Q ⟨(.int .i64 (i64.wrap ((E.on m).dq o.a o.b o.c o.d))),none,[.ob 1 E1,.ob 0 m1],[],[]⟩) (
     E.n=m.S∧
     (0≤o.a∧o.a<4294967296)∧
     (0≤o.b∧o.b<4294967296)∧
     (0≤o.c∧o.c<4294967296)∧
     ∀(E1:Pd),E1=(DB.dH kk (E.on m) o.a o.b o.c).pd→
     Pd.Ok E1→
     ∀(m1:Mem),m1=(DB.dH kk (E.on m) o.a o.b o.c).mem→
     Mem.Wf m1→
     Q ⟨(.int .i64 (i64.wrap ((E.on m).dW o.a o.b o.c))),none,[.ob 1 E1,.ob 0 m1],[],[]⟩))))
theorem AD:Vc2 Un prog (aQ [(31,gx),(32,fy),(34,kh),(35,mr),(36,ki)]) [7,16,27,38] Tryz.f9 .leaf [] mj=(∀(o:LOp) r (E:Pd) rm (m:Mem) rk (kk:List Int),∀Q,(mj.body o r E rm m rk kk Q)→AB o r E rm m rk kk Q):=by kernel_rfl
theorem Az:LV Un prog 9 mj:=verify Tryz.func9 aa (tb:= [(31,gx),(32,fy),(34,kh),(35,mr),(36,ki)]) ⟨vD,tX,FO,IS,FU,trivial⟩ (by kernel_rfl) (AD.mpr fun o r E rm m rk kk Q h=>by
 obtain⟨NL,NQ,h⟩:=h
 exact fun f1 f2=>(by obtain⟨ho1,Q4,ho3,ho4⟩:=NQ;have hsm:=DB.JI (E.on m) o;(have S9:i64.wrap ((E.on m).dC o)=(E.on m).dC o:=aq (by omega));unfold DB.dC at S9;exact fun gv=>allEq<| aC (fun c1=>af ‹_› fun s3=>af ‹_› fun s4=>af ‹_› fun s5 E1 Pe f6 m1 Oe f7=>au h (cf (by unfold DB.dC;rw [if_pos ‹_›]at S9 ⊢;exact S9.symm)) (ae (uO1 (by(rw [DB.call,if_pos ‹_›];subst_vars;rfl))) (ae (uO0 (by(rw [DB.call,if_pos ‹_›];subst_vars;rfl))) rfl)) rfl) fun c1=>allEq<| aC (fun c2=>af ‹_› fun s8=>af ‹_› fun s9=>af ‹_› fun S5=>af ‹_› fun On E1 Pe f12 m1 Oe f13=>au h (cf (by unfold DB.dC;rw [if_neg ‹_›,if_pos ‹_›]at S9 ⊢;exact S9.symm)) (ae (uO1 (by(rw [DB.call,if_neg ‹_›,if_pos ‹_›];subst_vars;rfl))) (ae (uO0 (by(rw [DB.call,if_neg ‹_›,if_pos ‹_›];subst_vars;rfl))) rfl)) rfl) fun c2=>allEq<| aC (fun c3=>af ‹_› fun TT=>af ‹_› fun Tu=>af ‹_› fun Vc=>af ‹_› fun YZ E1 Pe f18 m1 Oe f19=>au h (cf (by unfold DB.dC;rw [if_neg ‹_›,if_neg ‹_›,if_pos ‹_›]at S9 ⊢;exact S9.symm)) (ae (uO1 (by(rw [DB.call,if_neg ‹_›,if_neg ‹_›,if_pos ‹_›];subst_vars;rfl))) (ae (uO0 (by(rw [DB.call,if_neg ‹_›,if_neg ‹_›,if_pos ‹_›];subst_vars;rfl))) rfl)) rfl) fun c3=>allEq<| aC (fun c4=>af ‹_› fun s20=>af ‹_› fun s21=>af ‹_› fun s22=>af ‹_› fun s23=>af ‹_› fun s24 E1 Pe f25 m1 Oe f26=>au h (cf (by unfold DB.dC;rw [if_neg ‹_›,if_neg ‹_›,if_neg ‹_›,if_pos ‹_›]at S9 ⊢;exact S9.symm)) (ae (uO1 (by(rw [DB.call,if_neg ‹_›,if_neg ‹_›,if_neg ‹_›,if_pos ‹_›];subst_vars;rfl))) (ae (uO0 (by(rw [DB.call,if_neg ‹_›,if_neg ‹_›,if_neg ‹_›,if_pos ‹_›];subst_vars;rfl))) rfl)) rfl) fun c4=>af ‹_› fun s27=>af ‹_› fun s28=>af ‹_› fun s29=>af ‹_› fun s30 E1 Pe f31 m1 Oe f32=>au h (cf (by unfold DB.dC;rw [if_neg ‹_›,if_neg ‹_›,if_neg ‹_›,if_neg ‹_›]at S9 ⊢;exact S9.symm)) (ae (uO1 (by(rw [DB.call,if_neg ‹_›,if_neg ‹_›,if_neg ‹_›,if_neg ‹_›];subst_vars;rfl))) (ae (uO0 (by(rw [DB.call,if_neg ‹_›,if_neg ‹_›,if_neg ‹_›,if_neg ‹_›];subst_vars;rfl))) rfl)) rfl))
def kd:Ctr Un:=⟨[.one (.obj 0 0),.one (.int .i64)],[],[.ob 1 [(1,1,0)],.ob 0 []],[],fun p r E rm m K=>E.n=m.S∧K ⟨(.bool ((E.on m).oA p)),none,[],[],[]⟩⟩
def Ft(p:Int)(r:Nat→Nat)(E:Pd)(rm:Nat→Nat)(m:Mem)(Q:Ou Un→Prop):Prop:=
 Pd.Ok E→
 Mem.Wf m→
 E.n=m.S∧
 ∀(gv:Nat),
 E.n=m.S∧
 ∀(NJ:Nat),
 ∃J:Bool→Prop,(
  split (((E.on m).bc p)==0) (
   split (((E.on m).bc (((E.on m).entry p).owner))==0) (
    split (((E.on m).entry p).typ !=0) (
     split (((E.on m).entry (((E.on m).entry p).owner)).state==3) (
      split (((E.on m).entry p).typ !=1) (
       J true) (
       J (((E.on m).entry p).refs==0))) (
      J false)) (
     J false)) (
    J false)) (
   J false))∧∀(OJ:Nat→Value)(x4:Bool),J x4→
 Q ⟨(.bool x4),none,[],[],[]⟩
theorem Fu:Vc2 Un prog (aQ [(18,cQ)]) [] Tryz.f44 (.r' (.r' (.r' (.two (.node [] (some ⟨[(4,(.one .bool))],[],[4]++upN 22 26,[]⟩) [] [] .leaf .leaf) .leaf)))) [] kd=(∀p r (E:Pd) rm (m:Mem),∀Q,(kd.body p r E rm m Q)→Ft p r E rm m Q):=by kernel_rfl
section
attribute [local grind=] DB.oA DB.entry DB.bc
theorem Fq:LV Un prog 44 kd:=verify Tryz.func44 aa (tb:= [(18,cQ)]) ⟨gV,trivial⟩ (by kernel_rfl) (Fu.mpr fun p r E rm m Q h=>by
 obtain⟨NL,h⟩:=h
 exact fun f1 f2=>af ‹_› fun s3 gv=>af ‹_› fun s4 NJ=>cY (((((E.on m).bc p):Int)==0) && (((((E.on m).bc (((E.on m).entry p).owner)):Int)==0) && (((((E.on m).entry p).typ:Int) !=0) && (((((E.on m).entry (((E.on m).entry p).owner)).state:Int)==3) && (((((E.on m).entry p).typ:Int) !=1) || ((((E.on m).entry p).refs:Int)==0)))))) (ab (fun c1=>ab (fun c2=>ab (fun c3=>ab (fun c4=>ab (fun c5=>(by grind)) fun c5=>(by grind)) fun c4=>(by grind)) fun c3=>(by grind)) fun c2=>(by grind)) fun c1=>(by grind))<| cl h (by grind))
end
def ml:Ctr Un:=⟨[.one (.obj 0 0),.enc 5],[],[.ob 1 [(1,1,0)],.ob 0 []],[0,1],fun o r E rm m K=>E.n=m.S∧LOp.Ok o∧K ⟨(.tuple #[]),(some (.t [])),[.ob 1 (((E.on m).beside o).pd),.ob 0 (((E.on m).beside o).mem)],[],[]⟩⟩
def AF(o:LOp)(r:Nat→Nat)(E:Pd)(rm:Nat→Nat)(m:Mem)(Q:Ou Un→Prop):Prop:=
 Pd.Ok E→
 Mem.Wf m→
 ∀(gv:Nat),
 ∀x9:Bool,x9=((o.k:Int)==6)→
 split x9 (
  (0≤o.c∧o.c<4294967296)∧
  ∀(m1:Mem),m1=(m.write false (i64.wrap o.a) (i64.wrap ((o.b:Int).tmod 1024)) o.c)→
  Mem.Wf m1→
  Q ⟨(.tuple #[]),(some (.t [])),[.ob 1 E,.ob 0 m1],[],[]⟩) (
  ∀RA:Bool,RA=((o.k:Int)==7)→
  split RA (
   E.n=m.S∧
   ∀(NJ:Nat),
   ∃J:Bool→Prop,(
    split (((E.on m).bc (i64.wrap o.a))==0) (
     split (((E.on m).entry (i64.wrap o.a)).typ==1) (
      J (((E.on m).entry (i64.wrap o.a)).state==1)) (
      J false)) (
     J false))∧∀(OJ:Nat→Value)(R9:Bool),J R9→
   split R9 (
    ∀i:Int,i=0→
    ∃I:Nat→Int→Mem→Prop,(∃m1,I m1 i m)∧∀(m1:Nat)(Ry:Nat→Value)(i1:Int)(s1:Mem),I m1 i1 s1→
    Mem.Wf s1→
    split (decide (i1<26)) (
     (0≤(0:Int)∧(0:Int)<4294967296)∧
     ∀(m3:Mem),m3=(s1.write true (i64.wrap o.a) (i64.wrap (11+i1)) 0)→
     Mem.Wf m3→
     ∀i2:Int,i2=(i64.wrap (i1+1))→
     ∃m2,m2<m1∧I m2 i2 m3) (
     E.n=s1.S∧
     ∀(E1:Pd),E1=((E.on s1).setState (i64.wrap o.a) 2).pd→
     Pd.Ok E1→
     ∀(m3:Mem),m3=((E.on s1).setState (i64.wrap o.a) 2).mem→
     Mem.Wf m3→
     Q ⟨(.tuple #[]),(some (.t [])),[.ob 1 E1,.ob 0 m3],[],[]⟩)) (
    Q ⟨(.tuple #[]),(some (.t [])),[.ob 1 E,.ob 0 m],[],[]⟩)) (
   ∀x64:Bool,x64=((o.k:Int)==8)→
   split x64 (
    E.n=m.S∧
    ∀(E1:Pd),E1=((E.on m).setState (i64.wrap o.a) 3).pd→
    Pd.Ok E1→
    ∀(m1:Mem),m1=((E.on m).setState (i64.wrap o.a) 3).mem→
    Mem.Wf m1→
    Q ⟨(.tuple #[]),(some (.t [])),[.ob 1 E1,.ob 0 m1],[],[]⟩) (
    ∀U2:Bool,U2=((o.k:Int)==9)→
    split U2 (
     E.n=m.S∧
     split ((E.on m).oA (i64.wrap o.a)) (
      E.n=m.S∧
      ∀(E1:Pd),E1=((E.on m).dY (i64.wrap o.a)).pd→
      Pd.Ok E1→
      ∀(m1:Mem),m1=((E.on m).dY (i64.wrap o.a)).mem→
      Mem.Wf m1→
      Q ⟨(.tuple #[]),(some (.t [])),[.ob 1 E1,.ob 0 m1],[],[]⟩) (
      Q ⟨(.tuple #[]),(some (.t [])),[.ob 1 E,.ob 0 m],[],[]⟩)) (
     Q ⟨(.tuple #[]),(some (.t [])),[.ob 1 E,.ob 0 m],[],[]⟩))))
theorem AG:Vc2 Un prog (aQ [(14,aY),(42,iY),(18,cQ),(43,mo),(44,kd),(45,xv)]) [6,9,24,64,71] Tryz.f11 (.r' (.r' (.two (.r' (.two (.node [] none [] [(3,[2]),(7,[2]),(11,[2])] .leaf .leaf) (.r' (.two (.r' (.two (.node [] (some ⟨[(45,(.one .bool))],[],upN 34 12,[]⟩) [] [] .leaf .leaf) (.two (.two (.r' (.two (.node [] (some ⟨[(6,(.one (.int .i64)))],[],[6]++upN 46 13,[(1,(.ob 0))]⟩) [] [] (.r' (.two (.two (.node [] none [] [(3,[2])] .leaf .leaf) .leaf) .leaf)) .leaf) .leaf)) .leaf) .leaf))) .leaf)))) .leaf))) [] ml=(∀(o:LOp) r (E:Pd) rm (m:Mem),∀Q,(ml.body o r E rm m Q)→AF o r E rm m Q):=by kernel_rfl
theorem AE:LV Un prog 11 ml:=verify Tryz.func11 aa (tb:= [(14,aY),(42,iY),(18,cQ),(43,mo),(44,kd),(45,xv)]) ⟨cU,tJ,gV,AK,Fq,KG,trivial⟩ (by kernel_rfl) (AG.mpr fun o r E rm m Q h=>by
 obtain⟨NL,NQ,h⟩:=h
 exact fun f1 f2=>(by obtain⟨ho1,Q4,ho3,ho4⟩:=NQ;(have hwa:i64.wrap o.a=o.a:=aq (by omega));(have hwb:i64.wrap (Int.tmod o.b 1024)=o.b % 1024:=by rw [Int.tmod_eq_emod_of_nonneg Q4.1,aq (by omega)]);simp only [hwa,hwb];exact fun gv=>allEq<| aC (fun c1=>af ‹_› fun s3 m1 Oe f4=>au h rfl (ae (uO1 (by rw [DB.beside,if_pos ‹_›];subst_vars;(rw [DB.jS (by simp only [Mem.bh,Mem.ig])];exact Pd.cj _ _ NL))) (ae (uO0 (by rw [DB.beside,if_pos ‹_›];subst_vars;rfl)) rfl)) rfl) fun c1=>allEq<| aC (fun c2=>af ‹_› fun s5 NJ=>⟨fun R9=>(R9=(E.on m).lL o.a),aC (fun c3=>aC (fun c4=>(by simp_all [DB.lL,DB.entry,DB.bc])) fun c4=>(by simp_all [DB.lL,DB.entry,DB.bc])) fun c3=>(by simp_all [DB.lL,DB.entry,DB.bc]),fun _ R9 hx=>ab (fun c5=>allEq<| ⟨fun m1 i1 s1=>(m1=(26 - i1).toNat)∧(0≤i1∧i1≤26)∧(s1=m.wrs o.a 11 ((List.replicate 26 (0:Int)).take i1.toNat)),⟨_,rfl,(by omega),(by rfl)⟩,fun m1 _ i1 s1 ⟨hm,h1,h2⟩=>fun f6=>ar (fun c6=>af (by omega) fun s7 m3 Pq f8=>allEq<| ⟨_,(by rw [aq (by omega)];omega),rfl,(by rw [aq (by omega)];omega),(by rw [Gn (by omega),← h2];assumption)⟩) fun c6=>af (by rw [h2,Mem.ig];exact NL) fun s9 E1 Pe f10 m3 Pq f11=>au h rfl (ae (uO1 (by rw [DB.beside,if_neg ‹_›,if_pos ‹_›,if_pos (by rw [← hx];assumption)];(have h9:s1=m.wrs o.a 11 (List.replicate 26 0):=by rw [h2,List.take_of_length_le];show 26≤i1.toNat;omega);subst h9;subst_vars;rfl)) (ae (uO0 (by rw [DB.beside,if_neg ‹_›,if_pos ‹_›,if_pos (by rw [← hx];assumption)];(have h9:s1=m.wrs o.a 11 (List.replicate 26 0):=by rw [h2,List.take_of_length_le];show 26≤i1.toNat;omega);subst h9;subst_vars;rfl)) rfl)) rfl⟩) fun c5=>au h rfl (ae (uO1 (by rw [DB.beside,if_neg ‹_›,if_pos ‹_›,if_neg (fun e=>Bool.noConfusion ((hx.trans e).symm.trans (by assumption:R9=false)))];subst_vars;exact Pd.cj _ _ NL)) (ae (uO0 (by rw [DB.beside,if_neg ‹_›,if_pos ‹_›,if_neg (fun e=>Bool.noConfusion ((hx.trans e).symm.trans (by assumption:R9=false)))];subst_vars;rfl)) rfl)) rfl⟩) fun c2=>allEq<| aC (fun c7=>af ‹_› fun Sr E1 Pe f13 m1 Oe f14=>au h rfl (ae (uO1 (by rw [DB.beside,if_neg ‹_›,if_neg ‹_›,if_pos ‹_›];subst_vars;rfl)) (ae (uO0 (by rw [DB.beside,if_neg ‹_›,if_neg ‹_›,if_pos ‹_›];subst_vars;rfl)) rfl)) rfl) fun c7=>allEq<| aC (fun c8=>af ‹_› fun Tu=>ab (fun c9=>af ‹_› fun Vc E1 Pe f17 m1 Oe f18=>au h rfl (ae (uO1 (by rw [DB.beside,if_neg ‹_›,if_neg ‹_›,if_neg ‹_›,if_pos ‹_›,if_pos ‹_›];subst_vars;rfl)) (ae (uO0 (by rw [DB.beside,if_neg ‹_›,if_neg ‹_›,if_neg ‹_›,if_pos ‹_›,if_pos ‹_›];subst_vars;rfl)) rfl)) rfl) fun c9=>au h rfl (ae (uO1 (by rw [DB.beside,if_neg ‹_›,if_neg ‹_›,if_neg ‹_›,if_pos ‹_›,if_neg (by simp [*])];subst_vars;exact Pd.cj _ _ NL)) (ae (uO0 (by rw [DB.beside,if_neg ‹_›,if_neg ‹_›,if_neg ‹_›,if_pos ‹_›,if_neg (by simp [*])];subst_vars;rfl)) rfl)) rfl) fun c8=>au h rfl (ae (uO1 (by rw [DB.beside,if_neg ‹_›,if_neg ‹_›,if_neg ‹_›,if_neg ‹_›];subst_vars;exact Pd.cj _ _ NL)) (ae (uO0 (by rw [DB.beside,if_neg ‹_›,if_neg ‹_›,if_neg ‹_›,if_neg ‹_›];subst_vars;rfl)) rfl)) rfl))
end
section
set_option maxRecDepth 100000
set_option maxHeartbeats 1000000
attribute [local irreducible] Vc2 VcD
def xi:Ctr Un:=⟨[.one (.int .i64),.one (.int .i64)],[],[],[],fun s i K=>split (okM s i) (∀(rN:Nat→Nat),K ⟨(.tuple #[(.pointer (some (Addr.mk (rN 0) 0 none))),(.int .i64 0)]),(some (.t [(some (.obj 0 0 0)),none])),[],[(.ob 0 rN (Mem.fresh s.toNat i.toNat))],[]⟩) (K ⟨(.tuple #[(.pointer none),(.int .i64 1)]),(some (.t [none,none])),[],[],[]⟩)⟩
theorem Kx:LV Un prog 27 xi:=by
 show ∀(s:Int)(i:Int),∀Q:Ou Un→Prop,(split (okM s i) (∀(rN:Nat→Nat),Q ⟨(.tuple #[(.pointer (some (Addr.mk (rN 0) 0 none))),(.int .i64 0)]),(some (.t [(some (.obj 0 0 0)),none])),[],[(.ob 0 rN (Mem.fresh s.toNat i.toNat))],[]⟩) (Q ⟨(.tuple #[(.pointer none),(.int .i64 1)]),(some (.t [none,none])),[],[],[]⟩))→∀(X:Nat→Nat→Prop)(w:World),Sat (U:=Un) [] X w→ax (U:=Un) [] fr0 []→Calls prog 27 #[(.int .i64 s),(.int .i64 i)] w (aU (U:=Un) [] [] X w Q)
 intro s i Q hQ X w hs hl
 cases hm:okM s i
 ·refine(Jp hm).mono ?_
  rintro e w' ⟨rfl,rfl⟩
  exact aU.pu hs (Ch.refl _ _) (bQ hQ hm) (KnO.tup _ (by simp))
 ·obtain⟨h1,h2⟩:=C7 hm
  exact Is s i Q ⟨⟨h1,h2⟩,fun rN=>bP hQ hm rN⟩ X w hs hl
end
section
set_option maxRecDepth 100000
set_option maxHeartbeats 1000000
attribute [local irreducible] Vc2 VcD
def iZ:Ctr Un:=⟨[.one (.obj 0 0)],[],[.ob 0 []],[],fun rm m K=>∀(rN:Nat→Nat),K ⟨(.pointer (some (Addr.mk (rN 0) 0 none))),(some (.p (.obj 1 0 0))),[],[(.ob 0 rN m)],[]⟩⟩
theorem tM:LV Un prog 51 iZ:=by
 show ∀(rm:Nat→Nat)(m:Mem),∀Q:Ou Un→Prop,(∀(rN:Nat→Nat),Q ⟨(.pointer (some (Addr.mk (rN 0) 0 none))),(some (.p (.obj 1 0 0))),[],[(.ob 0 rN m)],[]⟩)→∀(X:Nat→Nat→Prop)(w:World),Sat (U:=Un) [(.ob 0 rm m)] X w→ax (U:=Un) [(.ob 0 rm m)] fr0 []→Calls prog 51 #[(.pointer (some (Addr.mk (rm 0) 0 none)))] w (aU (U:=Un) [(.ob 0 rm m)] [] X w Q)
 intro rm m Q hQ X w hs hl
 obtain⟨L,hg,hM,hX⟩:=lI hs
 rw [hg]
 refine(Bw hM).mono ?_
 rintro e w' ⟨u,rfl,L',rfl,hM',hz,q⟩
 exact aU.uQ (Z:=L'.X) hs q (show RS (U:=Un) L'.X w' (.ob 0 (fun _=>L'.g) m)from(⟨L',rfl,fun _=>Iff.rfl,hM'⟩:cT 0 (fun _=>L'.g) m L'.X w')) hz (hQ (fun _=>L'.g)) rfl (fun _ _ h=>by cases h)
def je:Ctr Un:=⟨[.one (.obj 0 0),.one (.sl 1)],[(2,1)],[.ob 0 [],.lst 1 false 29,.ob 1 []],[],fun rm m A c l r E K=>l=(E.on m).words.map U32.mk∧E.n=m.S∧∀(rN:Nat→Nat),K ⟨(.tuple #[(.pointer (some (Addr.mk (rN 0) 0 none))),(.int .i64 0)]),(some (.t [(some (.obj 3 0 0)),none])),[],[(.ob 1 rN E)],[(.l 3 1,.p (.obj 0 0 0))]⟩⟩
theorem tS:LV Un prog 50 je:=by
 show ∀(rm:Nat→Nat)(m:Mem)(A:Option Addr)(c:Nat)(l:List U32)(r:Nat→Nat)(E:Pd),∀Q:Ou Un→Prop,(l=(E.on m).words.map U32.mk∧E.n=m.S∧∀(rN:Nat→Nat),Q ⟨(.tuple #[(.pointer (some (Addr.mk (rN 0) 0 none))),(.int .i64 0)]),(some (.t [(some (.obj 3 0 0)),none])),[],[(.ob 1 rN E)],[(.l 3 1,.p (.obj 0 0 0))]⟩)→∀(X:Nat→Nat→Prop)(w:World),Sat (U:=Un) [(.ob 0 rm m),(.lst 1 false 29 A c l),(.ob 1 r E)] X w→ax (U:=Un) [(.ob 0 rm m),(.lst 1 false 29 A c l),(.ob 1 r E)] fr0 []→Calls prog 50 #[(.pointer (some (Addr.mk (rm 0) 0 none))),(.slice A l.length c)] w (aU (U:=Un) [(.ob 0 rm m),(.lst 1 false 29 A c l),(.ob 1 r E)] [] X w Q)
 intro rm m A c l r E Q hQ X w hs hl
 obtain⟨hl0,hn,hQ⟩:=hQ
 obtain⟨L,hg,hX,hM⟩:=(hs.res 0 _ rfl:cT 0 rm m (X 0) w)
 have hr:Rd w (X 1) A l.length c l:=hs.res 1 _ rfl
 have hE:E.Ok:=LW (t:=1) (r:=r) (s:=E) (hs.res 2 _ rfl)
 have OG:∀p,p<(E.on m).S→p<E.n:=fun p hp=>by rw [hn];exact hp
 have hD:(E.on m).Ok:=⟨fun p hp=>⟨(hE.ent p (OG p hp)).1,by have h8:=(hE.ent p (OG p hp)).2;rw [hn]at h8;exact h8⟩,hE.av⟩
 have hw:fW l:=by rw [hl0];exact DB.DM hD
 rw [hg]
 refine(MN hM hr hw).mono ?_
 rintro e w' ⟨u,rfl,p,rfl,Pv,hbad,q⟩
 have hlw:=DB.Bx hD
 rw [← hl0]at hlw
 obtain⟨he,hb,T8⟩:=hlw
 obtain⟨g,a,rfl,hDB,We,ha1⟩:=Pv he
 have Vq:PdP w' g a L.g E:=PdP.congr hDB.pd hn hb.symm (fun p hp=>(T8 p hp).symm)
 have he:DB.ay m l=0:=he
 rw [he]
 exact aU.uQ (Z:=fun k=>k=g∨k=a) hs q (show RS (U:=Un) (fun k=>k=g∨k=a) w' (.ob 1 (fun i=>if i=0 then g else L.g) E)from(⟨a,fun k=>Iff.rfl,Vq⟩:cT 1 (fun i=>if i=0 then g else L.g) E (fun k=>k=g∨k=a) w')) (fun k hk=>by rcases hk with rfl | rfl;exact We;exact ha1) (hQ (fun i=>if i=0 then g else L.g)) (KnO.pair rfl) (wq ⟨_,_,_,rfl,show some (Value.pointer (some ⟨rm 0,0,none⟩))=some (.pointer (some ⟨L.g,0,none⟩))by rw [hg]⟩)
def mh:Ctr Un:=⟨[.one (.obj 0 0),.enc 5],[],[.ob 1 [(1,1,0)],.ob 0 []],[],fun o r E rm m K=>E.n=m.S∧o.k=10∧∀(rN:Nat→Nat)(rM:Nat→Nat),K ⟨(.pointer (some (Addr.mk (rN 0) 0 none))),(some (.p (.obj 2 0 0))),[],[(.ob 1 rN E),(.ob 0 rM m)],[(.l 2 1,.p (.obj 3 0 0))]⟩⟩
def Au(o:LOp)(r:Nat→Nat)(E:Pd)(rm:Nat→Nat)(m:Mem)(Q:Ou Un→Prop):Prop:=
 Pd.Ok E→
 Mem.Wf m→
 ∀(gv:Nat),
 ∀x9:Bool,x9=((o.k:Int)==10)→
 split x9 (
  E.n=m.S∧
  ∀(rN:Nat→Nat)(rM:Nat→Nat),
  ∀(E1:Pd),E1=E→
  Pd.Ok E1→
  ∀(m1:Mem),m1=m→
  Mem.Wf m1→
  Q ⟨(.pointer (some (Addr.mk (rN 0) 0 none))),(some (.p (.obj 2 0 0))),[],[(.ob 1 rN E1),(.ob 0 rM m1)],[(.l 2 1,.p (.obj 3 0 0))]⟩) (
  ∀PT:Bool,PT=((o.k:Int)==11)→
  split PT (
   ∀(rN:Nat→Nat),
   ∀(m1:Mem),m1=m→
   Mem.Wf m1→
   E.n=m.S∧
   ∀(A:Option Addr)(c:Nat),
   ∀(l:List U32),l=(E.on m).words.map U32.mk→
   l=(E.on m1).words.map U32.mk∧
   E.n=m1.S∧
   ∀(RJ:Nat→Nat),
   ∀(E1:Pd),E1=E→
   Pd.Ok E1→
   ∃J:Bool→Prop,(
    J true)∧∀(NU:Nat→Value)(P4:Bool),J P4→
   split P4 (
    Q ⟨(.pointer (some (Addr.mk (RJ 0) 0 none))),none,[],[(.ob 0 rN m1),(.lst 1 true 29 A c l)],[]⟩) (
    Q ⟨(.pointer (some (Addr.mk (r 0) 0 none))),(some (.p (.obj 0 0 0))),[],[],[]⟩)) (
   Q ⟨(.pointer (some (Addr.mk (r 0) 0 none))),(some (.p (.obj 0 0 0))),[],[],[]⟩))
theorem Av:Vc2 Un prog (aQ [(17,jf),(14,aY),(51,iZ),(52,jc),(50,je)]) [9,13] Tryz.f13 (.r' (.two (.r' (.two (.r' (.r' (.r' (.two (.r' (.two (.node [] (some ⟨[(29,(.one .bool))],[],upN 24 6,[]⟩) [] [] .leaf .leaf) .leaf)) .leaf)))) .leaf)) .leaf)) [1000000,3,4] mh=(∀(o:LOp) r (E:Pd) rm (m:Mem),∀Q,(mh.body o r E rm m Q)→Au o r E rm m Q):=by kernel_rfl
theorem At:LV Un prog 13 mh:=verify Tryz.func13 aa (tb:= [(17,jf),(14,aY),(51,iZ),(52,jc),(50,je)]) ⟨tW,cU,tM,tN,tS,trivial⟩ (by kernel_rfl) (Av.mpr fun o r E rm m Q h=>by
 obtain⟨NL,NQ,h⟩:=h
 exact fun f1 f2 gv=>allEq<| aC (fun c1=>af ‹_› fun s3 rN rM E1 Pe f4 m1 Oe f5=>au (h rN rM) rfl rfl (ae (rO1 (by grind)) (ae (rO0 (by grind)) rfl))) fun c1=>(by exfalso;exact c1 NQ))
def mf:Ctr Un:=⟨[.one (.obj 0 0),.enc 5],[],[.ob 1 [(1,1,0)],.ob 0 []],[],fun o r E rm m K=>E.n=m.S∧o.k=11∧∀(rN:Nat→Nat)(rM:Nat→Nat),K ⟨(.pointer (some (Addr.mk (rN 0) 0 none))),(some (.p (.obj 2 0 0))),[],[(.ob 1 rN E),(.ob 0 rM m)],[(.l 2 1,.p (.obj 3 0 0))]⟩⟩
def Aq(o:LOp)(r:Nat→Nat)(E:Pd)(rm:Nat→Nat)(m:Mem)(Q:Ou Un→Prop):Prop:=
 Pd.Ok E→
 Mem.Wf m→
 ∀(gv:Nat),
 ∀x9:Bool,x9=((o.k:Int)==10)→
 split x9 (
  E.n=m.S∧
  ∀(rN:Nat→Nat)(rM:Nat→Nat),
  ∀(E1:Pd),E1=E→
  Pd.Ok E1→
  ∀(m1:Mem),m1=m→
  Mem.Wf m1→
  False) (
  ∀PT:Bool,PT=((o.k:Int)==11)→
  split PT (
   ∀(rN:Nat→Nat),
   ∀(m1:Mem),m1=m→
   Mem.Wf m1→
   E.n=m.S∧
   ∀(A:Option Addr)(c:Nat),
   ∀(l:List U32),l=(E.on m).words.map U32.mk→
   l=(E.on m1).words.map U32.mk∧
   E.n=m1.S∧
   ∀(RJ:Nat→Nat),
   ∀(E1:Pd),E1=E→
   Pd.Ok E1→
   ∃J:Bool→Prop,(
    J true)∧∀(NU:Nat→Value)(P4:Bool),J P4→
   split P4 (
    Q ⟨(.pointer (some (Addr.mk (RJ 0) 0 none))),(some (.p (.obj 2 0 0))),[],[(.ob 1 RJ E1),(.ob 0 rN m1)],[(.l 2 1,.p (.obj 3 0 0))]⟩) (
    Q ⟨(.pointer (some (Addr.mk (r 0) 0 none))),(some (.p (.obj 0 0 0))),[],[],[]⟩)) (
   Q ⟨(.pointer (some (Addr.mk (r 0) 0 none))),(some (.p (.obj 0 0 0))),[],[],[]⟩))
theorem Ar:Vc2 Un prog (aQ [(17,jf),(14,aY),(51,iZ),(52,jc),(50,je)]) [9,13] Tryz.f13 (.r' (.two (.r' (.two (.r' (.r' (.r' (.two (.r' (.two (.node [] (some ⟨[(29,(.one .bool))],[],upN 24 6,[]⟩) [] [] .leaf .leaf) .leaf)) .leaf)))) .leaf)) .leaf)) [1000000,5,3] mf=(∀(o:LOp) r (E:Pd) rm (m:Mem),∀Q,(mf.body o r E rm m Q)→Aq o r E rm m Q):=by kernel_rfl
theorem Ap:LV Un prog 13 mf:=verify Tryz.func13 aa (tb:= [(17,jf),(14,aY),(51,iZ),(52,jc),(50,je)]) ⟨tW,cU,tM,tN,tS,trivial⟩ (by kernel_rfl) (Ar.mpr fun o r E rm m Q h=>by
 obtain⟨NL,NQ,h⟩:=h
 exact fun f1 f2 gv=>allEq<| aC (fun c1=>(by exfalso;omega)) fun c1=>allEq<| aC (fun c2 rN m1 Oe f3=>af (by subst_vars;assumption) fun s4 A c l QA=>af (by subst_vars;rfl) fun s5=>af (by subst_vars;assumption) fun s6 RJ E1 Pe f7=>cY true ((by grind))<| dN<| au (h RJ rN) rfl rfl (ae (rO1 (by subst_vars;rfl)) (ae (rO0 (by subst_vars;rfl)) rfl))) fun c2=>(by exfalso;exact c2 NQ))
def l9:Ctr Un:=⟨[.one (.obj 0 0),.enc 5],[],[.ob 1 [(1,1,0)],.ob 0 []],[],fun o r E rm m K=>E.n=m.S∧(¬o.k=10∧¬o.k=11)∧K ⟨(.pointer (some (Addr.mk (r 0) 0 none))),(some (.p (.obj 0 0 0))),[],[],[]⟩⟩
def Am(o:LOp)(r:Nat→Nat)(E:Pd)(rm:Nat→Nat)(m:Mem)(Q:Ou Un→Prop):Prop:=
 Pd.Ok E→
 Mem.Wf m→
 ∀(gv:Nat),
 ∀x9:Bool,x9=((o.k:Int)==10)→
 split x9 (
  E.n=m.S∧
  ∀(rN:Nat→Nat)(rM:Nat→Nat),
  ∀(E1:Pd),E1=E→
  Pd.Ok E1→
  ∀(m1:Mem),m1=m→
  Mem.Wf m1→
  Q ⟨(.pointer (some (Addr.mk (rN 0) 0 none))),none,[],[],[]⟩) (
  ∀PT:Bool,PT=((o.k:Int)==11)→
  split PT (
   ∀(rN:Nat→Nat),
   ∀(m1:Mem),m1=m→
   Mem.Wf m1→
   E.n=m.S∧
   ∀(A:Option Addr)(c:Nat),
   ∀(l:List U32),l=(E.on m).words.map U32.mk→
   l=(E.on m1).words.map U32.mk∧
   E.n=m1.S∧
   ∀(RJ:Nat→Nat),
   ∀(E1:Pd),E1=E→
   Pd.Ok E1→
   ∃J:Bool→Prop,(
    J true)∧∀(NU:Nat→Value)(P4:Bool),J P4→
   split P4 (
    Q ⟨(.pointer (some (Addr.mk (RJ 0) 0 none))),none,[],[],[]⟩) (
    Q ⟨(.pointer (some (Addr.mk (r 0) 0 none))),(some (.p (.obj 0 0 0))),[],[],[]⟩)) (
   Q ⟨(.pointer (some (Addr.mk (r 0) 0 none))),(some (.p (.obj 0 0 0))),[],[],[]⟩))
theorem Ao:Vc2 Un prog (aQ [(17,jf),(14,aY),(51,iZ),(52,jc),(50,je)]) [9,13] Tryz.f13 (.r' (.two (.r' (.two (.r' (.r' (.r' (.two (.r' (.two (.node [] (some ⟨[(29,(.one .bool))],[],upN 24 6,[]⟩) [] [] .leaf .leaf) .leaf)) .leaf)))) .leaf)) .leaf)) [] l9=(∀(o:LOp) r (E:Pd) rm (m:Mem),∀Q,(l9.body o r E rm m Q)→Am o r E rm m Q):=by kernel_rfl
theorem Al:LV Un prog 13 l9:=verify Tryz.func13 aa (tb:= [(17,jf),(14,aY),(51,iZ),(52,jc),(50,je)]) ⟨tW,cU,tM,tN,tS,trivial⟩ (by kernel_rfl) (Ao.mpr fun o r E rm m Q h=>by
 obtain⟨NL,NQ,h⟩:=h
 exact fun f1 f2 gv=>allEq<| aC (fun c1=>(by exfalso;exact NQ.1 c1)) fun c1=>allEq<| aC (fun c2=>(by exfalso;exact NQ.2 c2)) fun c2=>h)
def kQ:Ctr Un:=⟨[.one (.any),.enc 5],[(0,9),(1,5)],[.ob 9 [],.ob 5 []],[0],fun pv o r s rk kk K=>Value.pointer (some (Addr.mk (Sv.pD s) 0 none))=pv∧LOp.Ok o∧K ⟨(.int .i64 (s.D.dC o)),none,[.ob 9 ({s with D:=DB.call kk s.D o})],[],[]⟩⟩
theorem xm:LV Un prog 9 kQ:=by
 show ∀(pv:Value)(o:LOp)(r:Nat→Nat)(s:Sv)(rk:Nat→Nat)(kk:List Int),∀Q:Ou Un→Prop,(Value.pointer (some (Addr.mk (Sv.pD s) 0 none))=pv∧LOp.Ok o∧Q ⟨(.int .i64 (s.D.dC o)),none,[.ob 9 ({s with D:=DB.call kk s.D o})],[],[]⟩)→∀(X:Nat→Nat→Prop)(w:World),Sat (U:=Un) [(.ob 9 r s),(.ob 5 rk kk)] X w→ax (U:=Un) [(.ob 9 r s),(.ob 5 rk kk)] fr0 []→Calls prog 9 #[pv,(.agg #[(.int .i64 o.k),(.int .u32 o.a),(.int .u32 o.b),(.int .u32 o.c),(.int .u32 o.d)])] w (aU (U:=Un) [(.ob 9 r s),(.ob 5 rk kk)] [0] X w Q)
 intro pv o r s rk kk Q hQ X w hs hl
 obtain⟨Vo,ho,hQ⟩:=hQ
 subst Vo
 refine svD (rest:= [.ob 5 rk kk]) (k1:=none) rfl (DB.call kk s.D o) [0,1] [.ob 1 (DB.call kk s.D o).pd,.ob 0 (DB.call kk s.D o).mem] (by simp) hs rfl (fun _ _=>rfl) (fun r1 rm X1 Pn Px e=>?_) hQ trivial
 rw [e.1];exact Az o r1 s.D.pd rm s.D.mem rk kk (fun o=>o=_) ⟨rfl,ho,rfl⟩ X1 w Pn Px
def kS:Ctr Un:=⟨[.one (.any),.enc 5],[(0,9)],[.ob 9 []],[0],fun pv o r s K=>Value.pointer (some (Addr.mk (Sv.pD s) 0 none))=pv∧LOp.Ok o∧K ⟨(.tuple #[]),(some (.t [])),[.ob 9 ({s with D:=s.D.beside o})],[],[]⟩⟩
theorem xn:LV Un prog 11 kS:=by
 show ∀(pv:Value)(o:LOp)(r:Nat→Nat)(s:Sv),∀Q:Ou Un→Prop,(Value.pointer (some (Addr.mk (Sv.pD s) 0 none))=pv∧LOp.Ok o∧Q ⟨(.tuple #[]),(some (.t [])),[.ob 9 ({s with D:=s.D.beside o})],[],[]⟩)→∀(X:Nat→Nat→Prop)(w:World),Sat (U:=Un) [(.ob 9 r s)] X w→ax (U:=Un) [(.ob 9 r s)] fr0 []→Calls prog 11 #[pv,(.agg #[(.int .i64 o.k),(.int .u32 o.a),(.int .u32 o.b),(.int .u32 o.c),(.int .u32 o.d)])] w (aU (U:=Un) [(.ob 9 r s)] [0] X w Q)
 intro pv o r s Q hQ X w hs hl
 obtain⟨Vo,ho,hQ⟩:=hQ
 subst Vo
 refine svD (rest:= []) (k1:=some (.t [])) rfl (s.D.beside o) [0,1] [.ob 1 (s.D.beside o).pd,.ob 0 (s.D.beside o).mem] (by simp) hs rfl (fun _ _=>rfl) (fun r1 rm X1 Pn Px e=>?_) hQ (KnO.tup _ (by simp))
 rw [e.1];exact AE o r1 s.D.pd rm s.D.mem (fun o=>o=_) ⟨rfl,ho,rfl⟩ X1 w Pn Px
def l8:Ctr Un:=⟨[.one (.any),.enc 5],[(0,9)],[.ob 9 []],[0],fun pv o r s K=>Value.pointer (some (Addr.mk (Sv.pD s) 0 none))=pv∧∀(s1:Sv),s1.D=s.D→K ⟨(.pointer (some (Addr.mk (Sv.pD s1) 0 none))),none,[.ob 9 s1],[],[]⟩⟩
theorem Ak:LV Un prog 13 l8:=by
 show ∀(pv:Value)(o:LOp)(r:Nat→Nat)(s:Sv),∀Q:Ou Un→Prop,(Value.pointer (some (Addr.mk (Sv.pD s) 0 none))=pv∧∀(s1:Sv),s1.D=s.D→Q ⟨(.pointer (some (Addr.mk (Sv.pD s1) 0 none))),none,[.ob 9 s1],[],[]⟩)→∀(X:Nat→Nat→Prop)(w:World),Sat (U:=Un) [(.ob 9 r s)] X w→ax (U:=Un) [(.ob 9 r s)] fr0 []→Calls prog 13 #[pv,(.agg #[(.int .i64 o.k),(.int .u32 o.a),(.int .u32 o.b),(.int .u32 o.c),(.int .u32 o.d)])] w (aU (U:=Un) [(.ob 9 r s)] [0] X w Q)
 intro pv o r s Q hQ X w hs hl
 obtain⟨Vo,hQ⟩:=hQ
 subst Vo
 by_cases h10:o.k=10
 ·obtain⟨r1,rm,X1,Pn,Px,e,_,_⟩:=nX hs
  rw [e.1]
  have hk:=h10
  refine(At o r1 s.D.pd rm s.D.mem (fun out=>∃(rN rM:Nat→Nat),out=⟨(.pointer (some (Addr.mk (rN 0) 0 none))),(some (.p (.obj 2 0 0))),[],[(.ob 1 rN s.D.pd),(.ob 0 rM s.D.mem)],[(.l 2 1,.p (.obj 3 0 0))]⟩) ⟨rfl,hk,fun rN rM=>⟨rN,rM,rfl⟩⟩ X1 w Pn Px).mono ?_
  rintro e w' ⟨out,rs',X',he,⟨rN,rM,rfl⟩,Oq,hp⟩
  obtain rfl:svO r1 rm s.D.pd s.D.mem []=rs':=Option.some.inj Oq
  have TA:rN 1=rM 0:=by
   obtain⟨t,r,s',h1,h2⟩:=hp.kc (.l 2 1) (.p (.obj 3 0 0)) (by simp) (by simp)
   have h1:some (Res.ob (U:=Un) 1 rN s.D.pd)=some (.ob t r s'):=h1
   cases h1
   have h2:some (Value.pointer (some ⟨rM 0,0,none⟩))=some (.pointer (some ⟨rN 1,0,none⟩)):=h2
   simpa using h2.symm
  exact svN (k1:=some (.p (.obj 2 0 0))) rfl hs rfl hp TA he (hQ ⟨s.D,rN 0,rM 0⟩ rfl) trivial
 by_cases h11:o.k=11
 ·obtain⟨r1,rm,X1,Pn,Px,e,_,_⟩:=nX hs
  rw [e.1]
  have hk:=h11
  refine(Ap o r1 s.D.pd rm s.D.mem (fun out=>∃(rN rM:Nat→Nat),out=⟨(.pointer (some (Addr.mk (rN 0) 0 none))),(some (.p (.obj 2 0 0))),[],[(.ob 1 rN s.D.pd),(.ob 0 rM s.D.mem)],[(.l 2 1,.p (.obj 3 0 0))]⟩) ⟨rfl,hk,fun rN rM=>⟨rN,rM,rfl⟩⟩ X1 w Pn Px).mono ?_
  rintro e w' ⟨out,rs',X',he,⟨rN,rM,rfl⟩,Oq,hp⟩
  obtain rfl:svO r1 rm s.D.pd s.D.mem []=rs':=Option.some.inj Oq
  have TA:rN 1=rM 0:=by
   obtain⟨t,r,s',h1,h2⟩:=hp.kc (.l 2 1) (.p (.obj 3 0 0)) (by simp) (by simp)
   have h1:some (Res.ob (U:=Un) 1 rN s.D.pd)=some (.ob t r s'):=h1
   cases h1
   have h2:some (Value.pointer (some ⟨rM 0,0,none⟩))=some (.pointer (some ⟨rN 1,0,none⟩)):=h2
   simpa using h2.symm
  exact svN (k1:=some (.p (.obj 2 0 0))) rfl hs rfl hp TA he (hQ ⟨s.D,rN 0,rM 0⟩ rfl) trivial
 refine svD (rest:= []) (k1:=some (.p (.obj 0 0 0))) rfl s.D [] [] (by simp) hs rfl (fun _ _=>rfl) (fun r1 rm X1 Pn Px e=>?_) (hQ s rfl) trivial
 rw [e.1];exact Al o r1 s.D.pd rm s.D.mem (fun o=>o=_) ⟨rfl,⟨h10,h11⟩,rfl⟩ X1 w Pn Px
end
end Go.Proofs.YtinhphjfnedhgaaGreatDoor
namespace Go.Proofs.YtinhphjfnedhgaaGreatDoor
open Go.Proofs.Tryz (prog)
open Go Go.RowKit V
open Go.IntKind (i64 u32 u64)
section
namespace Mem
theorem oh {m m':Mem} {s:Bool} {p:Int}(hh:m'.has s p=m.has s p)(h:m.has s p=true→m'.pg s p.toNat=m.pg s p.toNat)(o:Int):m'.aZ s p o=m.aZ s p o:=by
 unfold aZ
 rw [hh]
 cases hs:m.has s p
 ·rfl
 ·rw [h hs]
theorem dj {m:Mem} {p o v x:Int}(hp:m.has true p=true)(ho:dU o=true):(m.write true p o v).aZ true p x=if x=o then v else m.aZ true p x:=by
 have hh:(m.write true p o v).has true p=true:=by rw [DB.cH];exact hp
 have hw:m.write true p o v=(m.put true p.toNat o.toNat v).tick 1:=by
  unfold write
  exact if_pos (show(m.has true p && dU o)=true by rw [hp,ho];rfl)
 unfold aZ
 rw [hh,hp]
 simp only [Bool.true_and]
 by_cases hx:dU x=true
 ·have h1:=iD hx
  have h2:=iD ho
  rw [if_pos hx,if_pos hx,hw]
  show(if true=true∧p.toNat=p.toNat then(if x.toNat=o.toNat then v else m.pg true p.toNat x.toNat)else _)=_
  rw [if_pos ⟨rfl,rfl⟩]
  by_cases e:x=o
  ·subst e
   rw [if_pos rfl,if_pos rfl]
  ·rw [if_neg (by omega),if_neg e]
 ·rw [if_neg hx,if_neg hx,if_neg (by rintro rfl;exact hx ho)]
theorem ru(p:Int)(b:Bool)(q:Int):∀(l:List Int)(m:Mem)(o:Int),(m.wrs p o l).has b q=m.has b q
 | [],_,_=>rfl
 | x::l,m,o=>by rw [wrs,ru p b q l,DB.cH]
theorem jR {p:Int}:∀(l:List Int)(m:Mem)(o:Int),m.has true p=true→0≤o→o+l.length≤1024→∀x,(m.wrs p o l).aZ true p x=if o≤x∧x<o+l.length then l.getD (x - o).toNat 0 else m.aZ true p x
 | [],m,o,_,_,_,x=>by
  rw [if_neg (by simp only [List.length_nil];omega)];rfl
 | y::l,m,o,hp,h0,hl,x=>by
  simp only [List.length_cons]at hl ⊢
  rw [wrs,jR l (m.write true p o y) (o+1) (by rw [DB.cH];exact hp) (by omega) (by omega),dj hp (by simp [dU];omega)]
  by_cases e:x=o
  ·subst e
   rw [if_neg (by omega),if_pos rfl,if_pos (by omega),show(x - x).toNat=0 by omega];rfl
  ·by_cases h1:o+1≤x∧x<o+1+l.length
   ·rw [if_pos h1,if_pos (by omega),show(x - o).toNat=(x - (o+1)).toNat+1 by omega];rfl
   ·rw [if_neg h1,if_neg e,if_neg (by omega)]
theorem yQ {m:Mem} {p:Int} {l:List Int}(hp:m.has true p=true)(hl:l.length=26):(m.wrs p 11 l).dgW p=l.map U32.mk:=by
 apply List.ext_getElem?
 intro i
 by_cases hi:i<26
 ·rw [Dm hi,jR l m 11 hp (by omega) (by omega),if_pos (by omega),List.getElem?_map,show(11+(i:Int) - 11).toNat=i by omega,List.getD_eq_getElem?_getD,List.getElem?_eq_getElem (by omega)];rfl
 ·rw [List.getElem?_eq_none (by rw [fV];omega),List.getElem?_eq_none (by rw [List.length_map];omega)]
theorem rB {p x:Int}(h:p≠x):∀(l:List Int)(m:Mem)(o:Int),(m.wrs p o l).dgW x=m.dgW x
 | [],_,_=>rfl
 | y::l,m,o=>by rw [wrs,rB h l,gr h]
theorem JD {m:Mem} {p o v x:Int}:(m.write false p o v).dgW x=m.dgW x:=
 wD (bh ..) fun _=>lD (by rintro⟨h,_⟩;cases h)
theorem JC {kk:List Int} {m:Mem} {p x k a:Int} {l:List U32}(h:p≠x):(m.msd kk p k a l).dgW x=m.dgW x:=by
 unfold msd
 split
 ·exact rB h _ _ _
 ·rfl
theorem yP {m:Mem} {p x:Int}(h:p≠x):(m.zero true p).dgW x=m.dgW x:=by
 refine wD (qi ..) fun hs=>?_
 unfold zero
 split
 ·rename_i hp
  have h1:=ai hs
  have h2:=ai hp
  funext o
  show(if true=true∧x.toNat=p.toNat then _ else _)=_
  rw [if_neg (by omega)]
 ·rfl
theorem GK {kk:List Int} {m:Mem} {p k a:Int} {l:List U32}(hw:m.Wf)(hp:m.has true p=true)(h:Dg.ay (m.dgW p)=0)(ha:0≤a∧a<4294967296)(hk:k=1∨k=2∨k=3∨k=4)(hl:fW l):Dg.ay ((m.msd kk p k a l).dgW p)=0∧(m.msd kk p k a l).dgW p=((Dg.load (m.dgW p)).add kk (opW k a l)).save.map U32.mk:=by
 have F:=Dg.oO (K:=kk) (l:=opW k a l) (Dg.fE (mI hw p) h) (vW ha hk hl)
 have e:(m.msd kk p k a l).dgW p=((Dg.load (m.dgW p)).add kk (opW k a l)).save.map U32.mk:=by
  unfold msd
  rw [if_pos h,yQ hp (Dg.iL F.1)]
 exact⟨by rw [e];exact(Dg.uI F).1,e⟩
end Mem
theorem ry {α:Type} {l:List α} {i:Nat} {d:α}(h:i<l.length):l.getD i d∈l:=by
 rw [List.getD_eq_getElem?_getD,List.getElem?_eq_getElem h]
 exact List.getElem_mem ..
namespace DB
def Inv(d:DB):Prop:=∀x,d.aT x=0→Dg.ay (d.mem.dgW x)=0
theorem bW {d:DB} {x:Int}:d.aT x=0↔d.has x=true∧(d.at_ x).typ=1∧(d.at_ x).state=1:=by
 constructor
 ·intro h;exact kI (by omega)
 ·rintro⟨h1,h2,h3⟩
  unfold aT
  simp [h1,h2,h3]
theorem Inv.mono {d d':DB}(h:d.Inv)(hb:∀x,d'.aT x=0→(d.aT x=0∧d'.mem.dgW x=d.mem.dgW x)∨Dg.ay (d'.mem.dgW x)=0):d'.Inv:=fun x hx=>by
 rcases hb x hx with⟨h1,h2⟩ | h1
 ·rw [h2];exact h x h1
 ·exact h1
theorem Jl(m:Mem):(DB.new m).Inv:=fun x hx=>by
 have:=(bW.1 hx).2.1
 cases this
theorem I2 {d:DB} {p t s q:Int}(ht:t≠1)(hq:0≤q)(hs:d.has s=true)(h:((d.take p t s).at_ q).typ=1):(d.take p t s).has q=d.has q∧(d.at_ q).typ=1∧((d.take p t s).at_ q).state=(d.at_ q).state:=by
 unfold take at h ⊢
 split
 ·rename_i he
  rw [if_pos he]at h
  have hp:d.has p=true:=by
   cases hp:d.has p
   ·unfold bM at he;simp [hp]at he
   ·rfl
  have h1:=ai hp
  have h2:=ai hs
  unfold bZ more at h ⊢
  rw [bD h2.1 hq,bD h1.1 h2.1,bD h1.1 hq]at h
  rw [bD h2.1 hq,bD h1.1 h2.1,bD h1.1 hq]
  by_cases e1:q=s
  ·subst e1
   rw [if_pos rfl]at h ⊢
   by_cases e2:q=p
   ·rw [if_pos e2]at h;exact absurd h ht
   ·rw [if_neg e2]at h ⊢;exact⟨rfl,h,rfl⟩
  ·rw [if_neg e1]at h ⊢
   by_cases e2:q=p
   ·rw [if_pos e2]at h;exact absurd h ht
   ·rw [if_neg e2]at h ⊢;exact⟨rfl,h,rfl⟩
 ·rename_i he
  rw [if_neg he]at h
  exact⟨rfl,h,rfl⟩
theorem kp {d:DB} {p t s q:Int}(ht:t≠1)(hs:d.has s=true)(h:(d.take p t s).aT q=0):d.aT q=0:=by
 obtain⟨h1,h2,h3⟩:=bW.1 h
 obtain⟨a,b,c⟩:=I2 ht (ai h1).1 hs h2
 exact bW.2 ⟨a▸h1,b,c▸h3⟩
theorem wK {d:DB} {m:Mem}(hm:m.S=d.mem.S)(x:Int):(d.aE m).aT x=d.aT x:=by
 unfold aT has
 rw [show(d.aE m).S=d.S from hm];rfl
theorem LR(d:DB)(s i q:Int):∃m,d.add s i q=d.aE m∧m.S=d.mem.S:=by
 unfold add
 split
 ·exact⟨_,rfl,Mem.bh ..⟩
 ·exact⟨d.mem,rfl,rfl⟩
theorem Lj(d:DB)(s va:Int)(M:Mp):∃m,d.put s va M=d.aE m∧m.S=d.mem.S:=by
 unfold put
 split
 ·exact⟨_,rfl,Mem.bh ..⟩
 ·exact⟨d.mem,rfl,rfl⟩
theorem fj {d:DB} {f:Mem→Mem}(h:(f d.mem).S=d.mem.S)(x:Int):(d.aD f).aT x=d.aT x:=wK h x
theorem HF(d:DB)(s i q x:Int):(d.add s i q).aT x=d.aT x:=by
 obtain⟨m,h1,h2⟩:=LR d s i q
 rw [h1];exact wK h2 x
theorem vS(d:DB)(s va:Int)(M:Mp)(x:Int):(d.put s va M).aT x=d.aT x:=by
 obtain⟨m,h1,h2⟩:=Lj d s va M
 rw [h1];exact wK h2 x
theorem jH:fW []:=fun x hx=>by cases hx
theorem rR {m:Mem} {s:Bool} {p o v:Int}(h:m.Wf)(hv:0≤v∧v<4294967296):(m.write s p o v).Wf:=by
 unfold Mem.write
 split
 ·refine⟨fun s' i o'=>?_,h.2⟩
  show 0≤(if s'=s∧i=p.toNat then(if o'=o.toNat then v else m.pg s p.toNat o')else m.pg s' i o')∧(if s'=s∧i=p.toNat then(if o'=o.toNat then v else m.pg s p.toNat o')else m.pg s' i o')<4294967296
  split
  ·split
   ·exact hv
   ·exact h.1 _ _ _
  ·exact h.1 _ _ _
 ·exact h
theorem IX {m:Mem} {s s':Bool} {p p':Int}(h:m.Wf):(m.copy s p s' p').Wf:=by
 unfold Mem.copy
 split
 ·refine⟨fun b i o'=>?_,h.2⟩
  show 0≤(if b=s∧i=p.toNat then m.pg s' p'.toNat o' else m.pg b i o')∧(if b=s∧i=p.toNat then m.pg s' p'.toNat o' else m.pg b i o')<4294967296
  split<;>exact h.1 _ _ _
 ·exact h
theorem F2 {d:DB} {s va:Int} {M:Mp}(h:d.mem.Wf):(d.put s va M).mem.Wf:=by
 unfold put
 split
 ·exact rR h (C9 _)
 ·exact h
theorem K3 {d:DB} {s i q:Int}(h:d.mem.Wf):(d.add s i q).mem.Wf:=by
 unfold add
 split
 ·exact rR h (sX _)
 ·exact h
structure Kept(d D:DB)(s:Int):Prop where
 wf:D.mem.Wf
 bd:∀x,D.aT x=0→d.aT x=0∧D.mem.dgW x=d.mem.dgW x
theorem Kept.inv {kk:List Int} {d D:DB} {s k a:Int} {l:List U32}(h:Kept d D s)(hI:d.Inv)(ha:0≤a∧a<4294967296)(hk:k=1∨k=2∨k=3∨k=4)(hl:fW l):(D.aD (fun m=>m.msd kk s k a l)).Inv:=by
 intro x hx
 rw [fj (f:=fun m=>Mem.msd kk m s k a l) (Mem.lH ..) x]at hx
 obtain⟨h1,h2⟩:=h.bd x hx
 show Dg.ay ((D.mem.msd kk s k a l).dgW x)=0
 by_cases e:s=x
 ·subst e
  exact(Mem.GK h.wf (bW.1 hx).1 (by rw [h2];exact hI s h1) ha hk hl).1
 ·rw [Mem.JC e,h2];exact hI x h1
theorem qB {d:DB} {s p b:Int}(hw:d.mem.Wf)(hb:0≤b∧b<4294967296)(h1:¬d.aT s≠0)(h2:¬d.bn p≠0)(h3:¬d.bw p≠0):Kept d ((d.take p 2 s).aD (·.write true p 0 b)) s:=by
 have b1:=kI h1
 have f1:=fq (fw h2) h3
 refine⟨rR (by rw [bx];exact hw) hb,fun x hx=>?_⟩
 rw [fj (f:=fun m=>m.write true p 0 b) (Mem.bh ..)]at hx
 have hx:=kp (by omega) b1.1 hx
 have b2:=bW.1 hx
 refine⟨hx,?_⟩
 show((d.take p 2 s).mem.write true p 0 b).dgW x=_
 rw [Mem.gr (by rintro rfl;omega),bx]
theorem sM {d:DB} {s p i:Int}(hw:d.mem.Wf)(h1:¬d.aT s≠0)(h2:¬d.bn p≠0)(h3:¬d.bw p≠0):Kept d ((d.take p 4 s).add s i p) s:=by
 have b1:=kI h1
 have f1:=fq (fw h2) h3
 refine⟨K3 (by rw [bx];exact hw),fun x hx=>?_⟩
 rw [HF]at hx
 have hx:=kp (by omega) b1.1 hx
 have b2:=bW.1 hx
 refine⟨hx,?_⟩
 rw [JE,bx]
 rw [xO (ai b2.1).1 b1.1 (by rintro rfl;omega)];omega
theorem uX {d:DB} {s p w n:Int}(hw:d.mem.Wf)(h1:¬d.aT s≠0)(h2:¬d.bn p≠0)(h3:¬d.bw p≠0):Kept d (d.cO s p w n) s:=by
 have b1:=kI h1
 have f1:=fq (fw h2) h3
 refine⟨F2 (IX (by rw [bx];exact hw)),fun x hx=>?_⟩
 rw [cO,vS,fj (f:=fun m=>m.copy true p false n) (Mem.lZ ..)]at hx
 have hx:=kp (by omega) b1.1 hx
 have b2:=bW.1 hx
 have e:x≠p:=by rintro rfl;omega
 refine⟨hx,?_⟩
 rw [cO,Dl]
 ·show((d.take p 5 s).mem.copy true p false n).dgW x=_
  rw [Mem.Hc e.symm,bx]
 ·show((d.take p 5 s).at_ x).typ≠4
  rw [xO (ai b2.1).1 b1.1 e];omega
theorem sN {d:DB} {s va:Int} {M:Mp}(hw:d.mem.Wf):Kept d (d.put s va M) s:=by
 refine⟨F2 hw,fun x hx=>?_⟩
 rw [vS]at hx
 have b2:=bW.1 hx
 exact⟨hx,by rw [Dl];omega⟩
theorem uG {d:DB} {s f:Int}(hI:d.Inv):(d.bE s f).Inv:=by
 unfold bE
 split
 ·rename_i he
  unfold cz at he
  have h1:¬d.bn s≠0:=by grind
  have h2:¬d.bn f≠0:=by grind
  have h3:¬s=f:=by grind
  have h4:¬d.bw s≠0:=by grind
  have h5:¬d.bw f≠0:=by grind
  have h6:¬d.av≥64:=by grind
  have hs:=fw h1
  have hf:=fw h2
  have r1:=ai hs
  have r2:=ai hf
  have ht:d.aR s f=0:=by rw [fi h1 h2 h3 h4 h5,if_neg h6]
  intro x hx
  rw [fj (f:=fun m=>m.wrs s 11 Dg.new.save) (Mem.ig ..)]at hx
  unfold aN at hx ⊢
  rw [if_pos ht]at hx ⊢
  obtain⟨x1,x2,x3⟩:=bW.1 hx
  show Dg.ay (((((d.mem.write true s 0 f).write true s 1 d.av).write true s 2 0).wrs s 11 Dg.new.save).dgW x)=0
  by_cases e:x=s
  ·subst e
   rw [Mem.yQ (by rw [DB.cH,DB.cH,DB.cH];exact hs) (Dg.iL Dg.nm)]
   exact(Dg.uI Dg.GJ).1
  ·have x1:d.has x=true:=by
    have:(((d.mem.write true s 0 f).write true s 1 d.av).write true s 2 0).has true x=true:=x1
    rw [DB.cH,DB.cH,DB.cH]at this;exact this
   have x0:=ai x1
   have ea:(d.aV s f).at_ x=((d.set s ⟨1,s,1,1,false⟩).set f ⟨3,s,0,0,false⟩).at_ x:=rfl
   rw [ea,bD r2.1 x0.1,bD r1.1 x0.1,if_neg e]at x2 x3
   by_cases ef:x=f
   ·rw [if_pos ef]at x2;cases x2
   ·rw [if_neg ef]at x2 x3
    rw [Mem.rB (Ne.symm e),Mem.gr (Ne.symm e),Mem.gr (Ne.symm e),Mem.gr (Ne.symm e)]
    exact hI x (bW.2 ⟨x1,x2,x3⟩)
 ·exact hI
theorem Hl {kk:List Int} {d:DB} {o:LOp}(ho:o.Ok)(hI:d.Inv)(hw:d.mem.Wf):(d.call kk o).Inv:=by
 obtain⟨ha,hb,hc,hd⟩:=ho
 unfold call
 split
 ·exact uG hI
 split
 ·unfold bu
  split
  ·rename_i he
   unfold bV at he
   exact(qB hw hc (by grind) (by grind) (by grind)).inv hI hc (by omega) jH
  ·exact hI
 split
 ·unfold dG
  split
  ·rename_i he
   unfold dh at he
   exact(sM hw (by grind) (by grind) (by grind)).inv hI hc (by omega) jH
  ·exact hI
 split
 ·unfold eO
  split
  ·rename_i he
   unfold dq at he
   have K:Kept d (d.cO o.a o.b o.c o.d) o.a:=uX hw (by grind) (by grind) (by grind)
   have e:(d.cO o.a o.b o.c o.d).aD (fun m=>m.msd kk o.a 3 o.c (m.words true o.b.toNat))=(d.cO o.a o.b o.c o.d).aD (fun m=>m.msd kk o.a 3 o.c ((d.cO o.a o.b o.c o.d).mem.words true o.b.toNat)):=by
    unfold aD;rfl
   rw [e]
   exact K.inv hI hc (by omega) (Mem.rL K.wf true o.b.toNat)
  ·exact hI
 ·unfold dH
  split
  ·exact(sN hw).inv hI hb (by omega) jH
  ·exact hI
theorem jn {d:DB} {p s q:Int}(hs:s≠1)(h:(d.setState p s).aT q=0):d.aT q=0:=by
 obtain⟨h1,h2,h3⟩:=bW.1 h
 unfold setState at h1 h2 h3
 split at h1
 ·rename_i he
  have hp:d.has p=true:=by
   cases hp:d.has p
   ·unfold aS at he;simp [hp]at he
   ·rfl
  have q0:=ai h1
  rw [if_pos he,bD (ai hp).1 q0.1]at h2 h3
  by_cases e:q=p
  ·rw [if_pos e]at h3;exact absurd h3 hs
  ·rw [if_neg e]at h2 h3;exact bW.2 ⟨h1,h2,h3⟩
 ·rename_i he
  rw [if_neg he]at h2 h3
  exact bW.2 ⟨h1,h2,h3⟩
theorem cI(d:DB)(p s:Int):(d.setState p s).mem=d.mem:=by unfold setState;split<;>rfl
theorem ua {d:DB} {p:Int}(hp:d.lL p=true):¬(d.setState p 2).aT p=0:=by
 intro h
 unfold lL at hp
 simp only [Bool.and_eq_true,beq_iff_eq]at hp
 obtain⟨h1,h2,h3⟩:=bW.1 h
 unfold setState at h3
 rw [if_pos (by unfold aS;simp [hp.1,hp.2.1,hp.2.2]),bD (ai hp.1).1 (ai hp.1).1,if_pos rfl]at h3
 cases h3
theorem yA {d:DB} {p:Int}(hI:d.Inv):(d.dY p).Inv:=by
 unfold dY
 split
 ·rename_i he
  have hp:d.has p=true:=by
   cases hp:d.has p
   ·unfold cZ at he;simp [hp]at he
   ·rfl
  have p0:=ai hp
  intro x hx
  unfold aW at hx ⊢
  rw [fj (f:=fun m=>m.zero true p) (Mem.qi ..)]at hx
  obtain⟨h1,h2,h3⟩:=bW.1 hx
  have S7:d.has x=true:=by revert h1;split<;>exact id
  have x0:=ai S7
  have key:x≠p∧(d.at_ x).typ=1∧(d.at_ x).state=1:=by
   split at h2
   ·rename_i hc
    rw [if_pos hc]at h3
    simp only [Bool.and_eq_true,bR,dB]at hc
    have o0:=ai hc.2.1.1
    unfold more at h2 h3
    rw [bD o0.1 x0.1]at h2 h3
    by_cases e:x=(d.at_ p).owner
    ·rw [if_pos e]at h2 h3
     have h2:((d.set p .free).at_ (d.at_ p).owner).typ=1:=h2
     have h3:((d.set p .free).at_ (d.at_ p).owner).state=1:=h3
     rw [bD p0.1 o0.1]at h2 h3
     rw [← e]at h2 h3
     by_cases e2:x=p
     ·rw [if_pos e2]at h2;cases h2
     ·rw [if_neg e2]at h2 h3;exact⟨e2,h2,h3⟩
    ·rw [if_neg e,bD p0.1 x0.1]at h2 h3
     by_cases e2:x=p
     ·rw [if_pos e2]at h2;cases h2
     ·rw [if_neg e2]at h2 h3;exact⟨e2,h2,h3⟩
   ·rename_i hc
    rw [if_neg hc]at h3
    rw [bD p0.1 x0.1]at h2 h3
    by_cases e2:x=p
    ·rw [if_pos e2]at h2;cases h2
    ·rw [if_neg e2]at h2 h3;exact⟨e2,h2,h3⟩
  have hm:∀c:Bool,(aD (if c then(d.set p .free).more (d.at_ p).owner (-1)else d.set p .free) (·.zero true p)).mem=d.mem.zero true p:=by intro c;cases c<;>rfl
  rw [hm,Mem.yP (Ne.symm key.1)]
  exact hI x (bW.2 ⟨S7,key.2.1,key.2.2⟩)
 ·exact hI
theorem BP {d:DB} {o:LOp}(hI:d.Inv):(d.beside o).Inv:=by
 unfold beside
 split
 ·intro x hx
  rw [fj (f:=fun m=>m.write false o.a (o.b % 1024) o.c) (Mem.bh ..)]at hx
  show Dg.ay ((d.mem.write false o.a (o.b % 1024) o.c).dgW x)=0
  rw [Mem.JD];exact hI x hx
 split
 ·split
  ·rename_i hb
   intro x hx
   have Uw:=jn (by omega) hx
   rw [fj (f:=fun m=>m.wrs o.a 11 (List.replicate 26 0)) (Mem.ig ..)]at Uw
   by_cases e:x=o.a
   ·refine absurd (e▸hx) (ua ?_)
    unfold lL at hb ⊢
    have:(d.aD fun m=>m.wrs o.a 11 (List.replicate 26 0)).has o.a=d.has o.a:=Mem.ru o.a true o.a (List.replicate 26 0) d.mem 11
    rw [this];exact hb
   ·rw [cI]
    show Dg.ay ((d.mem.wrs o.a 11 (List.replicate 26 0)).dgW x)=0
    rw [Mem.rB (Ne.symm e)];exact hI x Uw
  ·exact hI
 split
 ·intro x hx
  rw [cI]
  exact hI x (jn (by omega) hx)
 split
 ·split
  ·exact yA hI
  ·exact hI
 ·exact hI
theorem pdS(d:DB):d.pd.n=d.mem.S:=rfl
set_option maxRecDepth 100000
def hd0:DB:=(DB.new (Mem.fresh 3 1)).pd.on ((Mem.fresh 3 1).dw 3)
def hd1:DB:=hd0.bE 0 1
theorem Lw:hd0.cz 0 3=1:=by decide
theorem Nv:hd0.cz 0 1=0:=by decide
theorem MI:hd1.bV 0 2=0:=by decide
theorem MH(kk:List Int):DB.bu kk hd1 0 2 7=(hd1.take 2 2 0).aD (fun m=>(m.write true 2 0 7).msd kk 0 1 7 []):=by
 unfold bu;rw [if_pos MI]
theorem MG(kk:List Int):(DB.bu kk hd1 0 2 7).bV 1 2=3:=by
 have h:(DB.bu kk hd1 0 2 7).aT 1=3:=by
  rw [MH,fj (f:=fun m=>(m.write true 2 0 7).msd kk 0 1 7 []) (by rw [Mem.lH,Mem.bh])]
  decide
 unfold bV
 rw [if_pos (by rw [h];decide),h]
theorem BN {kk:List Int} {d:DB} {s p b:Int}(h:d.bV s p≠0):DB.bu kk d s p b=d:=if_neg h
theorem Nt(kk:List Int):DB.bu kk (DB.bu kk hd1 0 2 7) 1 2 7=DB.bu kk hd1 0 2 7:=BN (by rw [MG];decide)
theorem MF {d:DB} {kk:List Int}(h2:d.mem.has true 2=true):(d.aD (fun m=>(m.write true 2 0 7).msd kk 0 1 7 [])).mem.aZ true 2 0=7:=by
 have hp:∀(l:List Int)(m:Mem)(o:Int),(m.wrs 0 o l).pg true 2=m.pg true 2:=by
  intro l
  induction l with
  | nil=>intro m o;rfl
  | cons x l ih=>intro m o;rw [Mem.wrs,ih,Mem.lD (by decide)]
 show((d.mem.write true 2 0 7).msd kk 0 1 7 []).aZ true 2 0=7
 have e:((d.mem.write true 2 0 7).msd kk 0 1 7 []).aZ true 2 0=(d.mem.write true 2 0 7).aZ true 2 0:=by
  unfold Mem.msd
  split
  ·exact Mem.oh (Mem.ru ..) (fun _=>hp _ _ _) 0
  ·rfl
 rw [e,Mem.dj h2 (by decide),if_pos rfl]
theorem Nu(kk:List Int):(DB.bu kk hd1 0 2 7).mem.aZ true 2 0=7:=by
 rw [MH]
 exact MF (by rw [bx];decide)
end DB
end
end Go.Proofs.YtinhphjfnedhgaaGreatDoor
namespace Go.Proofs.YtinhphjfnedhgaaGreatDoor
open Go.Proofs.Tryz (prog)
open Go Go.RowKit V
open Go.IntKind (i64 u32 u64)
section
set_option maxRecDepth 100000
set_option maxHeartbeats 1000000
attribute [local irreducible] Vc2 VcD
def xh:Ctr Un:=⟨[.one (.int .i64),.one (.int .i64)],[],[],[],fun s i K=>((1≤(s:Int)∧(s:Int)≤64)∧(1≤(i:Int)∧(i:Int)≤64))∧∀(rN:Nat→Nat),K ⟨(.tuple #[(.pointer (some (Addr.mk (rN 0) 0 none))),(.int .i64 0)]),(some (.t [(some (.obj 0 0 0)),none])),[],[(.ob 0 rN (Mem.fresh s.toNat i.toNat))],[]⟩⟩
theorem Kw:LV Un prog 27 xh:=by
 show ∀(s:Int)(i:Int),∀Q:Ou Un→Prop,(((1≤(s:Int)∧(s:Int)≤64)∧(1≤(i:Int)∧(i:Int)≤64))∧∀(rN:Nat→Nat),Q ⟨(.tuple #[(.pointer (some (Addr.mk (rN 0) 0 none))),(.int .i64 0)]),(some (.t [(some (.obj 0 0 0)),none])),[],[(.ob 0 rN (Mem.fresh s.toNat i.toNat))],[]⟩)→∀(X:Nat→Nat→Prop)(w:World),Sat (U:=Un) [] X w→ax (U:=Un) [] fr0 []→Calls prog 27 #[(.int .i64 s),(.int .i64 i)] w (aU (U:=Un) [] [] X w Q)
 intro s i Q hQ X w hs hl
 exact Is s i Q hQ X w hs hl
def kb:Ctr Un:=⟨[],[(0,5)],[.ob 5 []],[],fun rk kk K=>K ⟨(.bool true),none,[],[],[]⟩⟩
def Fo(rk:Nat→Nat)(kk:List Int)(Q:Ou Un→Prop):Prop:=
 ((1≤(3:Int)∧(3:Int)≤64)∧(1≤(1:Int)∧(1:Int)≤64))∧
 ∀(rN:Nat→Nat),
 ∀(m:Mem),m=(Mem.fresh (Int.toNat 3) (Int.toNat 1))→
 Mem.Wf m→
 ∃J:Bool→Prop,(
  J false)∧∀(Pw:Nat→Value)(PT:Bool),J PT→
 split PT (
  Q ⟨(.bool false),none,[],[],[]⟩) (
  1≤m.S∧
  ∀(RJ:Nat→Nat),
  ∀(m1:Mem),m1=(m.dw m.S)→
  Mem.Wf m1→
  ∀(E:Pd),E=(DB.new m).pd→
  Pd.Ok E→
  ∃J1:Bool→Mem→Pd→Prop,(
   E.n=m1.S∧
   (0≤(0:Int)∧(0:Int)<4294967296)∧
   (0≤(3:Int)∧(3:Int)<4294967296)∧
   ∀(E1:Pd),E1=((E.on m1).bE 0 3).pd→
   Pd.Ok E1→
   ∀(m2:Mem),m2=((E.on m1).bE 0 3).mem→
   Mem.Wf m2→
   split ((i64.wrap ((E.on m1).cz 0 3))==1) (
    E1.n=m2.S∧
    (0≤(0:Int)∧(0:Int)<4294967296)∧
    (0≤(1:Int)∧(1:Int)<4294967296)∧
    ∀(E2:Pd),E2=((E1.on m2).bE 0 1).pd→
    Pd.Ok E2→
    ∀(m3:Mem),m3=((E1.on m2).bE 0 1).mem→
    Mem.Wf m3→
    split ((i64.wrap ((E1.on m2).cz 0 1))==0) (
     E2.n=m3.S∧
     (0≤(0:Int)∧(0:Int)<4294967296)∧
     (0≤(2:Int)∧(2:Int)<4294967296)∧
     (0≤(7:Int)∧(7:Int)<4294967296)∧
     ∀(E3:Pd),E3=(DB.bu kk (E2.on m3) 0 2 7).pd→
     Pd.Ok E3→
     ∀(m4:Mem),m4=(DB.bu kk (E2.on m3) 0 2 7).mem→
     Mem.Wf m4→
     split ((i64.wrap ((E2.on m3).bV 0 2))==0) (
      E3.n=m4.S∧
      (0≤(1:Int)∧(1:Int)<4294967296)∧
      (0≤(2:Int)∧(2:Int)<4294967296)∧
      (0≤(7:Int)∧(7:Int)<4294967296)∧
      ∀(E4:Pd),E4=(DB.bu kk (E3.on m4) 1 2 7).pd→
      Pd.Ok E4→
      ∀(m5:Mem),m5=(DB.bu kk (E3.on m4) 1 2 7).mem→
      Mem.Wf m5→
      split ((i64.wrap ((E3.on m4).bV 1 2))==3) (
       J1 ((m5.aZ true 2 0)==7) m5 E4) (
       J1 false m5 E4)) (
      J1 false m4 E3)) (
     J1 false m3 E2)) (
    J1 false m2 E1))∧∀(NU:Nat→Value)(x0:Bool)(s1:Mem)(s2:Pd),J1 x0 s1 s2→
  Mem.Wf s1→
  Pd.Ok s2→
  Q ⟨(.bool x0),none,[],[],[]⟩)
theorem Fp:Vc2 Un prog (aQ [(27,xh),(29,tR),(31,gx),(32,fy),(33,o7)]) [] Tryz.f8 (.r' (.r' (.two (.two (.node [] (some ⟨[(13,(.one .bool))],[],upN 8 6,[]⟩) [] [] .leaf .leaf) .leaf) (.r' (.two (.node [] (some ⟨[(0,(.one .bool))],[],[0]++upN 16 32,[(1,(.ob 0)),(2,(.ob 1))]⟩) [] [] .leaf .leaf) .leaf))))) [] kb=(∀rk (kk:List Int),∀Q,(kb.body rk kk Q)→Fo rk kk Q):=by kernel_rfl
theorem Fm:LV Un prog 8 kb:=verify Tryz.func8 aa (tb:= [(27,xh),(29,tR),(31,gx),(32,fy),(33,o7)]) ⟨Kw,II,vD,tX,DF,trivial⟩ (by kernel_rfl) (Fp.mpr fun rk kk Q h=>af (by omega) fun s1 rN m h_m f2=>⟨fun PT=>(PT=false),(by rfl),fun _ PT hx=>ab (fun c1=>(by exfalso;have hx:PT=false:=hx;rw [hx]at c1;cases c1)) fun c1=>af (by subst_vars;decide) fun s3 RJ m1 Oe f4 E h_E f5=>⟨fun x0 s1 s2=>(x0=true),af (by(rw [h_E,Oe,h_m];rfl)) fun s6=>af (by omega) fun s7=>af (by omega) fun s8 E1 Pe f9 m2 Qa f10=>aC (fun c2=>(by(have h0:=(by rw [h_E,Oe,h_m];rfl:E.on m1=DB.hd0));exact af (by(rw [Pe,Qa];exact DB.pdS _)) fun On=>af ‹_› fun Sr=>af (by omega) fun S4 E2 To f14 m3 Pq f15=>aC (fun c3=>(by(have h1:=(by rw [Pe,Qa,h0];show DB.hd0.bE 0 3=DB.hd0;unfold DB.bE;rw [if_neg (by rw [DB.Lw];decide)]:E1.on m2=DB.hd0));exact af (by(rw [To,Pq];exact DB.pdS _)) fun Vc=>af ‹_› fun YZ=>af (by omega) fun s18=>af (by omega) fun s19 E3 VN f20 m4 Tn f21=>aC (fun c4=>(by(have h2:=(by rw [To,Pq,h1];unfold DB.hd1;exact DB.CY _:E2.on m3=DB.hd1));exact af (by(rw [VN,Tn];exact DB.pdS _)) fun s22=>af ‹_› fun s23=>af ‹_› fun s24=>af ‹_› fun s25 E4 h_E4 f26 m5 VM f27=>aC (fun c5=>(by(have h3:=(by rw [VN,Tn,h2];exact DB.CY _:E3.on m4=DB.bu kk DB.hd1 0 2 7));exact(by have h4:m5=(DB.bu kk DB.hd1 0 2 7).mem:=(by rw [VM,h3];exact congrArg DB.mem (DB.Nt kk));rw [h4,DB.Nu];rfl))) fun c5=>(by exfalso;have h3:=(by rw [VN,Tn,h2];exact DB.CY _:E3.on m4=DB.bu kk DB.hd1 0 2 7);exact c5 (by rw [h3,DB.MG];decide)))) fun c4=>(by exfalso;have h2:=(by rw [To,Pq,h1];unfold DB.hd1;exact DB.CY _:E2.on m3=DB.hd1);exact c4 (by rw [h2,DB.MI];decide)))) fun c3=>(by exfalso;have h1:=(by rw [Pe,Qa,h0];show DB.hd0.bE 0 3=DB.hd0;unfold DB.bE;rw [if_neg (by rw [DB.Lw];decide)]:E1.on m2=DB.hd0);exact c3 (by rw [h1,DB.Nv];decide)))) fun c2=>(by exfalso;have h0:=(by rw [h_E,Oe,h_m];rfl:E.on m1=DB.hd0);exact c2 (by rw [h0,DB.Lw];decide)),fun _ x0 s1 s2 hy f28 f29=>cl h (hy.symm)⟩⟩)
end
end Go.Proofs.YtinhphjfnedhgaaGreatDoor
namespace Go.Proofs.YtinhphjfnedhgaaGreatDoor
open Go.Proofs.Tryz (prog)
open Go Go.RowKit V
open Go.IntKind (i64 u32 u64)
def lQ(f:Nat→Bool)(n:Nat):Nat:=((List.range n).filter f).length
theorem iF(f:Nat→Bool)(n:Nat):lQ f (n+1)=lQ f n+if f n then 1 else 0:=by
 unfold lQ
 rw [List.range_succ,List.filter_append,List.length_append]
 congr 1
 by_cases h:f n=true
 ·rw [if_pos h,List.filter_cons_of_pos h];rfl
 ·rw [if_neg h,List.filter_cons_of_neg h];rfl
theorem ez {f g:Nat→Bool}:∀ {n:Nat},(∀q,q<n→f q=true→g q=true)→lQ f n≤lQ g n
 | 0,_=>Nat.le_refl _
 | n+1,h=>by
  rw [iF,iF]
  have:=ez (n:=n) fun q hq=>h q (by omega)
  have h1:=h n (by omega)
  by_cases hf:f n=true
  ·rw [if_pos hf,if_pos (h1 hf)];omega
  ·rw [if_neg hf];omega
theorem ir {f g:Nat→Bool} {p:Nat}(hp:g p=true)(hf:f p=false):∀ {n:Nat},p<n→(∀q,q<n→f q=true→g q=true)→lQ f n+1≤lQ g n
 | 0,h,_=>by omega
 | n+1,h,hh=>by
  rw [iF,iF]
  by_cases e:p=n
  ·subst e
   have:=ez (n:=p) fun q hq=>hh q (by omega)
   rw [if_pos hp,if_neg (by rw [hf];decide)];omega
  ·have:=ir hp hf (n:=n) (by omega) fun q hq=>hh q (by omega)
   have h1:=hh n (by omega)
   by_cases hf:f n=true
   ·rw [if_pos hf,if_pos (h1 hf)];omega
   ·rw [if_neg hf];omega
theorem j3 {f g:Nat→Bool} {p:Nat}:∀ {n:Nat},(∀q,q<n→q≠p→f q=true→g q=true)→lQ f n≤lQ g n+1
 | 0,_=>by simp [lQ]
 | n+1,h=>by
  rw [iF,iF]
  by_cases e:p=n
  ·subst e
   have:=ez (f:=f) (g:=g) (n:=p) fun q hq=>h q (by omega) (by omega)
   split<;>split<;>omega
  ·have:=j3 (n:=n) fun q hq=>h q (by omega)
   have h1:=h n (by omega) (by omega)
   by_cases hf:f n=true
   ·rw [if_pos hf,if_pos (h1 hf)];omega
   ·rw [if_neg hf];omega
theorem Ew {f:Nat→Bool} {a b n:Nat}(ha:a<n)(hb:b<n)(Wi:a≠b)(fa:f a=false)(fb:f b=false):lQ f n+2≤n:=by
 have h1:=ir (f:=f) (g:=fun q=>f q || q==a) (p:=a) (by simp) fa ha (fun q _ h=>by simp [h])
 have h2:=ir (f:=fun q=>f q || q==a) (g:=fun q=>(f q || q==a) || q==b) (p:=b) (by simp) (by simp [fb];omega) hb (fun q _ h=>by simp only [h,Bool.true_or])
 have h3:lQ (fun q=>(f q || q==a) || q==b) n≤n:=by
  unfold lQ
  exact Nat.le_trans (List.length_filter_le _ _) (by rw [List.length_range];exact Nat.le_refl _)
 omega
namespace Mem
theorem bU {m:Mem} {p o v x y:Int}(h:p≠x):(m.write true p o v).aZ true x y=m.aZ true x y:=by
 refine oh (DB.cH ..) (fun hs=>?_) y
 by_cases hp:0≤p
 ·exact lD (v5 hs hp h)
 ·unfold write
  rw [if_neg]
  simp [has];omega
theorem iC {m:Mem} {p q x y:Int} {b:Bool}(h:p≠x):(m.copy true p b q).aZ true x y=m.aZ true x y:=by
 refine oh (sP ..) (fun hs=>?_) y
 by_cases hp:0≤p
 ·exact CX (v5 hs hp h)
 ·unfold copy
  rw [if_neg]
  simp [has];omega
theorem uN {m:Mem} {p x y:Int}(h:p≠x):(m.zero true p).aZ true x y=m.aZ true x y:=by
 refine oh (DB.oz ..) (fun hs=>?_) y
 unfold zero
 split
 ·rename_i hp
  have h1:=ai hs
  have h2:=ai hp
  funext o
  show(if true=true∧x.toNat=p.toNat then _ else _)=_
  rw [if_neg (by omega)]
 ·rfl
theorem vU {m:Mem} {p o v x:Int}(ho:0<o):(m.write true p o v).aZ true x 0=m.aZ true x 0:=by
 by_cases e:p=x
 ·subst e
  by_cases h:(m.has true p && dU o)=true
  ·have h':m.has true p=true∧dU o=true:=by simpa using h
   rw [dj h'.1 h'.2,if_neg (by omega)]
  ·unfold write;rw [if_neg h]
 ·exact bU e
theorem mD {p x:Int}:∀(l:List Int)(m:Mem)(o:Int),0<o→(m.wrs p o l).aZ true x 0=m.aZ true x 0
 | [],_,_,_=>rfl
 | y::l,m,o,h=>by rw [wrs,mD l _ _ (by omega),vU h]
theorem D7 {kk:List Int} {m:Mem} {p k a x:Int} {l:List U32}:(m.msd kk p k a l).aZ true x 0=m.aZ true x 0:=by
 unfold msd
 split
 ·exact mD _ _ _ (by omega)
 ·rfl
theorem yk {m:Mem} {p o v x y:Int}:(m.write false p o v).aZ true x y=m.aZ true x y:=
 oh (DB.cH ..) (fun _=>lD (by rintro⟨h,_⟩;cases h)) y
end Mem
namespace DB
def cnt(d:DB)(x:Int):Nat:=lQ (d.aP x) d.S
structure Good(d:DB):Prop where
 inv:d.Inv
 own:∀x,d.has x=true→(d.at_ x).typ=1→(d.at_ x).owner=x
 refs:∀x,d.has x=true→(d.at_ x).typ=1→(d.at_ x).refs≤(d.cnt x:Int)
 tbl:∀x,d.aT x=0→d.of (d.word x 0) 3 x=true
theorem Good.aD {d:DB} {m:Mem}(h:d.Good)(hS:m.S=d.mem.S)(hI:(d.aE m).Inv)(hw:∀x,d.aT x=0→m.aZ true x 0=d.mem.aZ true x 0):(d.aE m).Good:=by
 have hh:∀x,(d.aE m).has x=d.has x:=fun x=>by unfold has;rw [show(d.aE m).S=d.S from hS]
 refine⟨hI,fun x hx=>h.own x (by rw [← hh];exact hx),fun x hx ht=>?_,fun x hx=>?_⟩
 ·have e:(d.aE m).cnt x=d.cnt x:=by unfold cnt;rw [show(d.aE m).S=d.S from hS];rfl
  rw [e];exact h.refs x (by rw [← hh];exact hx) ht
 ·have hx:d.aT x=0:=by rw [← wK hS];exact hx
  have e:(d.aE m).word x 0=d.word x 0:=hw x hx
  rw [e]
  have:=h.tbl x hx
  unfold of is at this ⊢
  rw [hh];exact this
theorem bH {d:DB} {x:Int} {q:Nat}(h:d.aP x q=true):(q:Int)≠x∧(d.ent q).typ≠0∧(d.ent q).owner=x:=by
 simpa [aP,and_assoc]using h
theorem cG {d:DB} {x:Int} {q:Nat}(h:(q:Int)≠x∧(d.ent q).typ≠0∧(d.ent q).owner=x):d.aP x q=true:=by
 simpa [aP,and_assoc]using h
theorem ej {d:DB} {p t s q:Int}(hp:d.has p=true)(hs:d.has s=true)(hq:0≤q)(PZ:s≠p):(d.bZ p t s).at_ q=if q=s then {d.at_ s with refs:=(d.at_ s).refs+1}else if q=p then⟨t,s,0,0,false⟩else d.at_ q:=by
 have h1:=ai hp
 have h2:=ai hs
 unfold bZ more
 rw [bD h2.1 hq,bD h1.1 h2.1,bD h1.1 hq,if_neg PZ]
theorem nW {d:DB} {p t s:Int}(h:d.bM p t s=0):d.has p=true∧d.has s=true∧(d.at_ s).typ=1∧(d.at_ s).refs<63∧(d.at_ p).typ=0∧d.take p t s=d.bZ p t s:=by
 unfold bM at h
 have e:d.take p t s=d.bZ p t s:=by unfold take bM;rw [if_pos h]
 cases hp:d.has p
 ·simp [hp]at h
 ·cases hs:d.bR s
  ·simp [hp,hs]at h
   split at h<;>simp at h
  ·have h3:d.has s=true∧(d.at_ s).typ=1:=by simpa [bR]using hs
   by_cases h4:(d.at_ s).refs≥63
   ·simp [hp,hs,h4]at h
    split at h<;>simp at h
   ·by_cases h5:(d.at_ p).typ=0
    ·exact⟨rfl,h3.1,h3.2,by omega,h5,e⟩
    ·simp [hp,hs,h4,h5]at h
     split at h<;>simp at h
theorem gL {d:DB} {p t o:Int}(h:d.has p=true∧(d.at_ p).typ=t∧(d.at_ p).owner=o):d.of p t o=true:=by
 simpa [of,is,and_assoc]using h
theorem Good.take {d:DB} {p t s:Int}(h:d.Good)(ht:t≠1)(ht0:t≠0):(d.take p t s).Good:=by
 by_cases he:d.bM p t s=0
 ·obtain⟨hp,hs,Vj,hr,hf,e⟩:=nW he
  have PZ:s≠p:=by rintro rfl;omega
  have p0:=ai hp
  have s0:=ai hs
  have hI:(d.take p t s).Inv:=fun x hx=>by rw [bx];exact h.inv x (kp ht hs hx)
  have hb:∀x,(d.take p t s).aT x=0→d.aT x=0:=fun x hx=>kp ht hs hx
  rw [e]at hI hb ⊢
  have ent:∀q:Nat,(d.bZ p t s).ent q=if(q:Int)=s then {d.ent q with refs:=(d.ent q).refs+1}else if(q:Int)=p then⟨t,s,0,0,false⟩else d.ent q:=fun q=>by
   have e1:=ej (t:=t) hp hs (q:=(q:Int)) (by omega) PZ
   have e2:∀D:DB,D.at_ (q:Int)=D.ent q:=fun D=>by unfold at_;rw [Int.toNat_natCast]
   rw [e2,e2]at e1
   rw [e1]
   by_cases e3:(q:Int)=s
   ·rw [if_pos e3,if_pos e3,← e3,e2]
   ·rw [if_neg e3,if_neg e3]
  have eW:∀x:Int,∀q:Nat,d.aP x q=true→(d.bZ p t s).aP x q=true:=fun x q hq=>by
   obtain⟨h1,h2,h3⟩:=bH hq
   refine cG ?_
   rw [ent]
   by_cases e1:(q:Int)=s
   ·rw [if_pos e1];exact⟨h1,h2,h3⟩
   ·rw [if_neg e1,if_neg]
    ·exact⟨h1,h2,h3⟩
    ·rintro rfl
     unfold at_ at hf;rw [Int.toNat_natCast]at hf;exact h2 hf
  refine⟨hI,fun x hx h1=>?_,fun x hx h1=>?_,fun x hx=>?_⟩
  ·have x0:=ai (show d.has x=true from hx)
   rw [ej hp hs x0.1 PZ]at h1 ⊢
   by_cases e1:x=s
   ·rw [if_pos e1];subst e1;exact h.own x hs Vj
   ·rw [if_neg e1]at h1 ⊢
    by_cases e2:x=p
    ·rw [if_pos e2]at h1;exact absurd h1 ht
    ·rw [if_neg e2]at h1 ⊢;exact h.own x hx h1
  ·have x0:=ai (show d.has x=true from hx)
   rw [ej hp hs x0.1 PZ]at h1 ⊢
   by_cases e1:x=s
   ·subst e1
    rw [if_pos rfl]
    have Vp:((p.toNat:Nat):Int)=p:=Int.toNat_of_nonneg p0.1
    have hc:d.cnt x+1≤(d.bZ p t x).cnt x:=by
     refine ir (p:=p.toNat) (cG ?_) ?_ (show p.toNat<d.S by omega) fun q _ hq=>eW x q hq
     ·rw [ent,Vp,if_neg (Ne.symm PZ),if_pos rfl]
      exact⟨Ne.symm PZ,ht0,rfl⟩
     ·rw [← Bool.not_eq_true]
      intro hq
      exact(bH hq).2.1 hf
    have:=h.refs x hs Vj
    show(d.at_ x).refs+1≤_
    omega
   ·have e2:x≠p:=by rintro rfl;rw [if_neg e1,if_pos rfl]at h1;exact ht h1
    rw [if_neg e1,if_neg e2]at h1 ⊢
    have hc:d.cnt x≤(d.bZ p t s).cnt x:=ez fun q _ hq=>eW x q hq
    have:=h.refs x hx h1
    omega
  ·have Uw:=hb x hx
   obtain⟨a,b,c⟩:=bf (h.tbl x Uw)
   have q0:=ai a
   refine gL ?_
   have ew:(d.bZ p t s).word x 0=d.word x 0:=rfl
   rw [ew,ej hp hs q0.1 PZ]
   have n1:d.word x 0≠s:=by intro e1;rw [e1]at b;omega
   have n2:d.word x 0≠p:=by intro e1;rw [e1]at b;omega
   rw [if_neg n1,if_neg n2]
   exact⟨a,b,c⟩
 ·unfold DB.take;rw [if_neg he];exact h
theorem GI(m:Mem):(DB.new m).Good:=⟨Jl m,fun x _ h=>(by cases h),fun x _ h=>(by cases h),fun x hx=>(by have:=(bW.1 hx).2.1;cases this)⟩
theorem Good.setState {d:DB} {p s:Int}(h:d.Good)(hs:s≠1):(d.setState p s).Good:=by
 have hI:(d.setState p s).Inv:=fun x hx=>by rw [cI];exact h.inv x (jn hs hx)
 have hb:∀x,(d.setState p s).aT x=0→d.aT x=0:=fun x hx=>jn hs hx
 by_cases he:d.aS p s=0
 ·have e:d.setState p s=d.set p {d.at_ p with state:=s}:=by unfold DB.setState;rw [if_pos he]
  have hp:d.has p=true:=by
   cases hp:d.has p
   ·unfold aS at he;simp [hp]at he
   ·rfl
  have p0:=ai hp
  rw [e]at hI hb ⊢
  have at2:∀x:Int,0≤x→((d.set p {d.at_ p with state:=s}).at_ x).typ=(d.at_ x).typ∧((d.set p {d.at_ p with state:=s}).at_ x).owner=(d.at_ x).owner∧((d.set p {d.at_ p with state:=s}).at_ x).refs=(d.at_ x).refs:=fun x hx=>by
   rw [bD p0.1 hx]
   by_cases e1:x=p
   ·subst e1;rw [if_pos rfl];exact⟨rfl,rfl,rfl⟩
   ·rw [if_neg e1];exact⟨rfl,rfl,rfl⟩
  have hc:∀x,(d.set p {d.at_ p with state:=s}).cnt x=d.cnt x:=fun x=>by
   unfold cnt
   congr 1
   funext q
   have:=at2 (q:Int) (by omega)
   have e2:∀D:DB,D.at_ (q:Int)=D.ent q:=fun D=>by unfold at_;rw [Int.toNat_natCast]
   rw [e2,e2]at this
   unfold aP
   rw [this.1,this.2.1]
  refine⟨hI,fun x hx h1=>?_,fun x hx h1=>?_,fun x hx=>?_⟩
  ·have x0:=ai (show d.has x=true from hx)
   have:=at2 x x0.1
   rw [this.1]at h1;rw [this.2.1];exact h.own x hx h1
  ·have x0:=ai (show d.has x=true from hx)
   have:=at2 x x0.1
   rw [this.1]at h1;rw [this.2.2,hc];exact h.refs x hx h1
  ·obtain⟨a,b,c⟩:=bf (h.tbl x (hb x hx))
   have:=at2 _ (ai a).1
   exact gL ⟨a,by rw [show(d.set p {d.at_ p with state:=s}).word x 0=d.word x 0 from rfl,this.1];exact b,by rw [show(d.set p {d.at_ p with state:=s}).word x 0=d.word x 0 from rfl,this.2.1];exact c⟩
 ·unfold DB.setState;rw [if_neg he];exact h
theorem cW(D:DB)(q:Nat):D.at_ (q:Int)=D.ent q:=by unfold at_;rw [Int.toNat_natCast]
theorem Good.dY {d:DB} {p:Int}(h:d.Good)(hg:d.oA p=true):(d.dY p).Good:=by
 have hI:=yA (p:=p) h.inv
 unfold oA at hg
 simp only [Bool.and_eq_true,bne_iff_ne,ne_eq,beq_iff_eq,Bool.or_eq_true]at hg
 obtain⟨hp,ho,ht,PF,hr⟩:=hg
 have p0:=ai hp
 have o0:=ai ho
 by_cases he:d.cZ p=0
 ·have e:d.dY p=d.aW p:=by unfold DB.dY;rw [if_pos he]
  rw [e]at hI ⊢
  have g:∀x,(d.aW p).at_ x=(if(d.at_ p).typ !=1 && ((d.set p .free).bR (d.at_ p).owner && decide (((d.set p .free).at_ (d.at_ p).owner).refs>0))then(d.set p .free).more (d.at_ p).owner (-1)else d.set p .free).at_ x:=fun x=>rfl
  have hc:∃r:Int,r≤(d.at_ (d.at_ p).owner).refs∧((d.at_ p).typ≠1→(d.at_ (d.at_ p).owner).typ=1→r≤0∨r≤(d.at_ (d.at_ p).owner).refs - 1)∧∀x:Int,0≤x→(d.aW p).at_ x=if x=p then Ent.free else if x=(d.at_ p).owner then {d.at_ x with refs:=r}else d.at_ x:=by
   by_cases Rt:((d.at_ p).typ !=1 && ((d.set p .free).bR (d.at_ p).owner && decide (((d.set p .free).at_ (d.at_ p).owner).refs>0)))=true
   ·have g2:=fun x=>(g x).trans (by rw [if_pos Rt])
    simp only [Bool.and_eq_true,bR,dB,bne_iff_ne,ne_eq,decide_eq_true_eq,beq_iff_eq]at Rt
    have OG:(d.at_ p).owner≠p:=by
     intro e1
     have h9:=Rt.2.2
     rw [e1,bD p0.1 p0.1,if_pos rfl]at h9;exact absurd h9 (by decide)
    have e1:(d.set p .free).at_ (d.at_ p).owner=d.at_ (d.at_ p).owner:=by rw [bD p0.1 o0.1,if_neg OG]
    refine⟨(d.at_ (d.at_ p).owner).refs+ -1,by omega,fun _ _=>.inr (by omega),fun x hx=>?_⟩
    rw [g2]
    unfold more
    rw [bD o0.1 hx,e1]
    by_cases e2:x=(d.at_ p).owner
    ·rw [if_pos e2,if_neg (by rw [e2];exact OG),if_pos e2,e2]
    ·rw [if_neg e2,bD p0.1 hx,if_neg e2]
   ·have g2:=fun x=>(g x).trans (by rw [if_neg Rt])
    refine⟨(d.at_ (d.at_ p).owner).refs,by omega,fun h1 h2=>?_,fun x hx=>?_⟩
    ·left
     simp only [Bool.and_eq_true,bR,dB,bne_iff_ne,ne_eq,decide_eq_true_eq,beq_iff_eq,not_and]at Rt
     by_cases OG:(d.at_ p).owner=p
     ·rw [OG]at h2;exact absurd h2 h1
     ·rw [bD p0.1 o0.1,if_neg OG]at Rt
      have:=Rt h1 ⟨ho,h2⟩
      omega
    ·rw [g2,bD p0.1 hx]
     by_cases e1:x=p
     ·rw [if_pos e1,if_pos e1]
     ·rw [if_neg e1,if_neg e1]
      by_cases e2:x=(d.at_ p).owner
      ·rw [if_pos e2,← e2]
      ·rw [if_neg e2]
  obtain⟨r,Rn,QY,hat⟩:=hc
  have hh:∀x,(d.aW p).has x=d.has x:=fun x=>by
   unfold aW
   show(Mem.zero _ true p).has true x=_
   rw [oz];split<;>rfl
  have hS:(d.aW p).S=d.S:=by
   unfold aW
   show(Mem.zero _ true p).S=_
   rw [Mem.qi];split<;>rfl
  have ow:∀x:Int,∀q:Nat,(q:Int)≠p→d.aP x q=true→(d.aW p).aP x q=true:=fun x q hq hx=>by
   obtain⟨h1,h2,h3⟩:=bH hx
   have e1:=hat (q:Int) (by omega)
   rw [cW,if_neg hq]at e1
   refine cG ?_
   rw [e1]
   split
   ·exact⟨h1,by rw [cW];exact h2,by rw [cW];exact h3⟩
   ·exact⟨h1,by rw [cW];exact h2,by rw [cW];exact h3⟩
  have t1:∀x:Int,d.has x=true→((d.aW p).at_ x).typ=1→x≠p∧(d.at_ x).typ=1∧((d.aW p).at_ x).owner=(d.at_ x).owner∧((d.aW p).at_ x).state=(d.at_ x).state:=fun x hx h1=>by
   have x0:=ai hx
   rw [hat x x0.1]at h1 ⊢
   by_cases e1:x=p
   ·rw [if_pos e1]at h1;cases h1
   ·rw [if_neg e1]at h1 ⊢
    split at h1
    ·rename_i e2;rw [if_pos e2];exact⟨e1,h1,rfl,rfl⟩
    ·rename_i e2;rw [if_neg e2];exact⟨e1,h1,rfl,rfl⟩
  refine⟨hI,fun x hx h1=>?_,fun x hx h1=>?_,fun x hx=>?_⟩
  ·rw [hh]at hx
   obtain⟨n1,n2,n3,_⟩:=t1 x hx h1
   rw [n3];exact h.own x hx n2
  ·rw [hh]at hx
   obtain⟨n1,n2,n3,_⟩:=t1 x hx h1
   have x0:=ai hx
   have hrx:=h.refs x hx n2
   rw [hat x x0.1,if_neg n1]
   by_cases e2:x=(d.at_ p).owner
   ·rw [if_pos e2]
    show r≤_
    have hc:d.cnt x≤(d.aW p).cnt x+1:=by
     unfold cnt;rw [hS]
     exact j3 (p:=p.toNat) fun q _ hq hx=>ow x q (by omega) hx
    by_cases hpt:(d.at_ p).typ=1
    ·exact absurd (e2.trans (h.own p hp hpt)) n1
    ·rw [← e2]at Rn QY
     rcases QY hpt n2 with h9 | h9<;>omega
   ·rw [if_neg e2]
    have hc:d.cnt x≤(d.aW p).cnt x:=by
     unfold cnt;rw [hS]
     refine ez fun q _ hq=>ow x q ?_ hq
     rintro e3
     have:=(bH hq).2.2
     rw [← cW,e3]at this
     exact e2 this.symm
    omega
  ·obtain⟨b1,b2,b3⟩:=bW.1 hx
   rw [hh]at b1
   obtain⟨n1,n2,n3,n4⟩:=t1 x b1 b2
   rw [n4]at b3
   have hxd:d.aT x=0:=bW.2 ⟨b1,n2,b3⟩
   obtain⟨a,b,c⟩:=bf (h.tbl x hxd)
   have ew:(d.aW p).word x 0=d.word x 0:=by
    unfold aW word
    have hm:∀c:Bool,(DB.aD (if c then(d.set p .free).more (d.at_ p).owner (-1)else d.set p .free) (·.zero true p)).mem=d.mem.zero true p:=by intro c;cases c<;>rfl
    rw [hm,Mem.uN (Ne.symm n1)]
   rw [ew]
   have q0:=ai a
   refine gL ⟨by rw [hh];exact a,?_⟩
   have nq:d.word x 0≠p:=by
    intro e1;rw [e1]at c
    rw [c]at PF;omega
   rw [hat _ q0.1,if_neg nq]
   split
   ·exact⟨b,c⟩
   ·exact⟨b,c⟩
 ·have e:d.dY p=d:=by unfold DB.dY;rw [if_neg he]
  rw [e];exact h
theorem Good.space {d:DB} {s f:Int}(h:d.Good):(d.bE s f).Good:=by
 have hI:=uG (s:=s) (f:=f) h.inv
 by_cases he:d.cz s f=0
 ·have e:d.bE s f=(d.aN s f).aD (·.wrs s 11 Dg.new.save):=by unfold bE;rw [if_pos he]
  unfold cz at he
  have h1:¬d.bn s≠0:=by grind
  have h2:¬d.bn f≠0:=by grind
  have h3:¬s=f:=by grind
  have h4:¬d.bw s≠0:=by grind
  have h5:¬d.bw f≠0:=by grind
  have h6:¬d.av≥64:=by grind
  have hs:=fw h1
  have hf:=fw h2
  have r1:=ai hs
  have r2:=ai hf
  have f1:=fq hs h4
  have f2:=fq hf h5
  have ht:d.aR s f=0:=by rw [fi h1 h2 h3 h4 h5,if_neg h6]
  have e2:d.aN s f=d.aV s f:=by unfold aN;rw [if_pos ht]
  rw [e,e2]at hI ⊢
  have hm:((d.aV s f).aD (·.wrs s 11 Dg.new.save)).mem=(((d.mem.write true s 0 f).write true s 1 d.av).write true s 2 0).wrs s 11 Dg.new.save:=rfl
  have hS:((d.aV s f).aD (·.wrs s 11 Dg.new.save)).S=d.S:=by
   show(((((d.mem.write true s 0 f).write true s 1 d.av).write true s 2 0)).wrs s 11 Dg.new.save).S=_
   rw [Mem.ig,Mem.bh,Mem.bh,Mem.bh];rfl
  generalize hD:(d.aV s f).aD (·.wrs s 11 Dg.new.save)=D at hI hm hS ⊢
  have hh:∀x,D.has x=d.has x:=fun x=>by unfold has;rw [hS]
  have hat:∀x:Int,0≤x→D.at_ x=if x=f then⟨3,s,0,0,false⟩else if x=s then⟨1,s,1,1,false⟩else d.at_ x:=fun x hx=>by
   rw [← hD]
   show((d.set s ⟨1,s,1,1,false⟩).set f ⟨3,s,0,0,false⟩).at_ x=_
   rw [bD r2.1 hx,bD r1.1 hx]
  have eW:∀x:Int,∀q:Nat,d.aP x q=true→D.aP x q=true:=fun x q hq=>by
   obtain⟨a,b,c⟩:=bH hq
   rw [← cW]at b c
   have:=hat (q:Int) (by omega)
   rw [if_neg (by rintro e1;rw [e1]at b;exact b f2),if_neg (by rintro e1;rw [e1]at b;exact b f1),cW]at this
   exact cG ⟨a,by rw [this];exact b,by rw [this];exact c⟩
  refine⟨hI,fun x hx t1=>?_,fun x hx t1=>?_,fun x hx=>?_⟩
  ·rw [hh]at hx
   have x0:=ai hx
   rw [hat x x0.1]at t1 ⊢
   by_cases e1:x=f
   ·rw [if_pos e1]at t1;cases t1
   ·rw [if_neg e1]at t1 ⊢
    by_cases e2:x=s
    ·rw [if_pos e2];exact e2.symm
    ·rw [if_neg e2]at t1 ⊢;exact h.own x hx t1
  ·rw [hh]at hx
   have x0:=ai hx
   rw [hat x x0.1]at t1 ⊢
   by_cases e1:x=f
   ·rw [if_pos e1]at t1;cases t1
   ·rw [if_neg e1]at t1 ⊢
    by_cases e2:x=s
    ·rw [if_pos e2]
     show(1:Int)≤_
     have UJ:((f.toNat:Nat):Int)=f:=Int.toNat_of_nonneg r2.1
     have:=ir (f:=fun _=>false) (g:=D.aP x) (p:=f.toNat) (n:=D.S) (cG (by
      have:=hat f r2.1
      rw [if_pos rfl]at this
      rw [UJ,show D.ent f.toNat=D.at_ f from rfl,this]
      exact⟨Ne.symm e1,(by show(3:Int)≠0;decide),e2.symm⟩)) rfl (by rw [hS];show f.toNat<d.S;have:=r2.2;omega) (fun q _ h9=>by cases h9)
     unfold cnt
     omega
    ·rw [if_neg e2]at t1 ⊢
     have hc:d.cnt x≤D.cnt x:=by
      unfold cnt;rw [hS]
      exact ez fun q _ hq=>eW x q hq
     have:=h.refs x hx t1
     omega
  ·obtain⟨b1,b2,b3⟩:=bW.1 hx
   rw [hh]at b1
   have x0:=ai b1
   rw [hat x x0.1]at b2 b3
   by_cases e1:x=f
   ·rw [if_pos e1]at b2;cases b2
   ·rw [if_neg e1]at b2 b3
    unfold word
    rw [hm,Mem.mD _ _ _ (by omega),Mem.vU (by omega),Mem.vU (by omega)]
    by_cases e2:x=s
    ·rw [e2,Mem.dj hs (by decide),if_pos rfl]
     refine gL ⟨by rw [hh];exact hf,?_⟩
     rw [hat f r2.1,if_pos rfl]
     exact⟨rfl,rfl⟩
    ·rw [if_neg e2]at b2 b3
     rw [Mem.bU (Ne.symm e2)]
     obtain⟨a,b,c⟩:=bf (h.tbl x (bW.2 ⟨b1,b2,b3⟩))
     have q0:=ai a
     refine gL ⟨by rw [hh];exact a,?_⟩
     show(D.at_ (d.word x 0)).typ=3∧(D.at_ (d.word x 0)).owner=x
     rw [hat _ q0.1,if_neg (by intro e3;rw [e3]at b;omega),if_neg (by intro e3;rw [e3]at b;omega)]
     exact⟨b,c⟩
 ·have e:d.bE s f=d:=by unfold bE;rw [if_neg he]
  rw [e];exact h
theorem add_eq(d:DB)(s i q:Int):d.add s i q=d.aE (d.add s i q).mem∧(d.add s i q).mem.S=d.mem.S:=by
 unfold add;split
 ·exact⟨rfl,Mem.bh ..⟩
 ·exact⟨rfl,rfl⟩
theorem put_eq(d:DB)(s va:Int)(M:Mp):d.put s va M=d.aE (d.put s va M).mem∧(d.put s va M).mem.S=d.mem.S:=by
 unfold put;split
 ·exact⟨rfl,Mem.bh ..⟩
 ·exact⟨rfl,rfl⟩
theorem Gt {d:DB} {s i q x y:Int}(h:(d.at_ x).typ≠3):(d.add s i q).mem.aZ true x y=d.mem.aZ true x y:=by
 unfold add;split
 ·rename_i he
  exact Mem.bU fun e=>h (e▸(bf (Dy he).2).2.1)
 ·rfl
theorem yj {d:DB} {s va x y:Int} {M:Mp}(h:(d.at_ x).typ≠4):(d.put s va M).mem.aZ true x y=d.mem.aZ true x y:=by
 unfold put;split
 ·rename_i he
  exact Mem.bU fun e=>h (e▸(bf (ye he).1).2.1)
 ·rfl
theorem Good.msd {kk:List Int} {d D:DB} {s k a:Int} {l:List U32}(h:d.Good)(e:D=d.aE D.mem)(hS:D.mem.S=d.mem.S)(hw:∀x,d.aT x=0→D.mem.aZ true x 0=d.mem.aZ true x 0)(hI:(D.aD (fun m=>m.msd kk s k a l)).Inv):(D.aD (fun m=>m.msd kk s k a l)).Good:=by
 have e2:D.aD (fun m=>m.msd kk s k a l)=d.aE (D.mem.msd kk s k a l):=by
  unfold DB.aD;rw [e];rfl
 rw [e2]at hI ⊢
 exact h.aD (by rw [Mem.lH];exact hS) hI fun x hx=>by rw [Mem.D7];exact hw x hx
theorem EA {kk:List Int} {d:DB} {o:LOp}(ho:o.Ok)(h:d.Good)(hw:d.mem.Wf):(d.call kk o).Good:=by
 have hI:=Hl (kk:=kk) ho h.inv hw
 unfold call at hI ⊢
 split
 ·exact h.space
 rename_i n1
 rw [if_neg n1]at hI
 split
 ·rename_i n2
  rw [if_pos n2]at hI
  unfold bu at hI ⊢
  split
  ·rename_i he
   rw [if_pos he]at hI
   unfold bV at he
   have h1:¬d.aT o.a≠0:=by grind
   have h2:¬d.bn o.b≠0:=by grind
   have h3:¬d.bw o.b≠0:=by grind
   have f1:=fq (fw h2) h3
   have G:=h.take (p:=o.b) (t:=2) (s:=o.a) (by omega) (by omega)
   exact G.msd (D:=(d.take o.b 2 o.a).aD (·.write true o.b 0 o.c)) rfl (Mem.bh ..) (fun x hx=>by
    have b:=bW.1 (kp (by omega) (kI h1).1 hx)
    exact Mem.bU (by rintro rfl;omega)) hI
  ·exact h
 rename_i n2
 rw [if_neg n2]at hI
 split
 ·rename_i n3
  rw [if_pos n3]at hI
  unfold dG at hI ⊢
  split
  ·rename_i he
   rw [if_pos he]at hI
   have G:=h.take (p:=o.b) (t:=4) (s:=o.a) (by omega) (by omega)
   have e:=add_eq (d.take o.b 4 o.a) o.a o.c o.b
   exact G.msd e.1 e.2 (fun x hx=>Gt (by have:=(bW.1 hx).2.1;omega)) hI
  ·exact h
 rename_i n3
 rw [if_neg n3]at hI
 split
 ·rename_i n4
  rw [if_pos n4]at hI
  unfold eO at hI ⊢
  split
  ·rename_i he
   rw [if_pos he]at hI
   unfold dq at he
   have h1:¬d.aT o.a≠0:=by grind
   have h2:¬d.bn o.b≠0:=by grind
   have h3:¬d.bw o.b≠0:=by grind
   have f1:=fq (fw h2) h3
   have G:=h.take (p:=o.b) (t:=5) (s:=o.a) (by omega) (by omega)
   have e1:(d.cO o.a o.b o.c o.d).aD (fun m=>m.msd kk o.a 3 o.c (m.words true o.b.toNat))=(d.cO o.a o.b o.c o.d).aD (fun m=>m.msd kk o.a 3 o.c ((d.cO o.a o.b o.c o.d).mem.words true o.b.toNat)):=by
    unfold DB.aD;rfl
   rw [e1]at hI ⊢
   have e:=put_eq ((d.take o.b 5 o.a).aD (·.copy true o.b false o.d)) o.a (cm o.c) (Mp.mk true o.b (paW o.c) (paX o.c))
   refine G.msd (D:=d.cO o.a o.b o.c o.d) e.1 (e.2.trans (Mem.lZ ..)) (fun x hx=>?_) hI
   have b:=bW.1 hx
   have b':=bW.1 (kp (by omega) (kI h1).1 hx)
   unfold cO
   rw [yj (by show((d.take o.b 5 o.a).at_ x).typ≠4;omega)]
   exact Mem.iC (by rintro rfl;omega)
  ·exact h
 ·rename_i n4
  rw [if_neg n4]at hI
  unfold dH at hI ⊢
  split
  ·rename_i he
   rw [if_pos he]at hI
   have e:=put_eq d o.a (cm o.b) (Mp.mk false o.c (paW o.b) false)
   exact h.msd e.1 e.2 (fun x hx=>yj (by have:=(bW.1 hx).2.1;omega)) hI
  ·exact h
theorem ze {d:DB} {o:LOp}(h:d.Good):(d.beside o).Good:=by
 have hI:=BP (o:=o) h.inv
 unfold beside at hI ⊢
 split
 ·rename_i n1
  rw [if_pos n1]at hI
  exact h.aD (Mem.bh ..) hI fun x _=>Mem.yk
 rename_i n1
 rw [if_neg n1]at hI
 split
 ·rename_i n2
  rw [if_pos n2]at hI
  split
  ·rename_i hb
   have b0:d.has o.a=true∧(d.at_ o.a).typ=1∧(d.at_ o.a).state=1:=by simpa [lL,and_assoc]using hb
   rw [if_pos hb]at hI
   have e1:d.aS o.a 2=0:=by unfold aS;simp [b0.1,b0.2.1,b0.2.2]
   have e2:(d.aD fun m=>m.wrs o.a 11 (List.replicate 26 0)).aS o.a 2=0:=by
    have h9:(d.aD fun m=>m.wrs o.a 11 (List.replicate 26 0)).has o.a=d.has o.a:=Mem.ru o.a true o.a (List.replicate 26 0) d.mem 11
    have h8:(d.aD fun m=>m.wrs o.a 11 (List.replicate 26 0)).at_ o.a=d.at_ o.a:=rfl
    unfold aS;rw [h9,h8];simp [b0.1,b0.2.1,b0.2.2]
   have e3:(d.aD fun m=>m.wrs o.a 11 (List.replicate 26 0)).setState o.a 2=(d.setState o.a 2).aE (d.mem.wrs o.a 11 (List.replicate 26 0)):=by
    unfold DB.setState;rw [if_pos e1,if_pos e2];rfl
   rw [e3]at hI ⊢
   exact(h.setState (by omega)).aD (by rw [Mem.ig,cI]) hI fun x _=>by rw [Mem.mD _ _ _ (by omega),cI]
  ·exact h
 split
 ·exact h.setState (by omega)
 split
 ·split
  ·rename_i hg
   exact h.dY hg
  ·exact h
 ·exact h
theorem Good.room {d:DB}(h:d.Good)(hS:d.S≤64) {s p:Int}(hs:d.has s=true)(ht:(d.at_ s).typ=1)(hp:d.has p=true)(hf:(d.at_ p).typ=0):(d.at_ s).refs<63:=by
 have s0:=ai hs
 have p0:=ai hp
 have:=Ew (f:=d.aP s) (a:=s.toNat) (b:=p.toNat) (n:=d.S) (by omega) (by omega) (by rintro e;exact absurd (show s=p by omega) (by rintro rfl;omega)) (by
  rw [← Bool.not_eq_true];intro hq
  exact(bH hq).1 (Int.toNat_of_nonneg s0.1)) (by
  rw [← Bool.not_eq_true];intro hq
  exact(bH hq).2.1 hf)
 have:=h.refs s hs ht
 unfold cnt at this
 omega
theorem Good.xM {d:DB}(h:d.Good)(hS:d.S≤64) {s p t:Int}(h1:¬d.aT s≠0)(h2:¬d.bn p≠0)(h3:¬d.bw p≠0)(ht:t=2∨t=4∨t=5):d.bM p t s=0:=by
 have b:=kI h1
 have hp:=fw h2
 have hf:=fq hp h3
 have hr:=h.room hS b.1 b.2.1 hp hf
 unfold bM bR turns
 have NV:¬63≤(d.at_ s).refs:=by omega
 rcases ht with rfl | rfl | rfl<;>simp [hp,b.1,b.2.1,hf,NV]
theorem nV {d:DB} {s p t:Int}(h:d.Good)(he:d.bM p t s=0)(h1:¬d.aT s≠0):(d.take p t s).cC s=0∧d.cC s=0∧(d.take p t s).tbl s=d.tbl s∧d.tbl s≠p∧d.tbl s≠s:=by
 obtain⟨hp,hs,Vj,hr,hf,e⟩:=nW he
 have b:=kI h1
 have PZ:s≠p:=by rintro rfl;omega
 have s0:=ai hs
 obtain⟨a1,a2,a3⟩:=bf (h.tbl s (by omega))
 have n1:d.word s 0≠s:=by intro e1;rw [e1]at a2;omega
 have n2:d.word s 0≠p:=by intro e1;rw [e1]at a2;omega
 have t0:d.cC s=0:=by
  unfold cC
  rw [h.tbl s (by omega)]
  simp [b.1,b.2.1,b.2.2]
 have t1:(d.bZ p t s).cC s=0:=by
  have o1:(d.bZ p t s).of ((d.bZ p t s).word s 0) 3 s=true:=by
   show(d.bZ p t s).of (d.word s 0) 3 s=true
   refine gL ⟨a1,?_⟩
   rw [ej hp hs (ai a1).1 PZ,if_neg n1,if_neg n2];exact⟨a2,a3⟩
  unfold cC
  rw [o1,ej hp hs s0.1 PZ,if_pos rfl]
  simp [show(d.bZ p t s).has s=true from hs,b.2.1,b.2.2]
 have e1:d.tbl s=d.word s 0:=by unfold tbl;rw [if_pos t0]
 rw [e,e1]
 refine⟨t1,t0,?_,n2,n1⟩
 unfold tbl;rw [if_pos t1];rfl
theorem Good.Nx {d:DB}(h:d.Good)(hS:d.S≤64) {s p i:Int}(hi:0≤i)(he:d.dh s p i=0):d.bM p 4 s=0∧(d.take p 4 s).lV s i p=0:=by
 unfold dh at he
 have h1:¬d.aT s≠0:=by grind
 have h2:¬d.bn p≠0:=by grind
 have h3:¬256≤i:=by grind
 have h4:¬d.bw p≠0:=by grind
 have h5:d.word (d.tbl s) i=0:=by grind
 have ht:=h.xM hS h1 h2 h4 (t:=4) (by omega)
 obtain⟨t1,_,t2,_,_⟩:=nV h ht h1
 obtain⟨hp,hs,Vj,hr,hf,e⟩:=nW ht
 have PZ:s≠p:=by rintro rfl;omega
 refine⟨ht,?_⟩
 have o1:(d.take p 4 s).of p 4 s=true:=by
  rw [e]
  refine gL ⟨hp,?_⟩
  rw [ej hp hs (ai hp).1 PZ,if_neg (Ne.symm PZ),if_pos rfl];exact⟨rfl,rfl⟩
 have hw:(d.take p 4 s).word ((d.take p 4 s).tbl s) i=0:=by
  rw [t2];unfold word;rw [bx];exact h5
 unfold lV
 rw [t1,o1,hw]
 have hh:(d.take p 4 s).has p=true:=by rw [e];exact hp
 simp [hh];omega
theorem vL {d:DB} {s va:Int}(h:d.eE s va=0):d.bB s va=0:=by
 unfold eE at h
 by_cases h1:d.bB s va=0
 ·exact h1
 ·rw [if_neg h1]at h;split at h<;>omega
theorem n6 {d:DB} {s va:Int}(h:d.bB s va=0):d.cC s=0∧jk va=0∧d.iK s (d.word (d.tbl s) (vaI va))=true∧d.word (d.plP s va) (vaJ va)=0:=by
 unfold bB at h
 have h1:d.eH s va=0:=by
  by_cases h1:d.eH s va=0
  ·exact h1
  ·rw [if_pos h1]at h;exact h
 rw [if_neg (by omega)]at h
 have h2:d.word (d.plP s va) (vaJ va)=0:=by
  by_cases h2:d.word (d.plP s va) (vaJ va)=0
  ·exact h2
  ·rw [if_pos h2]at h;omega
 unfold eH at h1
 have h3:d.cC s=0:=by
  by_cases h3:d.cC s=0
  ·exact h3
  ·rw [if_pos h3]at h1;exact h1
 rw [if_neg (by omega)]at h1
 have h4:jk va=0:=by
  by_cases h4:jk va=0
  ·exact h4
  ·rw [if_pos h4]at h1;omega
 rw [if_neg (by omega)]at h1
 have h5:d.iK s (d.word (d.tbl s) (vaI va))=true:=by
  by_cases h5:d.iK s (d.word (d.tbl s) (vaI va))=true
  ·exact h5
  ·rw [if_neg h5]at h1;omega
 exact⟨h3,h4,h5,h2⟩
theorem I4 {d:DB} {s va:Int}(h1:d.cC s=0)(h2:jk va=0)(h3:d.iK s (d.word (d.tbl s) (vaI va))=true)(h4:d.word (d.plP s va) (vaJ va)=0):d.bB s va=0:=by
 have h5:d.eH s va=0:=by unfold eH;rw [if_neg (by omega),if_neg (by omega),if_pos h3]
 unfold bB;rw [if_neg (by omega),if_neg (by omega)]
theorem Good.Mm {d:DB}(h:d.Good)(hS:d.S≤64) {s p w n:Int}(hn:0≤n)(he:d.dq s p w n=0):lE w=0∧d.bM p 5 s=0∧d.mem.td true p false n=0∧((d.take p 5 s).aD (·.copy true p false n)).iN s (cm w) (Mp.mk true p (paW w) (paX w))=0:=by
 unfold dq at he
 have h1:¬d.aT s≠0:=by grind
 have h2:¬d.bn p≠0:=by grind
 have h3:fT w=0:=by grind
 have h4:¬d.fH n≠0:=by grind
 have h5:¬d.bw p≠0:=by grind
 have h6:d.eE s (cm w)=0:=by grind
 have hpa:lE w=0:=by
  unfold fT at h3
  by_cases h9:lE w=0
  ·exact h9
  ·rw [if_neg h9]at h3;omega
 have ht:=h.xM hS h1 h2 h5 (t:=5) (by omega)
 obtain⟨t1,_,t2,t3,t4⟩:=nV h ht h1
 obtain⟨hp,hs,Vj,hr,hf,e⟩:=nW ht
 have PZ:s≠p:=by rintro rfl;omega
 obtain⟨s1,s2,s3,s4⟩:=n6 (vL h6)
 have pf:iP (d.word (d.tbl s) (vaI (cm w)))=0∧d.of (aH (d.word (d.tbl s) (vaI (cm w)))) 4 s=true:=by simpa [iK]using s3
 obtain⟨q1,q2,q3⟩:=bf pf.2
 have n1:aH (d.word (d.tbl s) (vaI (cm w)))≠p:=by intro e1;rw [e1]at q2;omega
 have n2:aH (d.word (d.tbl s) (vaI (cm w)))≠s:=by intro e1;rw [e1]at q2;omega
 refine⟨hpa,ht,by unfold Mem.td;rw [show d.mem.has true p=true from hp,Lu hn h4];rfl,?_⟩
 have ww:∀x y,x≠p→((d.take p 5 s).aD (·.copy true p false n)).word x y=d.word x y:=fun x y hx=>by
  show((d.take p 5 s).mem.copy true p false n).aZ true x y=_
  rw [Mem.iC (Ne.symm hx),bx];rfl
 have hS2:((d.take p 5 s).mem.copy true p false n).S=(d.take p 5 s).mem.S:=Mem.lZ ..
 have O1:∀x t o,((d.take p 5 s).aD (·.copy true p false n)).of x t o=(d.take p 5 s).of x t o:=fun x t o=>by
  unfold of is has
  rw [show((d.take p 5 s).aD (·.copy true p false n)).S=(d.take p 5 s).S from hS2];rfl
 have hT:((d.take p 5 s).aD (·.copy true p false n)).cC s=0:=by
  have t1':=t1
  unfold cC at t1' ⊢
  rw [O1,ww s 0 PZ]
  unfold has at t1' ⊢
  rw [show((d.take p 5 s).aD (·.copy true p false n)).S=(d.take p 5 s).S from hS2]
  have e9:(d.take p 5 s).word s 0=d.word s 0:=by unfold word;rw [bx]
  rw [e9]at t1'
  exact t1'
 have hTb:((d.take p 5 s).aD (·.copy true p false n)).tbl s=d.tbl s:=by
  rw [← t2]
  unfold DB.tbl
  rw [if_pos hT,if_pos t1,ww s 0 PZ]
  unfold word;rw [bx]
 have hwT:((d.take p 5 s).aD (·.copy true p false n)).word (((d.take p 5 s).aD (·.copy true p false n)).tbl s) (vaI (cm w))=d.word (d.tbl s) (vaI (cm w)):=by rw [hTb,ww _ _ t3]
 have Vm:((d.take p 5 s).aD (·.copy true p false n)).bB s (cm w)=0:=by
  refine I4 hT s2 ?_ ?_
  ·rw [hwT]
   unfold iK
   rw [O1,e,pf.1]
   have:(d.bZ p 5 s).of (aH (d.word (d.tbl s) (vaI (cm w)))) 4 s=true:=by
    refine gL ⟨q1,?_⟩
    rw [ej hp hs (ai q1).1 PZ,if_neg n2,if_neg n1];exact⟨q2,q3⟩
   rw [this];rfl
  ·unfold plP
   rw [hwT]
   rw [ww _ _ n1];exact s4
 unfold iN
 rw [if_neg (by omega)]
 have p0:=ai hp
 unfold Mp.err
 rw [if_pos ⟨p0.1,by show p<64;omega⟩]
 simp
theorem Good.shares {d:DB}(hI:d.mem.I≤64) {s w n:Int}(hn:0≤n)(he:d.dW s w n=0):lE w=0∧paX w=false∧n<(d.mem.I:Int)∧d.iN s (cm w) (Mp.mk false n (paW w) false)=0:=by
 unfold dW at he
 have h3:fT w=0:=by grind
 have h2:paX w=false:=by grind
 have h4:¬d.fH n≠0:=by grind
 have h6:d.eE s (cm w)=0:=by grind
 have hpa:lE w=0:=by
  unfold fT at h3
  by_cases h9:lE w=0
  ·exact h9
  ·rw [if_neg h9]at h3;omega
 have hi:n<(d.mem.I:Int):=by
  unfold fH at h4
  split at h4
  ·assumption
  ·simp at h4
 refine⟨hpa,h2,hi,?_⟩
 unfold iN
 rw [if_neg (by have:=vL h6;omega)]
 unfold Mp.err
 rw [if_pos ⟨hn,by show n<64;omega⟩]
 rfl
def pre(d:DB)(o:LOp):DB:=if o.k=2 then(d.take o.b 2 o.a).aD (·.write true o.b 0 o.c)else if o.k=3 then(d.take o.b 4 o.a).add o.a o.c o.b else if o.k=4 then d.cO o.a o.b o.c o.d else d.put o.a (cm o.b) (Mp.mk false o.c (paW o.b) false)
def _root_.Go.Proofs.YtinhphjfnedhgaaGreatDoor.opK(o:LOp):Int:=if o.k=2 then 1 else if o.k=3 then 2 else 4
def _root_.Go.Proofs.YtinhphjfnedhgaaGreatDoor.opA(o:LOp):Int:=if o.k=2 then o.c else if o.k=3 then o.c else o.b
theorem JJ {kk:List Int} {d:DB} {o:LOp}(h:d.dC o≠0):d.call kk o=d:=by
 unfold dC at h
 unfold call
 split
 ·rename_i h1;rw [if_pos h1]at h;unfold bE;exact if_neg h
 rename_i h1
 rw [if_neg h1]at h
 split
 ·rename_i h2;rw [if_pos h2]at h;unfold bu;exact if_neg h
 rename_i h2
 rw [if_neg h2]at h
 split
 ·rename_i h3;rw [if_pos h3]at h;unfold dG;exact if_neg h
 rename_i h3
 rw [if_neg h3]at h
 split
 ·rename_i h4;rw [if_pos h4]at h;unfold eO;exact if_neg h
 ·rename_i h4;rw [if_neg h4]at h;unfold dH;exact if_neg h
end DB
end Go.Proofs.YtinhphjfnedhgaaGreatDoor
namespace Go.Proofs.YtinhphjfnedhgaaGreatDoor
open Go.Proofs.Tryz (prog)
open Go Go.RowKit V
open Go.IntKind (i64 u32 u64)
section
set_option maxRecDepth 100000
set_option maxHeartbeats 1000000
attribute [local irreducible] Vc2 VcD
section
attribute [local grind=] opK opA
end
def mi:Ctr Un:=⟨[.agg [.int .i64,.int .i64]],[],[],[],fun s i K=>split (okM s i) (∀(rP:Nat→Nat)(rN:Nat→Nat),K ⟨(.tuple #[(.pointer (some (Addr.mk (rP 0) 0 none))),(.bool true)]),(some (.t [(some (.obj 0 0 0)),none])),[],[(.ob 1 rP ((DB.new (Mem.fresh s.toNat i.toNat)).pd)),(.ob 0 rN ((Mem.fresh s.toNat i.toNat).dw s.toNat))],[(.l 0 1,.p (.obj 1 0 0))]⟩) (K ⟨(.tuple #[(.pointer none),(.bool true)]),(some (.t [none,none])),[],[],[]⟩)⟩
def Ax(s:Int)(i:Int)(Q:Ou Un→Prop):Prop:=
 ∀(gv:Nat),
 split (okM s i) (
  ∀(rN:Nat→Nat),
  ∀(m:Mem),m=(Mem.fresh s.toNat i.toNat)→
  Mem.Wf m→
  ∃J:Bool→Prop,(
   split (decide (s≥1)) (
    split (decide (s≤64)) (
     split (decide (i≥1)) (
      ∀may:Bool,may=(decide ((i:Int)≤64))→
      J may) (
      ∀may:Bool,may=false→
      J may)) (
     ∀may:Bool,may=false→
     J may)) (
    ∀may:Bool,may=false→
    J may))∧∀(NU:Nat→Value)(may:Bool),J may→
  split (!may) (
   ∃J1:Option Addr→Bool→Prop,(
    J1 none false)∧∀(OJ:Nat→Value)(x2:Option Addr)(x3:Bool),J1 x2 x3→
   Q ⟨(.tuple #[(.pointer x2),(.bool x3)]),(some (.t [none,none])),[],[],[]⟩) (
   ∃J1:Bool→Prop,(
    J1 false)∧∀(OJ:Nat→Value)(RF:Bool),J1 RF→
   split RF (
    Q ⟨(.tuple #[(.pointer none),(.bool false)]),(some (.t [none,none])),[],[],[]⟩) (
    1≤m.S∧
    ∀(RJ:Nat→Nat),
    ∀(m1:Mem),m1=(m.dw m.S)→
    Mem.Wf m1→
    ∀(E:Pd),E=(DB.new m).pd→
    Pd.Ok E→
    Q ⟨(.tuple #[(.pointer (some (Addr.mk (RJ 0) 0 none))),(.bool true)]),(some (.t [(some (.obj 0 0 0)),none])),[],[(.ob 1 RJ E),(.ob 0 rN m1)],[(.l 0 1,.p (.obj 1 0 0))]⟩))) (
  ∃J:Bool→Prop,(
   split (decide (s≥1)) (
    split (decide (s≤64)) (
     split (decide (i≥1)) (
      ∀may:Bool,may=(decide ((i:Int)≤64))→
      J may) (
      ∀may:Bool,may=false→
      J may)) (
     ∀may:Bool,may=false→
     J may)) (
    ∀may:Bool,may=false→
    J may))∧∀(NU:Nat→Value)(may:Bool),J may→
  split (!may) (
   ∃J1:Option Addr→Bool→Prop,(
    J1 none true)∧∀(OJ:Nat→Value)(x2:Option Addr)(x3:Bool),J1 x2 x3→
   Q ⟨(.tuple #[(.pointer x2),(.bool x3)]),(some (.t [none,none])),[],[],[]⟩) (
   ∃J1:Bool→Prop,(
    J1 true)∧∀(OJ:Nat→Value)(RF:Bool),J1 RF→
   split RF (
    Q ⟨(.tuple #[(.pointer none),(.bool false)]),(some (.t [none,none])),[],[],[]⟩) (
    False)))
theorem Ay:Vc2 Un prog (aQ [(27,xi),(29,tR)]) [6] Tryz.f16 (.r' (.r' (.two (.node [] (some ⟨[(6,(.one .bool))],[],[6]++upN 16 18,[]⟩) [] [] .leaf .leaf) (.two (.r' (.two (.two (.node [] (some ⟨[(2,(.one .ptr)),(3,(.one .bool))],[],[2,3]++upN 36 6,[]⟩) [] [] .leaf .leaf) .leaf) .leaf)) (.two (.two (.node [] (some ⟨[(47,(.one .bool))],[],upN 42 6,[]⟩) [] [] .leaf .leaf) .leaf) .leaf))))) [1000000,2,1] mi=(∀s i,∀Q,(mi.body s i Q)→Ax s i Q):=by kernel_rfl
theorem Aw:LV Un prog 16 mi:=verify Tryz.func16 aa (tb:= [(27,xi),(29,tR)]) ⟨Kx,II,trivial⟩ (by kernel_rfl) (Ay.mpr fun s i Q h gv=>ab (fun c1=>(by have hm:=C7 c1;exact fun rN m h_m f1=>cY ((decide ((s:Int)≥1)) && ((decide ((s:Int)≤64)) && ((decide ((i:Int)≥1)) && (decide ((i:Int)≤64))))) (ab (fun c2=>ab (fun c3=>ab (fun c4=>allEq<| (by grind)) fun c4=>allEq<| (by grind)) fun c3=>allEq<| (by grind)) fun c2=>allEq<| (by grind))<| bL (fun c5=>(by exfalso;simp at c5;omega)) fun c5=>cY false ((by grind))<| jm<| af (by subst_vars;show 1≤s.toNat;omega) fun s2 RJ m1 Oe f3 E h_E f4=>au ((bP h ‹_›) RJ rN) rfl rfl (ae (rO1 (by subst_vars;rfl)) (ae (rO0 (by subst_vars;rfl)) rfl)))) fun c1=>(by have hm:=C8 c1;exact cY ((decide ((s:Int)≥1)) && ((decide ((s:Int)≤64)) && ((decide ((i:Int)≥1)) && (decide ((i:Int)≤64))))) (ab (fun c6=>ab (fun c7=>ab (fun c8=>allEq<| (by grind)) fun c8=>allEq<| (by grind)) fun c7=>allEq<| (by grind)) fun c6=>allEq<| (by grind))<| bL (fun c9=>dup2<| au (bQ h ‹_›) (congrArg (fun l=>Value.tuple (List.toArray l)) (ae rfl (ae (eQb (by grind)) rfl))) rfl rfl) fun c9=>(by exfalso;simp at c9;omega)))
def nN:Ctr Un:=⟨[.agg [.int .i64,.int .i64]],[],[],[],fun s i K=>split (okM s i) (∀(r:Nat→Nat)(s1:Sv),s1.D=DB.new (Mem.fresh s.toNat i.toNat)→K ⟨(.tuple #[(.pointer (some (Addr.mk (Sv.pD s1) 0 none))),(.bool true)]),(some (.t [none,none])),[],[(.ob 9 r s1)],[]⟩) (K ⟨(.tuple #[(.pointer none),(.bool true)]),(some (.t [none,none])),[],[],[]⟩)⟩
theorem Ck:LV Un prog 16 nN:=by
 show ∀(s:Int)(i:Int),∀Q:Ou Un→Prop,(split (okM s i) (∀(r:Nat→Nat)(s1:Sv),s1.D=DB.new (Mem.fresh s.toNat i.toNat)→Q ⟨(.tuple #[(.pointer (some (Addr.mk (Sv.pD s1) 0 none))),(.bool true)]),(some (.t [none,none])),[],[(.ob 9 r s1)],[]⟩) (Q ⟨(.tuple #[(.pointer none),(.bool true)]),(some (.t [none,none])),[],[],[]⟩))→∀(X:Nat→Nat→Prop)(w:World),Sat (U:=Un) [] X w→ax (U:=Un) [] fr0 []→Calls prog 16 #[(.agg #[(.int .i64 s),(.int .i64 i)])] w (aU (U:=Un) [] [] X w Q)
 intro s i Q hQ X w hs hl
 refine(Aw s i (fun o=>(okM s i=true∧∃(rP rN:Nat→Nat),o=⟨(.tuple #[(.pointer (some (Addr.mk (rP 0) 0 none))),(.bool true)]),(some (.t [(some (.obj 0 0 0)),none])),[],[(.ob 1 rP ((DB.new (Mem.fresh s.toNat i.toNat)).pd)),(.ob 0 rN ((Mem.fresh s.toNat i.toNat).dw s.toNat))],[(.l 0 1,.p (.obj 1 0 0))]⟩)∨(okM s i=false∧o=⟨(.tuple #[(.pointer none),(.bool true)]),(some (.t [none,none])),[],[],[]⟩)) (ab (fun h rP rN=>.inl ⟨h,rP,rN,rfl⟩) (fun h=>.inr ⟨h,rfl⟩)) X w hs hl).mono ?_
 rintro e w' ⟨out,rs',X',rfl,⟨hm,rP,rN,rfl⟩ | ⟨hm,rfl⟩,Oq,hp⟩
 ·obtain rfl: []=rs':=Option.some.inj Oq
  have l1:rP 1=rN 0:=by
   obtain⟨t,r,s',h1,h2⟩:=hp.kc (.l 0 1) (.p (.obj 1 0 0)) (by simp) (by simp)
   have h1:some (Res.ob (U:=Un) 1 rP (DB.new (Mem.fresh s.toNat i.toNat)).pd)=some (.ob t r s'):=h1
   cases h1
   have h2:some (Value.pointer (some ⟨rN 0,0,none⟩))=some (.pointer (some ⟨rP 1,0,none⟩)):=h2
   simpa using h2.symm
  have hQ:=bP hQ hm (fun _=>0) ⟨DB.new (Mem.fresh s.toNat i.toNat),rP 0,rN 0⟩ rfl
  exact aU.uQ (Z:=fun k=>X' 0 k∨X' 1 k) (kc:= []) hs (wF hp.ch) (show RS (U:=Un) (fun k=>X' 0 k∨X' 1 k) w' (.ob 9 (fun _=>0) (⟨DB.new (Mem.fresh s.toNat i.toNat),rP 0,rN 0⟩:Sv))from F9 (r:=fun _=>0) (hp.sat.res 0 _ rfl) (hp.sat.res 1 _ rfl) (hp.sat.dis 0 1 (show 0<2 by decide) (show 1<2 by decide) (by omega)) l1 rfl) (fun k hk=>hk.elim (hp.new 0 (by simp) (by simp) k) (hp.new 1 (by simp) (by simp) k)) hQ (KnO.tup _ (by simp)) (fun _ _ h=>by cases h)
 ·exact⟨_,_,_,rfl,bQ hQ hm,Oq,hp⟩
end
end Go.Proofs.YtinhphjfnedhgaaGreatDoor
namespace Go.Proofs.YtinhphjfnedhgaaGreatDoor
open Go.Proofs.Tryz (prog)
open Go Go.RowKit V
open Go.IntKind (i64 u32 u64)
theorem CW(w:Int):0≤(bY w).aj∧(bY w).aj<64:=by
 unfold bY
 split
 ·rename_i h
  have h:=h.2
  unfold sx Mp.err at h
  simp only [decide_eq_true_eq]at h
  have h:=h.1
  split at h
  ·assumption
  ·omega
 ·exact⟨by decide,by decide⟩
theorem rl {w:Int}(hw:0≤w):0≤aH w∧aH w<64:=by
 unfold aH
 split
 ·rename_i h
  unfold yg at h
  simp only [decide_eq_true_eq]at h
  omega
 ·omega
theorem eqF(a b:Bool)(x y:Int):bN #[.bool a,.int .i64 x] #[.bool b,.int .i64 y]=((a==b) && (x==y)):=by
 simp [bN,eqL,mT]
theorem Ev {f:Int→Bool} {a b:Int}(h:a≤b):dM f a≤dM f b:=by
 by_cases h0:a<0
 ·have e:dM f a=0:=by unfold dM;rw [show a.toNat=0 by omega];rfl
  rw [e];exact js
 obtain⟨k,rfl⟩:∃k:Nat,b=a+k:=⟨(b - a).toNat,by omega⟩
 clear h
 induction k with
 | zero=>simp
 | succ k ih=>
  have:=et (f:=f) (n:=a+(k:Int)) (by omega)
  rw [show a+((k+1:Nat):Int)=a+k+1 by omega,this]
  split<;>omega
theorem j2 {f:Int→Bool} {n:Int}(h:∀x,0≤x→x<n→f x=false):dM f n=0:=by
 unfold dM
 have:(List.range n.toNat).countP (fun(i:Nat)=>f (i:Int))=0:=by
  rw [List.countP_eq_zero]
  intro i hi
  have:=List.mem_range.1 hi
  rw [h _ (by omega) (by omega)];simp
 omega
theorem yX {f g:Int→Bool} {q:Int}:∀ {n:Nat},0≤q→f q=false→g q=true→(∀x,0≤x→x<(n:Int)→x≠q→g x=f x)→dM g n=dM f n+(if q<(n:Int)then 1 else 0)
 | 0,h0,_,_,_=>by rw [if_neg (by omega)];rfl
 | n+1,h0,hf,hg,h=>by
  have ih:=yX (n:=n) h0 hf hg fun x a b c=>h x a (by omega) c
  have e1:=et (f:=f) (n:=(n:Int)) (by omega)
  have e2:=et (f:=g) (n:=(n:Int)) (by omega)
  rw [show((n+1:Nat):Int)=(n:Int)+1 by omega,e1,e2,ih]
  by_cases hq:q=(n:Int)
  ·subst hq
   have a:¬(n:Int)<n:=by omega
   have b:(n:Int)<n+1:=by omega
   simp [hf,hg,b]
  ·rw [h _ (by omega) (by omega) (fun e=>hq e.symm)]
   by_cases h1:q<(n:Int)
   ·rw [if_pos h1,if_pos (show q<(n:Int)+1 by omega)];omega
   ·rw [if_neg h1,if_neg (show ¬q<(n:Int)+1 by omega)];omega
theorem DS {E:Pd} {i:Int}(h:0≤i∧i<(E.n:Int)):E.aJ.take i.toNat++ [E.ent i.toNat]=E.aJ.take (i+1).toNat:=by
 rw [show(i+1).toNat=i.toNat+1 by omega,List.take_add_one,Pd.sZ (by omega)];rfl
structure mZ(D:DB)(p lo:Int)(n:Nat)(x:Int)(l:List U32):Prop where
 len:l.length=n
 val:∀i:Nat,(i:Int)<x→i<n→l[i]? =some ⟨D.word p (lo+(i:Int))⟩
theorem mZ.init(D:DB)(p lo:Int)(n:Nat):mZ D p lo n 0 (List.replicate n (U32.mk 0)):=⟨by simp,fun i h=>by omega⟩
theorem mZ.next {D:DB} {p lo x:Int} {n:Nat} {l:List U32}(h:mZ D p lo n x l)(h0:0≤x)(hx:x<(n:Int))(hl:0≤lo∧lo<1024∧n<1024):mZ D p lo n (i64.wrap (x+1)) (l.set x.toNat ⟨D.word p (i64.wrap (lo+x))⟩):=by
 rw [aq (by omega),aq (by omega)]
 refine⟨by simp [h.len],fun i hi hn=>?_⟩
 rw [List.getElem?_set]
 by_cases Sz:x.toNat=i
 ·rw [if_pos Sz,if_pos (by rw [h.len];omega),show(i:Int)=x by omega]
 ·rw [if_neg Sz];exact h.val i (by omega) hn
theorem mZ.done {D:DB} {p lo x:Int} {n:Nat} {l:List U32}(h:mZ D p lo n x l)(hx:(n:Int)≤x):D.some_ p lo n=l:=by
 apply List.ext_getElem?
 intro i
 by_cases hi:i<n
 ·rw [h.val i (by omega) hi]
  simp [DB.some_,hi]
 ·rw [List.getElem?_eq_none (by simp [DB.some_];omega),List.getElem?_eq_none (by rw [h.len];omega)]
namespace DB
def cS(D:DB)(p:Int):Int:=if D.is (D.at_ p).owner 1 then(D.at_ p).owner else -1
def pgs(D:DB)(t o:Int)(n:Nat):List I64:=((List.range n).filter fun(q:Nat)=>(D.at_ (q:Int)).typ==t && (D.at_ (q:Int)).owner==o).map fun(q:Nat)=>⟨(q:Int)⟩
theorem yf(D:DB)(t o:Int) {i:Int}(h:0≤i∧i<9000000000000000000):D.pgs t o (i64.wrap (i+1)).toNat=if((D.at_ i).typ==t && (D.at_ i).owner==o)=true then D.pgs t o i.toNat++ [⟨i⟩]else D.pgs t o i.toNat:=by
 rw [aq (by omega),show(i+1).toNat=i.toNat+1 by omega]
 unfold pgs
 rw [List.range_succ,List.filter_append,List.map_append]
 have e:((i.toNat:Nat):Int)=i:=by omega
 split<;>rename_i hc<;>simp [e,hc]
theorem kz(D:DB)(t o:Int)(n:Nat):(D.pgs t o n).length≤n:=by
 unfold pgs
 rw [List.length_map]
 have:=List.length_filter_le (fun(q:Nat)=>(D.at_ (q:Int)).typ==t && (D.at_ (q:Int)).owner==o) (List.range n)
 rwa [List.length_range]at this
theorem Bn {D:DB} {t o:Int} {x:I64}:x∈D.pgs t o D.S↔D.of x.v t o=true:=by
 unfold pgs of is has
 rw [List.mem_map]
 constructor
 ·rintro⟨q,hq,rfl⟩
  rw [List.mem_filter,List.mem_range]at hq
  have h2:=hq.2
  simp only [Bool.and_eq_true]at h2 ⊢
  exact⟨⟨by simp;exact hq.1,h2.1⟩,h2.2⟩
 ·intro h
  simp only [Bool.and_eq_true,decide_eq_true_eq]at h
  refine⟨x.v.toNat,?_,?_⟩
  ·rw [List.mem_filter,List.mem_range,show((x.v.toNat:Nat):Int)=x.v by omega]
   exact⟨by omega,by rw [Bool.and_eq_true];exact⟨h.1.2,h.2⟩⟩
  ·rw [show((x.v.toNat:Nat):Int)=x.v by omega]
theorem vT(D:DB)(t o:Int):((D.pgs t o D.S).length:Int)=dM (fun q=>D.of q t o) D.S:=by
 unfold pgs dM
 rw [List.length_map,← List.countP_eq_length_filter,Int.toNat_natCast]
 congr 1
 apply List.countP_congr
 intro q hq
 have:=List.mem_range.1 hq
 simp only [of,is,has]
 rw [show decide (0≤(q:Int)∧(q:Int)<(D.S:Int))=true by simp;omega,Bool.true_and]
theorem Jc {D:DB} {t o:Int}(h:((D.pgs t o D.S).length:Int)=1)(x:Int):D.of x t o=(x==((D.pgs t o D.S).getD (Int.toNat 0) (I64.mk 0)).v):=by
 have hx:=Bn (D:=D) (t:=t) (o:=o) (x:=⟨x⟩)
 obtain⟨y,hy⟩:=List.length_eq_one_iff.1 (show(D.pgs t o D.S).length=1 by omega)
 rw [hy]at hx ⊢
 rw [List.mem_singleton]at hx
 rw [Bool.eq_iff_iff,← hx,beq_iff_eq]
 show I64.mk x=y↔x=y.v
 cases y
 simp
theorem first_eq {D:DB} {p:Int}(hS:D.S≤64):(((((D.pgs 3 p D.S).length:Nat):Int)==1) && (D.word p 0==u32.wrap ((D.pgs 3 p D.S).getD (Int.toNat 0) (I64.mk 0)).v))=(dM (fun q=>D.of q 3 p) D.S==1 && D.of (D.word p 0) 3 p):=by
 rw [vT]
 by_cases h:dM (fun q=>D.of q 3 p) D.S=1
 ·have h1:((D.pgs 3 p D.S).length:Int)=1:=by rw [vT];exact h
  have h2:=Jc h1
  have h3:=h2 ((D.pgs 3 p D.S).getD (Int.toNat 0) (I64.mk 0)).v
  rw [beq_self_eq_true]at h3
  unfold of is has at h3
  simp only [Bool.and_eq_true,decide_eq_true_eq]at h3
  rw [h2,dE (by omega)]
 ·rw [show(dM (fun q=>D.of q 3 p) D.S==1)=false by simpa using h];rfl
theorem Ji {D:DB} {t o q:Int} {l:List I64}(hl:l=D.pgs t o D.S)(h:∀j:Nat,(j:Int)<(l.length:Int)→¬(l.getD j (I64.mk 0)).v=q):D.of q t o=false:=by
 cases hc:D.of q t o
 ·rfl
 ·exfalso
  have hm:=Bn (x:=⟨q⟩).2 hc
  rw [← hl]at hm
  obtain⟨j,hj,he⟩:=List.mem_iff_getElem.1 hm
  exact h j (by omega) (by rw [List.getD_eq_getElem?_getD,List.getElem?_eq_getElem hj,he];rfl)
theorem Lt {D:DB} {t o q x:Int} {l:List I64}(hl:l=D.pgs t o D.S)(hx:0≤x∧x<(l.length:Int))(h:(l.getD x.toNat (I64.mk 0)).v=q):D.of q t o=true:=by
 have hi:x.toNat<l.length:=by omega
 rw [List.getD_eq_getElem?_getD,List.getElem?_eq_getElem hi]at h
 have hm:l[x.toNat]∈l:=List.getElem_mem hi
 have QH:l[x.toNat]∈D.pgs t o D.S:=hl▸hm
 rw [← h]
 exact Bn.1 QH
theorem y8(D:DB)(p:Int):D.clause 1 p=((D.at_ p).typ !=1 || (D.at_ p).owner==p):=rfl
theorem y7(D:DB)(p:Int):D.clause 2 p=((D.at_ p).typ !=0 || D.zero p 0 1024):=rfl
theorem y6(D:DB)(p:Int):D.clause 3 p=((D.at_ p).typ==1 || ((D.at_ p).typ==0 || D.is (D.at_ p).owner 1)):=rfl
theorem y5(D:DB)(p:Int):D.clause 4 p=((D.at_ p).typ !=1 || (D.at_ p).refs==((D.eZ p D.S).length:Int)):=rfl
theorem oI(D:DB)(p:Int):D.clause 5 p=((D.at_ p).typ !=1 || D.ko p):=rfl
theorem yZ(D:DB)(p:Int):D.clause 6 p=((D.at_ p).typ !=1 || D.rV p):=rfl
theorem yY(D:DB)(p:Int):D.clause 7 p=((D.at_ p).typ !=1 || D.rW p):=rfl
theorem j4(D:DB)(p:Int):D.clause 8 p=((D.at_ p).typ !=3 || (!D.alive p || D.km p)):=rfl
theorem lR(D:DB)(p:Int):D.clause 9 p=((D.at_ p).typ !=4 || (!D.alive p || D.uC p)):=rfl
theorem qb(D:DB)(p:Int):D.clause 10 p=((D.at_ p).typ !=5 || (!D.alive p || D.uB p)):=rfl
theorem vb(D:DB)(p:Int):D.clause 11 p=((D.at_ p).typ !=2 || D.nR p):=rfl
theorem u9(D:DB)(p:Int):D.clause 12 p=((D.at_ p).typ !=6 || D.zero p 0 1024):=rfl
structure Nms(D:DB)(p x count:Int)(l:List Bl):Prop where
 len:l.length=64
 ok:jE (D.kB p) 0 x=true
 once:∀q:Int,0≤q→q<64→D.named p x q≤1∧(l.getD q.toNat (Bl.mk false)).v=(D.named p x q==1)
 cnt:count=dM (fun q=>D.named p x q==1) D.S
theorem Nms.init(D:DB)(p:Int):Nms D p 0 0 (List.replicate (Int.toNat 64) (Bl.mk false)):=by
 refine⟨by simp,lS (Int.le_refl _),fun q h1 h2=>⟨by show(0:Int)≤1;omega,?_⟩,?_⟩
 ·rw [List.getD_eq_getElem?_getD,List.getElem?_replicate,if_pos (by omega)];rfl
 ·exact(j2 (f:=fun q=>D.named p 0 q==1) fun x _ _=>rfl).symm
theorem yq {D:DB} {p x q:Int}(hx:0≤x)(hw:D.word p x=0):D.named p (x+1) q=D.named p x q:=by
 rw [iR D p q hx,hw];simp
theorem Nms.skip {D:DB} {p x c:Int} {l:List Bl}(h:Nms D p x c l)(hx:0≤x)(hw:D.word p x=0):Nms D p (x+1) c l:=by
 refine⟨h.len,gw h.ok (by unfold kB;rw [hw];rfl) rfl,fun q h1 h2=>by rw [yq hx hw];exact h.once q h1 h2,?_⟩
 rw [h.cnt]
 exact te fun q _ _=>by rw [yq hx hw]
theorem Nms.put {D:DB} {p x c:Int} {l:List Bl}(h:Nms D p x c l)(hx:0≤x)(hw0:0≤D.word p x)(hw:¬D.word p x=0)(he:iP (D.word p x)=0)(hl:(l.getD (aH (D.word p x)).toNat (Bl.mk false)).v=false)(ho:D.of (aH (D.word p x)) 4 (D.at_ p).owner=true):
 Nms D p (x+1) (c+1) (l.set (aH (D.word p x)).toNat (Bl.mk true)):=by
 have hp:=rl hw0
 have Q4:0≤aH (D.word p x)∧aH (D.word p x)<(D.S:Int):=by
  unfold of is has at ho
  simp only [Bool.and_eq_true,decide_eq_true_eq]at ho
  exact ho.1.1
 have step:∀q,D.named p (x+1) q=D.named p x q+(if aH (D.word p x)=q then 1 else 0):=fun q=>by
  rw [iR D p q hx]
  by_cases hq:aH (D.word p x)=q<;>simp [hq,hw]
 have h1:=h.once _ hp.1 hp.2
 rw [hl]at h1
 have h0:D.named p x (aH (D.word p x))=0:=by
  have So:0≤D.named p x (aH (D.word p x)):=js
  have h2:=h1.2
  have:¬D.named p x (aH (D.word p x))=1:=by simpa using h2.symm
  omega
 refine⟨by simp [h.len],gw h.ok (by unfold kB;rw [he,ho];simp) rfl,fun q a b=>?_,?_⟩
 ·rw [step,List.getD_eq_getElem?_getD,List.getElem?_set]
  by_cases hq:aH (D.word p x)=q
  ·subst hq
   rw [if_pos rfl,if_pos rfl,if_pos (by rw [h.len];omega),h0]
   exact⟨by omega,rfl⟩
  ·rw [if_neg hq,if_neg (by omega),← List.getD_eq_getElem?_getD,Int.add_zero]
   exact h.once q a b
 ·rw [yX (f:=fun q=>D.named p x q==1) (q:=aH (D.word p x)) Q4.1 (by rw [h0];rfl) (by rw [step,h0,if_pos rfl];rfl) (fun y _ _ hy=>by rw [step,if_neg (fun e=>hy e.symm),Int.add_zero]),if_pos Q4.2,← h.cnt]
theorem Nms.bad {D:DB} {p x c:Int} {l:List Bl}(h:Nms D p x c l)(hx:0≤x∧x<256)(hw0:0≤D.word p x)(hw:¬D.word p x=0)(hb:iP (D.word p x)=0→D.of (aH (D.word p x)) 4 (D.at_ p).owner=true→(l.getD (aH (D.word p x)).toNat (Bl.mk false)).v=true):D.km p=false:=by
 unfold km
 by_cases hn:D.kB p x=true
 ·unfold kB at hn
  simp only [Bool.or_eq_true,beq_iff_eq,hw,false_or,Bool.and_eq_true]at hn
  have hp:=rl hw0
  have h1:=h.once _ hp.1 hp.2
  rw [hb hn.1 hn.2]at h1
  have h1:D.named p x (aH (D.word p x))=1:=by simpa using h1.2.symm
  have h2:D.named p (x+1) (aH (D.word p x))=2:=by
   rw [iR D p _ hx.1,h1];simp [hw]
  have h3:D.named p (x+1) (aH (D.word p x))≤D.named p 256 (aH (D.word p x)):=Ev (by omega)
  have ho:=hn.2
  unfold of is has at ho
  simp only [Bool.and_eq_true,decide_eq_true_eq]at ho
  rw [iV (f:=fun q=>!(decide (D.named p 256 q>1) || (D.of q 4 (D.at_ p).owner && D.named p 256 q==0))) ho.1.1.1 ho.1.1.2 (by simp;omega)]
  simp
 ·rw [iV (f:=D.kB p) hx.1 hx.2 (by simpa using hn)]
  simp
theorem Nms.done {D:DB} {p c:Int} {l:List Bl}(hS:D.S≤64)(h:Nms D p 256 c l)(hz:D.zero p 256 1024=true):D.km p=(c==((D.pgs 4 (D.at_ p).owner D.S).length:Int)):=by
 have Rm:=yW (f:=fun q=>D.named p 256 q==1) (g:=fun q=>D.of q 4 (D.at_ p).owner) (n:=(D.S:Int)) (by omega) fun q h1 h2 hq=>by
  have hq:D.named p 256 q=1:=by simpa using hq
  have:∃i,0≤i∧i<256∧(D.word p i !=0 && aH (D.word p i)==q)=true:=by
   apply Classical.byContradiction
   intro hn
   have:=j2 (f:=fun i=>D.word p i !=0 && aH (D.word p i)==q) (n:=256) fun i a b=>by
    cases hc:(D.word p i !=0 && aH (D.word p i)==q)
    ·rfl
    ·exact absurd ⟨i,a,b,hc⟩ hn
   unfold named at hq
   omega
  obtain⟨i,a,b,hi⟩:=this
  have hk:=cP.1 h.ok i a b
  simp only [Bool.and_eq_true,bne_iff_ne,ne_eq,beq_iff_eq]at hi
  unfold kB at hk
  simp only [Bool.or_eq_true,beq_iff_eq,hi.1,false_or,Bool.and_eq_true]at hk
  rw [← hi.2];exact hk.2
 unfold km
 rw [hz,h.ok,Bool.true_and,Bool.true_and,vT,h.cnt,Bool.eq_iff_iff,cP,beq_iff_eq]
 constructor
 ·intro hA
  refine Int.le_antisymm Rm.1 ?_
  refine(yW (by omega) fun q a b hq=>?_).1
  have:=hA q a b
  simp only [hq,Bool.true_and,Bool.not_eq_true',Bool.or_eq_false_iff,decide_eq_false_iff_not,beq_eq_false_iff_ne]at this
  have So:0≤D.named p 256 q:=js
  simp only [beq_iff_eq]
  omega
 ·intro he q a b
  have h1:=(h.once q a (by omega)).1
  cases ho:D.of q 4 (D.at_ p).owner
  ·simp;omega
  ·have:=Rm.2 he q a b ho
   have:D.named p 256 q=1:=by simpa using this
   simp [this]
def jL(D:DB)(p:Int)(l:List I64)(x:Int):Int:=((l.take x.toNat).map fun q=>dM (D.eC p q.v) 1024).sum
theorem r4 {D:DB} {p:Int} {l:List I64} {x:Int}(h:0≤x∧x<(l.length:Int)):D.jL p l (x+1)=D.jL p l x+dM (D.eC p (l.getD x.toNat (I64.mk 0)).v) 1024:=by
 unfold jL
 have hx:x.toNat<l.length:=by omega
 rw [show(x+1).toNat=x.toNat+1 by omega,List.take_add_one,List.getElem?_eq_getElem hx,List.map_append,List.sum_append,List.getD_eq_getElem?_getD,List.getElem?_eq_getElem hx]
 simp
theorem uE {D:DB} {p:Int} {l:List I64} {x:Int}(hx:0≤x):0≤D.jL p l x∧D.jL p l x≤1024*x:=by
 obtain⟨n,rfl⟩:=Int.eq_ofNat_of_zero_le hx
 induction n with
 | zero=>simp [jL]
 | succ n ih=>
  by_cases hn:n<l.length
  ·have h1:=r4 (D:=D) (p:=p) (l:=l) (x:=(n:Int)) ⟨by omega,by omega⟩
   have h2:=ih (by omega)
   have h3:=js (f:=D.eC p (l.getD n (I64.mk 0)).v) (n:=1024)
   have h4:=oH (f:=D.eC p (l.getD n (I64.mk 0)).v) (n:=1024) (by omega)
   rw [Int.toNat_natCast]at h1
   rw [show((n+1:Nat):Int)=(n:Int)+1 by omega,h1]
   omega
  ·have e:D.jL p l ((n+1:Nat):Int)=D.jL p l (n:Int):=by
    unfold jL
    rw [List.take_of_length_le (by omega),List.take_of_length_le (by omega)]
   rw [e]
   have:=ih (by omega)
   omega
theorem uF {D:DB} {p:Int}:∀ {n:Nat},n≤D.S→D.mG p (n:Int)=((D.pgs 4 (D.at_ p).owner n).map fun q=>dM (D.eC p q.v) 1024).sum
 | 0,_=>rfl
 | n+1,h=>by
  have h1:=v8 D p (n:=(n:Int)) (by omega)
  have h2:D.pgs 4 (D.at_ p).owner (n+1)=if((D.at_ (n:Int)).typ==4 && (D.at_ (n:Int)).owner==(D.at_ p).owner)=true then D.pgs 4 (D.at_ p).owner n++ [⟨(n:Int)⟩]else D.pgs 4 (D.at_ p).owner n:=by
   unfold pgs
   rw [List.range_succ,List.filter_append,List.map_append]
   split<;>rename_i hc<;>simp [hc]
  have h3:D.of (n:Int) 4 (D.at_ p).owner=((D.at_ (n:Int)).typ==4 && (D.at_ (n:Int)).owner==(D.at_ p).owner):=by
   unfold of is has
   rw [show decide (0≤(n:Int)∧(n:Int)<(D.S:Int))=true by simp;omega,Bool.true_and]
  rw [show((n+1:Nat):Int)=(n:Int)+1 by omega,h1,uF (by omega),h2,h3]
  split
  ·simp
  ·simp
theorem once_eq {D:DB} {p n x:Int}(hx:x=((D.pgs 4 (D.at_ p).owner D.S).length:Int))(h:n=D.jL p (D.pgs 4 (D.at_ p).owner D.S) x):D.uB p=(n==1):=by
 unfold uB
 rw [uF (Nat.le_refl _),h,hx]
 unfold jL
 rw [Int.toNat_natCast,List.take_length]
end DB
end Go.Proofs.YtinhphjfnedhgaaGreatDoor
namespace Go.Proofs.YtinhphjfnedhgaaGreatDoor
open Go.Proofs.Tryz (prog)
open Go Go.RowKit V
open Go.IntKind (i64 u32 u64)
section
set_option maxRecDepth 100000
set_option maxHeartbeats 1000000
attribute [local irreducible] Vc2 VcD
attribute [local grind=] Pd.cN Pd.cy Pd.gm Pd.ia Pd.cj Pd.fx Pd.gl Pd.eU Pd.jO Pd.pP
attribute [local grind .] Pd.Ok.ent
attribute [local grind→] Pd.Ok.dV
def oR:Ctr Un:=⟨[.one (.obj 0 0)],[],[.ob 1 [(1,1,0)],.ob 0 []],[],fun r E rm m K=>E.n=m.S∧∀(g:Nat)(A:Option Addr)(c:Nat),K ⟨(.pointer (some (Addr.mk g 0 none))),(some (.p (.loc 2 0))),[],[(.blk g [(.pointer (some (Addr.mk (r 0) 0 none))),(.slice A E.aJ.length c)] 144),(.lst 4 true 50 A c E.aJ)],[(.c 2 0,.p (.obj 0 0 0)),(.c 2 1,.p (.sl 3 0))]⟩⟩
def J5(r:Nat→Nat)(E:Pd)(rm:Nat→Nat)(m:Mem)(Q:Ou Un→Prop):Prop:=
 Pd.Ok E→
 Mem.Wf m→
 (some (.pointer (some (Addr.mk (r 0) 0 none))):Option Value)=some (.pointer (some (Addr.mk (r 0) 0 none)))∧
 ∀(gv:Nat),
 E.n=m.S∧
 ∃I:Nat→Int→Option Addr→Nat→List Ent→Prop,(∃m1,I m1 0 none 0 ([]:List Ent))∧∀(m1:Nat)(NU:Nat→Value)(Oz:Int)(A3:Option Addr)(c3:Nat)(l3:List Ent),I m1 Oz A3 c3 l3→
 split (decide (Oz<(E.on m).S)) (
  E.n=m.S∧
  ∀(OB:Nat),
  ∀(NW:Nat),
  ∀(l:List Ent),l=([Ent.mk (((E.on m).entry Oz).typ) (((E.on m).entry Oz).owner) (((E.on m).entry Oz).refs) (((E.on m).entry Oz).state) (((E.on m).entry Oz).bm)]:List Ent)→
  ((l3.length+l.length)*40≤140737488355328)∧
  ∀(A:Option Addr)(c:Nat),
  ∀(l1:List Ent),l1=(l3++l)→
  ∃m2,m2<m1∧I m2 (i64.wrap (Oz+1)) A c l1) (
  Q ⟨(.pointer (some (Addr.mk gv 0 none))),(some (.p (.loc 2 0))),[],[(.blk gv [(.pointer (some (Addr.mk (r 0) 0 none))),(.slice A3 l3.length c3)] 144),(.lst 4 true 50 A3 c3 l3)],[(.c 2 0,.p (.obj 0 0 0)),(.c 2 1,.p (.sl 3 0))]⟩)
theorem J6:Vc2 Un prog (aQ [(120,jd),(18,cQ)]) [] Tryz.f74 (.r' (.r' (.two (.r' (.two (.node [(.c 2 1,4,50)] (some ⟨[(12,(.one (.int .i64)))],[],[4,5,6]++upN 12 20,[(2,(.blk [(.k (.obj 0 0 0)),(.k (.sl 3 0))])),(3,(.lst 4))]⟩) [] [] (.r' (.r' (.two (.two (.r' (.r' (.node [] none [] [(4,[2]),(5,[4])] .leaf .leaf))) .leaf) .leaf))) .leaf) .leaf)) .leaf))) [2,3] oR=(∀r (E:Pd) rm (m:Mem),∀Q,(oR.body r E rm m Q)→J5 r E rm m Q):=by kernel_rfl
theorem J4:LV Un prog 74 oR:=verify Tryz.func74 aa (tb:= [(120,jd),(18,cQ)]) ⟨tP,gV,trivial⟩ (by kernel_rfl) (J6.mpr fun r E rm m Q h=>by
 obtain⟨NL,h⟩:=h
 exact fun f1 f2=>af (by rfl) fun s3 gv=>af ‹_› fun s4=>⟨fun m1 Oz A3 c3 l3=>(m1=((E.n:Int) - Oz).toNat)∧(0≤Oz∧Oz≤(E.n:Int))∧(l3=E.aJ.take Oz.toNat),⟨_,rfl,(by omega),(by rfl)⟩,fun m1 _ Oz A3 c3 l3 ⟨hm,hi,Ti⟩=>ar (fun c1=>af ‹_› fun s5 OB NW l QA=>af (by(have h8:l3.length≤E.n:=by rw [Ti,List.length_take,Pd.cN];omega);rw [QA];simp;grind) fun s6 A c l1 Pc=>⟨_,(by(have h9:=aq (x:=Oz+1) (by grind));grind),rfl,(by(have h9:=aq (x:=Oz+1) (by grind));grind),(by rw [Pc,QA,Ti,aq (x:=Oz+1) (by grind),← DS (E:=E) (by grind)];(have hh:(E.on m).entry Oz=E.ent Oz.toNat:=by(grind [DB.entry]));rw [hh])⟩) fun c1=>(by(have h7:E.aJ=l3:=by rw [Ti,List.take_of_length_le];grind);exact au (h gv A3 c3) rfl rfl (ae (congrArg (fun l=>Res.blk (U:=Un) _ l _) (ae rfl (ae (by grind) rfl))) (ae (congrArg (Res.lst (U:=Un) 4 true 50 _ _) ‹_›) rfl)))⟩)
def dx:Ctr Un:=⟨[.one (.ptr 0),.one (.int .i64),.one (.int .i64)],[],[.blk [.obj 1 0,.sl 3] 144,.ob 1 [(1,2,0)],.ob 0 [],.lst 4 false 50],[],fun p t g r E rm m A c l K=>E.n=m.S∧l=E.aJ∧(E.on m).has p=true∧K ⟨(.bool ((E.on m).is p t)),none,[],[],[]⟩⟩
def M5(p:Int)(t:Int)(g:Nat)(r:Nat→Nat)(E:Pd)(rm:Nat→Nat)(m:Mem)(A:Option Addr)(c:Nat)(l:List Ent)(Q:Ou Un→Prop):Prop:=
 Pd.Ok E→
 Mem.Wf m→
 (0≤p∧p<(l.length:Int))∧
 Q ⟨(.bool ((l.getD p.toNat Ent.free).typ==t)),none,[],[],[]⟩
theorem M6:Vc2 Un prog (aQ []) [] Tryz.f141 .leaf [] dx=(∀p t g r (E:Pd) rm (m:Mem) A c (l:List Ent),∀Q,(E.n=m.S∧l=E.aJ∧(E.on m).has p=true∧Q ⟨(.bool ((E.on m).is p t)),none,[],[],[]⟩)→M5 p t g r E rm m A c l Q):=by kernel_rfl
section
attribute [local grind=] DB.is
theorem jv:LV Un prog 141 dx:=verify Tryz.func141 aa (tb:= []) trivial (by kernel_rfl) (M6.mpr fun p t g r E rm m A c l Q h=>by
 obtain⟨NL,NQ,Oh,h⟩:=h
 subst NQ
 exact fun f1 f2=>af (by grind) fun s3=>cl h (by grind))
end
def gR:Ctr Un:=⟨[.one (.ptr 0),.one (.int .i64)],[],[.blk [.obj 1 0,.sl 3] 144,.ob 1 [(1,2,0)],.ob 0 [],.lst 4 false 50],[],fun p g r E rm m A c l K=>E.n=m.S∧l=E.aJ∧(E.on m).has p=true∧K ⟨(.int .i64 ((E.on m).cS p)),none,[],[],[]⟩⟩
def HO(p:Int)(g:Nat)(r:Nat→Nat)(E:Pd)(rm:Nat→Nat)(m:Mem)(A:Option Addr)(c:Nat)(l:List Ent)(Q:Ou Un→Prop):Prop:=
 Pd.Ok E→
 Mem.Wf m→
 (0≤p∧p<(l.length:Int))∧
 ∃J:Bool→Prop,(
  split (decide ((l.getD p.toNat Ent.free).owner<0)) (
   J true) (
   split (decide ((l.getD p.toNat Ent.free).owner≥(l.length:Int))) (
    J true) (
    E.n=m.S∧
    l=E.aJ∧
    (E.on m).has ((l.getD p.toNat Ent.free).owner)=true∧
    J (!((E.on m).is ((l.getD p.toNat Ent.free).owner) 1)))))∧∀(Pw:Nat→Value)(Om:Bool),J Om→
 split Om (
  Q ⟨(.int .i64 (-1)),none,[],[],[]⟩) (
  Q ⟨(.int .i64 ((l.getD p.toNat Ent.free).owner)),none,[],[],[]⟩)
theorem HP:Vc2 Un prog (aQ [(141,dx)]) [] Tryz.f145 (.r' (.r' (.two (.two (.node [] (some ⟨[(30,(.one .bool))],[],upN 14 17,[]⟩) [] [] .leaf .leaf) .leaf) .leaf))) [] gR=(∀p g r (E:Pd) rm (m:Mem) A c (l:List Ent),∀Q,(E.n=m.S∧l=E.aJ∧(E.on m).has p=true∧Q ⟨(.int .i64 ((E.on m).cS p)),none,[],[],[]⟩)→HO p g r E rm m A c l Q):=by kernel_rfl
section
attribute [local grind=] DB.cS DB.is
theorem tD:LV Un prog 145 gR:=verify Tryz.func145 aa (tb:= [(141,dx)]) ⟨jv,trivial⟩ (by kernel_rfl) (HP.mpr fun p g r E rm m A c l Q h=>by
 obtain⟨NL,NQ,Oh,h⟩:=h
 subst NQ
 exact fun f1 f2=>af (by grind) fun s3=>cY ((decide (((E.aJ.getD p.toNat Ent.free).owner:Int)<0)) || ((decide (((E.aJ.getD p.toNat Ent.free).owner:Int)≥((E.aJ.length:Nat):Int))) || (!((E.on m).is ((E.aJ.getD p.toNat Ent.free).owner) 1)))) (ab (fun c1=>(by grind)) fun c1=>ab (fun c2=>(by grind)) fun c2=>af ‹_› fun s4=>af (by rfl) fun s5=>af (by grind) fun s6=>(by grind))<| bF (fun c3=>ib h (by grind)) fun c3=>ib h (by grind))
end
def fm:Ctr Un:=⟨[.one (.ptr 0),.one (.int .i64)],[],[.blk [.obj 1 0,.sl 3] 144,.ob 1 [(1,2,0)],.ob 0 [],.lst 4 false 50],[],fun p g r E rm m A c l K=>E.n=m.S∧l=E.aJ∧(E.on m).has p=true∧K ⟨(.bool (if(E.on m).is p 1 then((E.on m).at_ p).state !=3 else(E.on m).alive p)),none,[],[],[]⟩⟩
def HX(p:Int)(g:Nat)(r:Nat→Nat)(E:Pd)(rm:Nat→Nat)(m:Mem)(A:Option Addr)(c:Nat)(l:List Ent)(Q:Ou Un→Prop):Prop:=
 Pd.Ok E→
 Mem.Wf m→
 E.n=m.S∧
 l=E.aJ∧
 (E.on m).has p=true∧
 split (!((E.on m).is p 1)) (
  E.n=m.S∧
  l=E.aJ∧
  (E.on m).has p=true∧
  ∃J:Bool→Prop,(
   split (decide (((E.on m).cS p)≥0)) (
    (0≤((E.on m).cS p)∧((E.on m).cS p)<(l.length:Int))∧
    J ((l.getD (Int.toNat ((E.on m).cS p)) Ent.free).state !=3)) (
    J false))∧∀(Pw:Nat→Value)(x4:Bool),J x4→
  Q ⟨(.bool x4),none,[],[],[]⟩) (
  ∃J:Bool→Prop,(
   split (decide (p≥0)) (
    (0≤p∧p<(l.length:Int))∧
    J ((l.getD p.toNat Ent.free).state !=3)) (
    J false))∧∀(Pw:Nat→Value)(x4:Bool),J x4→
  Q ⟨(.bool x4),none,[],[],[]⟩)
theorem HY:Vc2 Un prog (aQ [(141,dx),(145,gR)]) [] Tryz.f180 (.r' (.r' (.r' (.two (.node [] (some ⟨[(4,(.one .bool))],[],[4]++upN 14 13,[]⟩) [] [] .leaf .leaf) .leaf)))) [] fm=(∀p g r (E:Pd) rm (m:Mem) A c (l:List Ent),∀Q,(E.n=m.S∧l=E.aJ∧(E.on m).has p=true∧Q ⟨(.bool (if(E.on m).is p 1 then((E.on m).at_ p).state !=3 else(E.on m).alive p)),none,[],[],[]⟩)→HX p g r E rm m A c l Q):=by kernel_rfl
section
attribute [local grind=] DB.cS DB.is DB.alive
theorem oU:LV Un prog 180 fm:=verify Tryz.func180 aa (tb:= [(141,dx),(145,gR)]) ⟨jv,tD,trivial⟩ (by kernel_rfl) (HY.mpr fun p g r E rm m A c l Q h=>by
 obtain⟨NL,NQ,Oh,h⟩:=h
 subst NQ
 exact fun f1 f2=>af ‹_› fun s3=>af (by rfl) fun s4=>af ‹_› fun s5=>bL (fun c1=>af ‹_› fun s6=>af (by rfl) fun s7=>af ‹_› fun s8=>cY ((decide ((((E.on m).cS p):Int)≥0)) && (((E.aJ.getD (Int.toNat ((E.on m).cS p)) Ent.free).state:Int) !=3)) (ab (fun c2=>af (by grind) fun s9=>(by grind)) fun c2=>(by grind))<| cl h (by grind)) fun c1=>cY ((decide ((p:Int)≥0)) && (((E.aJ.getD p.toNat Ent.free).state:Int) !=3)) (ab (fun c3=>af (by grind) fun S5=>(by grind)) fun c3=>(by grind))<| cl h (by grind))
end
def dQ:Ctr Un:=⟨[.one (.ptr 0),.one (.int .i64),.one (.int .i64)],[],[.blk [.obj 1 0,.sl 3] 144,.ob 1 [(1,2,0)],.ob 0 [],.lst 4 false 50],[],fun p o g r E rm m A c l K=>E.n=m.S∧l=E.aJ∧K ⟨(.int .u32 ((E.on m).word p o)),none,[],[],[]⟩⟩
def JX(p:Int)(o:Int)(g:Nat)(r:Nat→Nat)(E:Pd)(rm:Nat→Nat)(m:Mem)(A:Option Addr)(c:Nat)(l:List Ent)(Q:Ou Un→Prop):Prop:=
 Pd.Ok E→
 Mem.Wf m→
 Q ⟨(.int .u32 (m.aZ true p o)),none,[],[],[]⟩
theorem JY:Vc2 Un prog (aQ [(14,aY),(33,o7)]) [] Tryz.f176 .leaf [] dQ=(∀p o g r (E:Pd) rm (m:Mem) A c (l:List Ent),∀Q,(E.n=m.S∧l=E.aJ∧Q ⟨(.int .u32 ((E.on m).word p o)),none,[],[],[]⟩)→JX p o g r E rm m A c l Q):=by kernel_rfl
section
attribute [local grind=] DB.word
theorem kL:LV Un prog 176 dQ:=verify Tryz.func176 aa (tb:= [(14,aY),(33,o7)]) ⟨cU,DF,trivial⟩ (by kernel_rfl) (JY.mpr fun p o g r E rm m A c l Q h=>by
 obtain⟨NL,NQ,h⟩:=h
 subst NQ
 exact fun f1 f2=>ib h (by grind))
end
def fu:Ctr Un:=⟨[.one (.ptr 0),.one (.int .i64),.one (.int .i64),.one (.int .i64)],[],[.blk [.obj 1 0,.sl 3] 144,.ob 1 [(1,2,0)],.ob 0 [],.lst 4 false 50],[],fun p lo hi g r E rm m A c l K=>E.n=m.S∧l=E.aJ∧(0≤(lo:Int)∧(hi:Int)≤1024)∧K ⟨(.bool ((E.on m).zero p lo hi)),none,[],[],[]⟩⟩
def JV(p:Int)(lo:Int)(hi:Int)(g:Nat)(r:Nat→Nat)(E:Pd)(rm:Nat→Nat)(m:Mem)(A:Option Addr)(c:Nat)(l:List Ent)(Q:Ou Un→Prop):Prop:=
 Pd.Ok E→
 Mem.Wf m→
 ∀off:Int,off=lo→
 ∃I:Nat→Int→Prop,(∃m1,I m1 off)∧∀(m1:Nat)(Pw:Nat→Value)(off1:Int),I m1 off1→
 split (decide (off1<hi)) (
  E.n=m.S∧
  l=E.aJ∧
  split (((E.on m).word p off1) !=0) (
   Q ⟨(.bool false),none,[],[],[]⟩) (
   ∀off2:Int,off2=(i64.wrap (off1+1))→
   ∃m2,m2<m1∧I m2 off2)) (
  Q ⟨(.bool true),none,[],[],[]⟩)
theorem JW:Vc2 Un prog (aQ [(176,dQ)]) [9] Tryz.f143 (.r' (.two (.r' (.two (.node [] (some ⟨[(9,(.one (.int .i64)))],[],[8,9]++upN 11 10,[]⟩) [] [] .leaf .leaf) .leaf)) .leaf)) [] fu=(∀p lo hi g r (E:Pd) rm (m:Mem) A c (l:List Ent),∀Q,(E.n=m.S∧l=E.aJ∧(0≤(lo:Int)∧(hi:Int)≤1024)∧Q ⟨(.bool ((E.on m).zero p lo hi)),none,[],[],[]⟩)→JV p lo hi g r E rm m A c l Q):=by kernel_rfl
section
attribute [local grind=] DB.zero
theorem oP:LV Un prog 143 fu:=verify Tryz.func143 aa (tb:= [(176,dQ)]) ⟨kL,trivial⟩ (by kernel_rfl) (JW.mpr fun p lo hi g r E rm m A c l Q h=>by
 obtain⟨NL,NQ,Oh,h⟩:=h
 subst NQ
 exact fun f1 f2=>allEq<| ⟨fun m1 off1=>(m1=(hi - off1).toNat)∧(lo≤off1)∧(jE (fun x=>(E.on m).word p x==0) lo off1=true),⟨_,rfl,(by omega),(lS (Int.le_refl _))⟩,fun m1 _ off1 ⟨hm,UG,hz⟩=>ar (fun c1=>af ‹_› fun s3=>af (by rfl) fun s4=>aL (fun c2=>cl h (by grind [iV])) fun c2=>allEq<| ⟨_,(by(have h9:=aq (x:=off1+1) (by omega));omega),rfl,(by have h9:=aq (x:=off1+1) (by omega);omega),(gw hz (by grind) (aq (by omega)))⟩) fun c1=>cl h (cP.2 fun x a b=>cP.1 hz x a (by omega))⟩)
end
def mL:Ctr Un:=⟨[.one (.ptr 0),.one (.int .i64),.one (.int .i64),.one (.int .i64)],[],[.blk [.obj 1 0,.sl 3] 144,.ob 1 [(1,2,0)],.ob 0 [],.lst 4 false 50],[],fun p lo n g r E rm m A c l K=>E.n=m.S∧l=E.aJ∧(0≤(lo:Int)∧(lo:Int)<1024∧0≤(n:Int)∧(n:Int)<1024)∧∀(A1:Option Addr)(c1:Nat),K ⟨(.slice A1 (((E.on m).some_ p lo n.toNat).length) c1),(some (.p (.sl 4 0))),[],[(.lst 1 true 29 A1 c1 ((E.on m).some_ p lo n.toNat))],[]⟩⟩
def JZ(p:Int)(lo:Int)(n:Int)(g:Nat)(r:Nat→Nat)(E:Pd)(rm:Nat→Nat)(m:Mem)(A:Option Addr)(c:Nat)(l:List Ent)(Q:Ou Un→Prop):Prop:=
 Pd.Ok E→
 Mem.Wf m→
 (n=n∧0≤n∧4*n≤281474976710656)∧
 ∀(gv:Nat),
 ∀(l1:List U32),l1=(List.replicate n.toNat (U32.mk 0:U32))→
 ∃I:Nat→Int→Option Addr→Nat→List U32→Prop,(∃m1,I m1 0 (some (Addr.mk gv 0 none)) n.toNat l1)∧∀(m1:Nat)(NU:Nat→Value)(Oi:Int)(A4:Option Addr)(c4:Nat)(l4:List U32),I m1 Oi A4 c4 l4→
 split (decide (Oi<((List.replicate n.toNat (U32.mk 0:U32)).length:Int))) (
  E.n=m.S∧
  l=E.aJ∧
  (0≤Oi∧Oi<(l4.length:Int))∧
  ∀(l2:List U32),l2=(l4.set Oi.toNat (U32.mk ((E.on m).word p (i64.wrap (lo+Oi)))))→
  ∃m2,m2<m1∧I m2 (i64.wrap (Oi+1)) A4 c4 l2) (
  Q ⟨(.slice A4 l4.length c4),(some (.p (.sl 4 0))),[],[(.lst 1 true 29 A4 c4 l4)],[]⟩)
theorem J0:Vc2 Un prog (aQ [(176,dQ)]) [] Tryz.f179 (.r' (.r' (.two (.r' (.two (.node [] (some ⟨[(15,(.one (.int .i64)))],[(9,(.p (.sl 4 0)))],[10]++upN 15 13,[(4,(.lst 1))]⟩) [] [] .leaf .leaf) .leaf)) .leaf))) [4] mL=(∀p lo n g r (E:Pd) rm (m:Mem) A c (l:List Ent),∀Q,(E.n=m.S∧l=E.aJ∧(0≤(lo:Int)∧(lo:Int)<1024∧0≤(n:Int)∧(n:Int)<1024)∧∀(A1:Option Addr)(c1:Nat),Q ⟨(.slice A1 (((E.on m).some_ p lo n.toNat).length) c1),(some (.p (.sl 4 0))),[],[(.lst 1 true 29 A1 c1 ((E.on m).some_ p lo n.toNat))],[]⟩)→JZ p lo n g r E rm m A c l Q):=by kernel_rfl
theorem Dz:LV Un prog 179 mL:=verify Tryz.func179 aa (tb:= [(176,dQ)]) ⟨kL,trivial⟩ (by kernel_rfl) (J0.mpr fun p lo n g r E rm m A c l Q h=>by
 obtain⟨NL,NQ,Oh,h⟩:=h
 subst NQ
 exact fun f1 f2=>af (by omega) fun s3 gv l1 Pc=>⟨fun m1 Oi A4 c4 l4=>(m1=(n - Oi).toNat)∧(0≤Oi∧Oi≤n)∧(mZ (E.on m) p lo n.toNat Oi l4),⟨_,rfl,(by omega),(by rw [Pc];exact mZ.init _ _ _ _)⟩,fun m1 _ Oi A4 c4 l4 ⟨hm,UG,hz⟩=>ar (fun c1=>af ‹_› fun s4=>af (by rfl) fun s5=>af (by(grind [mZ.len])) fun s6 l2 Qw=>⟨_,(by(have h9:=aq (x:=Oi+1) (by grind));simp at c1;omega),rfl,(by(have h9:=aq (x:=Oi+1) (by grind));simp at c1;omega),(by rw [Qw];exact hz.next UG.1 (by simp at c1;omega) (by omega))⟩) fun c1=>(by(have h7:(E.on m).some_ p lo n.toNat=l4:=hz.done (by simp at c1;omega));exact au (h A4 c4) (by grind) rfl (ae (congrArg (Res.lst (U:=Un) 1 true 29 _ _) ‹_›) rfl))⟩)
def qK:Ctr Un:=⟨[.one (.ptr 0),.one (.int .i64),.one (.int .i64)],[],[.blk [.obj 1 0,.sl 3] 144,.ob 1 [(1,2,0)],.ob 0 [],.lst 4 false 50],[],fun t o g r E rm m A c l K=>E.n=m.S∧l=E.aJ∧∀(A1:Option Addr)(c1:Nat),K ⟨(.slice A1 (((E.on m).pgs t o (E.on m).S).length) c1),(some (.p (.sl 4 0))),[],[(.lst 0 true 3 A1 c1 ((E.on m).pgs t o (E.on m).S))],[]⟩⟩
def M3(t:Int)(o:Int)(g:Nat)(r:Nat→Nat)(E:Pd)(rm:Nat→Nat)(m:Mem)(A:Option Addr)(c:Nat)(l:List Ent)(Q:Ou Un→Prop):Prop:=
 Pd.Ok E→
 Mem.Wf m→
 ∃I:Nat→Int→Option Addr→Nat→List I64→Prop,(∃m1,I m1 0 none 0 ([]:List I64))∧∀(m1:Nat)(Pw:Nat→Value)(Oi:Int)(A4:Option Addr)(c4:Nat)(l4:List I64),I m1 Oi A4 c4 l4→
 split (decide (Oi<(l.length:Int))) (
  (0≤Oi∧Oi<(l.length:Int))∧
  ∀(NJ:Nat),
  ∃J:Bool→Prop,(
   split ((l.getD Oi.toNat Ent.free).typ==t) (
    J ((l.getD Oi.toNat Ent.free).owner==o)) (
    J false))∧∀(OJ:Nat→Value)(P4:Bool),J P4→
  split P4 (
   ∀(NW:Nat),
   ∀(l1:List I64),l1=([I64.mk Oi]:List I64)→
   ((l4.length+l1.length)*8≤140737488355328)∧
   ∀(A1:Option Addr)(c1:Nat),
   ∀(l2:List I64),l2=(l4++l1)→
   ∃m2,m2<m1∧I m2 (i64.wrap (Oi+1)) A1 c1 l2) (
   ∃m2,m2<m1∧I m2 (i64.wrap (Oi+1)) A4 c4 l4)) (
  Q ⟨(.slice A4 l4.length c4),(some (.p (.sl 4 0))),[],[(.lst 0 true 3 A4 c4 l4)],[]⟩)
theorem M4:Vc2 Un prog (aQ []) [7] Tryz.f181 (.r' (.r' (.two (.r' (.two (.node [(.s 7,0,3)] (some ⟨[(15,(.one (.int .i64)))],[(7,(.p (.sl 4 0)))],[7,8,9]++upN 15 20,[(4,(.lst 0))]⟩) [] [] (.r' (.r' (.two (.two (.r' (.two (.node [] (some ⟨[(29,(.one .bool))],[],upN 20 10,[]⟩) [] [] .leaf .leaf) .leaf)) .leaf) .leaf))) .leaf) .leaf)) .leaf))) [4] qK=(∀t o g r (E:Pd) rm (m:Mem) A c (l:List Ent),∀Q,(E.n=m.S∧l=E.aJ∧∀(A1:Option Addr)(c1:Nat),Q ⟨(.slice A1 (((E.on m).pgs t o (E.on m).S).length) c1),(some (.p (.sl 4 0))),[],[(.lst 0 true 3 A1 c1 ((E.on m).pgs t o (E.on m).S))],[]⟩)→M3 t o g r E rm m A c l Q):=by kernel_rfl
theorem HQ:LV Un prog 181 qK:=verify Tryz.func181 aa (tb:= []) trivial (by kernel_rfl) (M4.mpr fun t o g r E rm m A c l Q h=>by
 obtain⟨NL,NQ,h⟩:=h
 subst NQ
 exact fun f1 f2=>⟨fun m1 Oi A4 c4 l4=>(m1=((E.n:Int) - Oi).toNat)∧(0≤Oi∧Oi≤(E.n:Int))∧(l4=(E.on m).pgs t o Oi.toNat),⟨_,rfl,(by omega),(by rfl)⟩,fun m1 _ Oi A4 c4 l4 ⟨hm,UG,hz⟩=>ar (fun c1=>af (by omega) fun s3 NJ=>cY ((((E.aJ.getD Oi.toNat Ent.free).typ:Int)==t) && (((E.aJ.getD Oi.toNat Ent.free).owner:Int)==o)) (ab (fun c2=>(by grind)) fun c2=>(by grind))<| cR (fun c3 NW l1 Pc=>af (by(have h8:=DB.kz (E.on m) t o Oi.toNat);rw [Pc,hz];simp;grind) fun s4 A1 c1 l2 Qw=>⟨_,(by(have h9:=aq (x:=Oi+1) (by grind));grind),rfl,(by(have h9:=aq (x:=Oi+1) (by grind));grind),(by rw [DB.yf _ _ _ (by grind)];(rw [if_pos (by grind)];grind))⟩) fun c3=>⟨_,(by(have h9:=aq (x:=Oi+1) (by grind));grind),rfl,(by(have h9:=aq (x:=Oi+1) (by grind));grind),(by rw [DB.yf _ _ _ (by grind)];(rw [if_neg (by grind)];exact hz))⟩) fun c1=>(by(have h7:(E.on m).pgs t o (E.on m).S=l4:=by rw [hz,show Oi.toNat=(E.on m).S by grind]);exact au (h A4 c4) (by grind) rfl (ae (congrArg (Res.lst (U:=Un) 0 true 3 _ _) ‹_›) rfl))⟩)
def mO:Ctr Un:=⟨[.one (.ptr 0),.one (.int .i64)],[],[.blk [.obj 1 0,.sl 3] 144,.ob 1 [(1,2,0)],.ob 0 [],.lst 4 false 50],[],fun p g r E rm m A c l K=>E.n=m.S∧l=E.aJ∧(E.on m).has p=true∧K ⟨(.bool ((E.on m).clause 5 p)),none,[],[],[]⟩⟩
def EW(p:Int)(g:Nat)(r:Nat→Nat)(E:Pd)(rm:Nat→Nat)(m:Mem)(A:Option Addr)(c:Nat)(l:List Ent)(Q:Ou Un→Prop):Prop:=
 Pd.Ok E→
 Mem.Wf m→
 E.n=m.S∧
 l=E.aJ∧
 (E.on m).has p=true∧
 split (!((E.on m).is p 1)) (
  Q ⟨(.bool true),none,[],[],[]⟩) (
  E.n=m.S∧
  l=E.aJ∧
  ∃J:Bool→Prop,(
   split (decide ((u64.wrap ((E.on m).word p 1))≥(u64.wrap E.av))) (
    J true) (
    E.n=m.S∧
    l=E.aJ∧
    J (decide (((E.on m).word p 2)>4096))))∧∀(Pw:Nat→Value)(QE:Bool),J QE→
  split QE (
   Q ⟨(.bool false),none,[],[],[]⟩) (
   ∃I:Nat→Int→Prop,(∃m1,I m1 0)∧∀(m1:Nat)(NU:Nat→Value)(Om:Int),I m1 Om→
   split (decide (Om<p)) (
    ∃J1:Bool→Prop,(
     E.n=m.S∧
     l=E.aJ∧
     (E.on m).has Om=true∧
     split ((E.on m).is Om 1) (
      E.n=m.S∧
      l=E.aJ∧
      J1 (((E.on m).word Om 1)==((E.on m).word p 1))) (
      J1 false))∧∀(OJ:Nat→Value)(Q9:Bool),J1 Q9→
    split Q9 (
     Q ⟨(.bool false),none,[],[],[]⟩) (
     ∃m2,m2<m1∧I m2 (i64.wrap (Om+1)))) (
    Q ⟨(.bool true),none,[],[],[]⟩)))
theorem EX:Vc2 Un prog (aQ [(141,dx),(176,dQ),(178,kg)]) [] Tryz.f148 (.r' (.r' (.r' (.two (.two (.node [] (some ⟨[(28,(.one .bool))],[],upN 14 15,[]⟩) [] [] .leaf .leaf) .leaf) (.two (.r' (.two (.node [] (some ⟨[(30,(.one (.int .i64)))],[],[4,6]++upN 30 14,[]⟩) [] [] (.r' (.r' (.two (.two (.r' (.two (.node [] (some ⟨[(42,(.one .bool))],[],upN 33 10,[]⟩) [] [] .leaf .leaf) .leaf)) .leaf) .leaf))) .leaf) .leaf)) .leaf))))) [] mO=(∀p g r (E:Pd) rm (m:Mem) A c (l:List Ent),∀Q,(E.n=m.S∧l=E.aJ∧(E.on m).has p=true∧Q ⟨(.bool ((E.on m).clause 5 p)),none,[],[],[]⟩)→EW p g r E rm m A c l Q):=by kernel_rfl
section
attribute [local grind=] DB.oI DB.ko DB.is Pd.pO
theorem EV:LV Un prog 148 mO:=verify Tryz.func148 aa (tb:= [(141,dx),(176,dQ),(178,kg)]) ⟨jv,kL,FK,trivial⟩ (by kernel_rfl) (EX.mpr fun p g r E rm m A c l Q h=>by
 obtain⟨NL,NQ,Oh,h⟩:=h
 subst NQ
 exact fun f1 f2=>(by(have hw:=fun a b=>fK (E:=E) f2 a b);(have T7:=fun a b=>aq (x:=(E.on m).word a b) (by have:=hw a b;omega));(have TY:=fun a b=>gW (x:=(E.on m).word a b) (by have:=hw a b;omega));(have hub:=gW (x:=E.av) (by have:=f1.av;omega));exact af ‹_› fun s3=>af (by rfl) fun s4=>af ‹_› fun s5=>bL (fun c1=>cl h (by grind)) fun c1=>af ‹_› fun s6=>af (by rfl) fun s7=>cY ((decide ((u64.wrap ((E.on m).word p 1):Int)≥(u64.wrap E.av))) || (decide ((((E.on m).word p 2):Int)>4096))) (ab (fun c2=>(by grind)) fun c2=>af ‹_› fun s8=>af (by rfl) fun s9=>(by grind))<| bF (fun c3=>cl h (by grind)) fun c3=>⟨fun m1 Om=>(m1=(p - Om).toNat)∧(0≤Om∧Om≤p)∧(jE (fun z=>!(((E.on m).at_ z).typ==1 && (E.on m).word z 1==(E.on m).word p 1)) 0 Om=true),⟨_,rfl,(by grind),(lS (Int.le_refl _))⟩,fun m1 _ Om ⟨hm,UG,hz⟩=>ar (fun c4=>cY (((E.on m).is Om 1) && ((((E.on m).word Om 1):Int)==((E.on m).word p 1))) (af ‹_› fun S5=>af (by rfl) fun On=>af (by grind) fun Sr=>ab (fun c5=>af ‹_› fun S4=>af (by rfl) fun TT=>(by grind)) fun c5=>(by grind))<| cR (fun c6=>cl h (by rw [DB.oI,DB.ko,iV UG.1 c4 (by grind)];grind)) fun c6=>⟨_,(by(have h9:=aq (x:=Om+1) (by grind));grind),rfl,(by(have h9:=aq (x:=Om+1) (by grind));grind),(by exact gw hz (by have hh:(E.on m).has Om=true:=(by grind);rw [DB.is,hh]at c6;grind) (aq (by grind)))⟩) fun c4=>cl h (by(have hq:Om=p:=by omega);subst hq;rw [DB.oI,DB.ko,hz];grind)⟩))
end
def oQ:Ctr Un:=⟨[.one (.ptr 0),.one (.int .i64)],[],[.blk [.obj 1 0,.sl 3] 144,.ob 1 [(1,2,0)],.ob 0 [],.lst 4 false 50],[],fun p g r E rm m A c l K=>E.n=m.S∧l=E.aJ∧(E.on m).has p=true∧K ⟨(.bool ((E.on m).clause 6 p)),none,[],[],[]⟩⟩
def HM(p:Int)(g:Nat)(r:Nat→Nat)(E:Pd)(rm:Nat→Nat)(m:Mem)(A:Option Addr)(c:Nat)(l:List Ent)(Q:Ou Un→Prop):Prop:=
 Pd.Ok E→
 Mem.Wf m→
 E.n=m.S∧
 l=E.aJ∧
 (E.on m).has p=true∧
 split (!((E.on m).is p 1)) (
  Q ⟨(.bool true),none,[],[],[]⟩) (
  E.n=m.S∧
  l=E.aJ∧
  (0≤(37:Int)∧(1024:Int)≤1024)∧
  split (!((E.on m).zero p 37 1024)) (
   Q ⟨(.bool false),none,[],[],[]⟩) (
   E.n=m.S∧
   l=E.aJ∧
   (0≤(11:Int)∧(11:Int)<1024∧0≤(26:Int)∧(26:Int)<1024)∧
   ∀(A1:Option Addr)(c1:Nat),
   ∀(l1:List U32),l1=(E.on m).some_ p 11 (Int.toNat 26)→
   ((∀x∈l1,0≤x.v∧x.v<4294967296))∧
   ∀(dp:Value),
   ∃J:Bool→Prop,(
    split ((Dg.ay l1)==0) (
     E.n=m.S∧
     l=E.aJ∧
     (0≤(3:Int)∧(11:Int)≤1024)∧
     ∀init:Bool,init=((E.on m).zero p 3 11)→
     J init) (
     ∀init:Bool,init=false→
     J init))∧∀(Pw:Nat→Value)(init:Bool),J init→
   E.n=m.S∧
   l=E.aJ∧
   (0≤(11:Int)∧(37:Int)≤1024)∧
   (0≤p∧p<(l.length:Int))∧
   ∀Q9:Bool,Q9=(((l.getD p.toNat Ent.free).state:Int)==1)→
   split Q9 (
    Q ⟨(.bool init),none,[],[],[]⟩) (
    ∀R9:Bool,R9=(((l.getD p.toNat Ent.free).state:Int)==2)→
    split R9 (
     Q ⟨(.bool ((E.on m).zero p 11 37)),none,[],[],[]⟩) (
     ∃J1:Bool→Prop,(
      split init (
       J1 true) (
       J1 ((E.on m).zero p 11 37)))∧∀(NU:Nat→Value)(x4:Bool),J1 x4→
     Q ⟨(.bool x4),none,[],[],[]⟩))))
theorem HN:Vc2 Un prog (aQ [(141,dx),(143,fu),(179,mL),(70,wT)]) [7,42,45] Tryz.f149 (.r' (.r' (.r' (.r' (.two (.node [] (some ⟨[(7,(.one .bool))],[],[7]++upN 24 7,[]⟩) [] [] .leaf .leaf) (.r' (.r' (.two (.node [] (some ⟨[(4,(.one .bool))],[],[4,48,49,50,51],[]⟩) [] [] .leaf .leaf) .leaf)))))))) [] oQ=(∀p g r (E:Pd) rm (m:Mem) A c (l:List Ent),∀Q,(E.n=m.S∧l=E.aJ∧(E.on m).has p=true∧Q ⟨(.bool ((E.on m).clause 6 p)),none,[],[],[]⟩)→HM p g r E rm m A c l Q):=by kernel_rfl
section
attribute [local grind=] DB.yZ DB.rV DB.xK DB.is
theorem HL:LV Un prog 149 oQ:=verify Tryz.func149 aa (tb:= [(141,dx),(143,fu),(179,mL),(70,wT)]) ⟨jv,oP,Dz,Kc,trivial⟩ (by kernel_rfl) (HN.mpr fun p g r E rm m A c l Q h=>by
 obtain⟨NL,NQ,Oh,h⟩:=h
 subst NQ
 exact fun f1 f2=>(by(have hw:=fun a b=>fK (E:=E) f2 a b);(have T7:=fun a b=>aq (x:=(E.on m).word a b) (by have:=hw a b;omega));(have TY:=fun a b=>gW (x:=(E.on m).word a b) (by have:=hw a b;omega));exact af ‹_› fun s3=>af (by rfl) fun s4=>af ‹_› fun s5=>bL (fun c1=>cl h (by grind)) fun c1=>af ‹_› fun s6=>af (by rfl) fun s7=>af (by omega) fun s8=>bL (fun c2=>cl h (by grind)) fun c2=>af ‹_› fun s9=>af (by rfl) fun S5=>af (by omega) fun On A1 c1 l1 Pc=>af (by rw [Pc];exact xS f2 _ _ _) fun Sr dp=>cY ((((Dg.ay l1):Int)==0) && ((E.on m).zero p 3 11)) (ab (fun c3=>af ‹_› fun S4=>af (by rfl) fun TT=>af (by omega) fun Tu=>allEq<| (by grind)) fun c3=>allEq<| (by grind))<| af ‹_› fun Vc=>af (by rfl) fun YZ=>af (by omega) fun s18=>af (by grind) fun s19=>allEq<| aC (fun c4=>cl h (by grind)) fun c4=>allEq<| aC (fun c5=>cl h (by grind)) fun c5=>cY (((((Dg.ay l1):Int)==0) && ((E.on m).zero p 3 11)) || ((E.on m).zero p 11 37)) (ab (fun c6=>(by grind)) fun c6=>(by grind))<| cl h (by grind)))
end
def oT:Ctr Un:=⟨[.one (.ptr 0),.one (.int .i64)],[],[.blk [.obj 1 0,.sl 3] 144,.ob 1 [(1,2,0)],.ob 0 [],.lst 4 false 50],[],fun p g r E rm m A c l K=>E.n=m.S∧l=E.aJ∧(E.on m).has p=true∧K ⟨(.bool ((E.on m).clause 7 p)),none,[],[],[]⟩⟩
def HV(p:Int)(g:Nat)(r:Nat→Nat)(E:Pd)(rm:Nat→Nat)(m:Mem)(A:Option Addr)(c:Nat)(l:List Ent)(Q:Ou Un→Prop):Prop:=
 Pd.Ok E→
 Mem.Wf m→
 ∃J:Bool→Prop,(
  E.n=m.S∧
  l=E.aJ∧
  (E.on m).has p=true∧
  split (!((E.on m).is p 1)) (
   J true) (
   E.n=m.S∧
   l=E.aJ∧
   (E.on m).has p=true∧
   J (!(if(E.on m).is p 1 then((E.on m).at_ p).state !=3 else(E.on m).alive p))))∧∀(Pw:Nat→Value)(Oi:Bool),J Oi→
 split Oi (
  Q ⟨(.bool true),none,[],[],[]⟩) (
  E.n=m.S∧
  l=E.aJ∧
  ∀(A1:Option Addr)(c1:Nat),
  ∀(l1:List I64),l1=(E.on m).pgs 3 p (E.on m).S→
  ∃J1:Bool→Prop,(
   split (((((E.on m).pgs 3 p (E.on m).S).length):Int)==1) (
    (0≤(0:Int)∧(0:Int)<(l1.length:Int))∧
    E.n=m.S∧
    l=E.aJ∧
    J1 (((E.on m).word p 0)==(u32.wrap ((l1.getD (Int.toNat 0) (I64.mk 0)).v)))) (
    J1 false))∧∀(NU:Nat→Value)(x4:Bool),J1 x4→
  Q ⟨(.bool x4),none,[],[],[]⟩)
theorem HW:Vc2 Un prog (aQ [(141,dx),(180,fm),(181,qK),(176,dQ)]) [] Tryz.f150 (.r' (.two (.two (.node [] (some ⟨[(15,(.one .bool))],[],upN 6 10,[]⟩) [] [] .leaf .leaf) .leaf) (.r' (.two (.node [] (some ⟨[(4,(.one .bool))],[],[4]++upN 19 13,[]⟩) [] [(9,[4])] .leaf .leaf) .leaf)))) [] oT=(∀p g r (E:Pd) rm (m:Mem) A c (l:List Ent),∀Q,(E.n=m.S∧l=E.aJ∧(E.on m).has p=true∧Q ⟨(.bool ((E.on m).clause 7 p)),none,[],[],[]⟩)→HV p g r E rm m A c l Q):=by kernel_rfl
section
attribute [local grind=] DB.yY DB.rW DB.is
theorem HU:LV Un prog 150 oT:=verify Tryz.func150 aa (tb:= [(141,dx),(180,fm),(181,qK),(176,dQ)]) ⟨jv,oU,HQ,kL,trivial⟩ (by kernel_rfl) (HW.mpr fun p g r E rm m A c l Q h=>by
 obtain⟨NL,NQ,Oh,h⟩:=h
 subst NQ
 exact fun f1 f2=>cY ((!((E.on m).is p 1)) || (!(if(E.on m).is p 1 then((E.on m).at_ p).state !=3 else(E.on m).alive p))) (af ‹_› fun s3=>af (by rfl) fun s4=>af ‹_› fun s5=>ab (fun c1=>(by grind)) fun c1=>af ‹_› fun s6=>af (by rfl) fun s7=>af ‹_› fun s8=>(by grind))<| bF (fun c2=>cl h (by grind)) fun c2=>af ‹_› fun s9=>af (by rfl) fun S5 A1 c1 l1 Pc=>cY ((((((((E.on m).pgs 3 p (E.on m).S).length):Nat):Int):Int)==1) && ((((E.on m).word p 0):Int)==(u32.wrap ((l1.getD (Int.toNat 0) (I64.mk 0)).v)))) (ab (fun c3=>af (by grind) fun On=>af ‹_› fun Sr=>af (by rfl) fun S4=>(by grind)) fun c3=>(by grind))<| cl h (by rw [Pc,DB.first_eq (by grind)];grind))
end
def mK:Ctr Un:=⟨[.one (.ptr 0),.one (.int .i64)],[],[.blk [.obj 1 0,.sl 3] 144,.ob 1 [(1,2,0)],.ob 0 [],.lst 4 false 50],[],fun p g r E rm m A c l K=>E.n=m.S∧l=E.aJ∧(E.on m).has p=true∧K ⟨(.bool ((E.on m).clause 11 p)),none,[],[],[]⟩⟩
def EJ(p:Int)(g:Nat)(r:Nat→Nat)(E:Pd)(rm:Nat→Nat)(m:Mem)(A:Option Addr)(c:Nat)(l:List Ent)(Q:Ou Un→Prop):Prop:=
 Pd.Ok E→
 Mem.Wf m→
 E.n=m.S∧
 l=E.aJ∧
 (E.on m).has p=true∧
 split (!((E.on m).is p 2)) (
  Q ⟨(.bool true),none,[],[],[]⟩) (
  E.n=m.S∧
  l=E.aJ∧
  (0≤(18:Int)∧(1024:Int)≤1024)∧
  split (!((E.on m).zero p 18 1024)) (
   Q ⟨(.bool false),none,[],[],[]⟩) (
   (0≤p∧p<(l.length:Int))∧
   split (!((l.getD p.toNat Ent.free).bm)) (
    E.n=m.S∧
    l=E.aJ∧
    (0≤(1:Int)∧(18:Int)≤1024)∧
    Q ⟨(.bool ((E.on m).zero p 1 18)),none,[],[],[]⟩) (
    E.n=m.S∧
    l=E.aJ∧
    (0≤(1:Int)∧(1:Int)<1024∧0≤(17:Int)∧(17:Int)<1024)∧
    ∀(A1:Option Addr)(c1:Nat),
    ∀(l1:List U32),l1=(E.on m).some_ p 1 (Int.toNat 17)→
    ((∀x∈l1,0≤x.v∧x.v<4294967296))∧
    ∀(gv:Nat),
    ∀(s:Fl),s=Fl.zero→
    Fl.Ok s→
    True∧
    ∀(s1:Fl),s1=(Fl.norm (File.unpack l1))→
    Fl.Ok s1→
    E.n=m.S∧
    l=E.aJ∧
    (E.on m).has p=true∧
    ∃J:Bool→Prop,(
     split ((File.gi l1)==0) (
      split (decide (((E.on m).cS p)<0)) (
       J true) (
       (0≤((E.on m).cS p)∧((E.on m).cS p)<(l.length:Int))∧
       J ((l.getD (Int.toNat ((E.on m).cS p)) Ent.free).state !=1))) (
      J false))∧∀(NU:Nat→Value)(x4:Bool),J x4→
    Q ⟨(.bool x4),none,[],[],[]⟩)))
theorem EK:Vc2 Un prog (aQ [(141,dx),(143,fu),(179,mL),(185,mP),(145,gR)]) [] Tryz.f154 (.r' (.r' (.r' (.r' (.r' (.r' (.two (.node [] (some ⟨[(4,(.one .bool))],[],[4]++upN 38 17,[]⟩) [] [] .leaf .leaf) .leaf))))))) [] mK=(∀p g r (E:Pd) rm (m:Mem) A c (l:List Ent),∀Q,(E.n=m.S∧l=E.aJ∧(E.on m).has p=true∧Q ⟨(.bool ((E.on m).clause 11 p)),none,[],[],[]⟩)→EJ p g r E rm m A c l Q):=by kernel_rfl
section
attribute [local grind=] DB.vb DB.nR DB.is DB.cS
theorem EI:LV Un prog 154 mK:=verify Tryz.func154 aa (tb:= [(141,dx),(143,fu),(179,mL),(185,mP),(145,gR)]) ⟨jv,oP,Dz,Fw,tD,trivial⟩ (by kernel_rfl) (EK.mpr fun p g r E rm m A c l Q h=>by
 obtain⟨NL,NQ,Oh,h⟩:=h
 subst NQ
 exact fun f1 f2=>(by(have hw:=fun a b=>fK (E:=E) f2 a b);(have T7:=fun a b=>aq (x:=(E.on m).word a b) (by have:=hw a b;omega));(have TY:=fun a b=>gW (x:=(E.on m).word a b) (by have:=hw a b;omega));exact af ‹_› fun s3=>af (by rfl) fun s4=>af ‹_› fun s5=>bL (fun c1=>cl h (by grind)) fun c1=>af ‹_› fun s6=>af (by rfl) fun s7=>af (by omega) fun s8=>bL (fun c2=>cl h (by grind)) fun c2=>af (by grind) fun s9=>bL (fun c3=>af ‹_› fun S5=>af (by rfl) fun On=>af (by omega) fun Sr=>cl h (by grind)) fun c3=>af ‹_› fun S4=>af (by rfl) fun TT=>af (by omega) fun Tu A1 c1 l1 Pc=>af (by rw [Pc];exact xS f2 _ _ _) fun Vc gv s Ua f17=>af trivial fun _ s1 P9 f19=>af ‹_› fun s20=>af (by rfl) fun s21=>af ‹_› fun s22=>cY ((((File.gi l1):Int)==0) && ((decide ((((E.on m).cS p):Int)<0)) || (((E.aJ.getD (Int.toNat ((E.on m).cS p)) Ent.free).state:Int) !=1))) (ab (fun c4=>ab (fun c5=>(by grind)) fun c5=>af (by grind) fun s23=>(by grind)) fun c4=>(by grind))<| cl h (by grind)))
end
end
section
set_option maxRecDepth 100000
set_option maxHeartbeats 1000000
attribute [local irreducible] Vc2 VcD
attribute [local grind=] Pd.cN Pd.cy Pd.gm Pd.ia Pd.cj Pd.fx Pd.gl Pd.eU Pd.jO Pd.pP
attribute [local grind .] Pd.Ok.ent
attribute [local grind→] Pd.Ok.dV
def oS:Ctr Un:=⟨[.one (.ptr 0),.one (.int .i64)],[],[.blk [.obj 1 0,.sl 3] 144,.ob 1 [(1,2,0)],.ob 0 [],.lst 4 false 50],[],fun p g r E rm m A c l K=>E.n=m.S∧l=E.aJ∧(E.on m).has p=true∧K ⟨(.bool ((E.on m).clause 8 p)),none,[],[],[]⟩⟩
def HS(p:Int)(g:Nat)(r:Nat→Nat)(E:Pd)(rm:Nat→Nat)(m:Mem)(A:Option Addr)(c:Nat)(l:List Ent)(Q:Ou Un→Prop):Prop:=
 Pd.Ok E→
 Mem.Wf m→
 ∃J:Bool→Prop,(
  E.n=m.S∧
  l=E.aJ∧
  (E.on m).has p=true∧
  split (!((E.on m).is p 3)) (
   J true) (
   E.n=m.S∧
   l=E.aJ∧
   (E.on m).has p=true∧
   J (!(if(E.on m).is p 1 then((E.on m).at_ p).state !=3 else(E.on m).alive p))))∧∀(Pw:Nat→Value)(PA:Bool),J PA→
 split PA (
  Q ⟨(.bool true),none,[],[],[]⟩) (
  E.n=m.S∧
  l=E.aJ∧
  (0≤(256:Int)∧(1024:Int)≤1024)∧
  split (!((E.on m).zero p 256 1024)) (
   Q ⟨(.bool false),none,[],[],[]⟩) (
   ((64:Int)=64∧0≤(64:Int)∧1*(64:Int)≤281474976710656)∧
   ∀(NJ:Nat),
   ∀(l1:List Bl),l1=(List.replicate (Int.toNat 64) (Bl.mk false:Bl))→
   ∀count:Int,count=0→
   (0≤p∧p<(l.length:Int))∧
   E.n=m.S∧
   l=E.aJ∧
   ∀(A1:Option Addr)(c1:Nat),
   ∀(l2:List I64),l2=(E.on m).pgs 4 ((l.getD p.toNat Ent.free).owner) (E.on m).S→
   ∃I:Nat→Int→Int→Option Addr→Nat→List Bl→Prop,(∃m1,I m1 count 0 (some (Addr.mk NJ 0 none)) (Int.toNat 64) l1)∧∀(m1:Nat)(OJ:Nat→Value)(count1:Int)(OF:Int)(A4:Option Addr)(c4:Nat)(l4:List Bl),I m1 count1 OF A4 c4 l4→
   split (decide (OF<256)) (
    E.n=m.S∧
    l=E.aJ∧
    split (((E.on m).word p OF)==0) (
     ∃m2,m2<m1∧I m2 count1 (i64.wrap (OF+1)) A4 c4 l4) (
     (0≤((E.on m).word p OF)∧((E.on m).word p OF)<4294967296)∧
     ∃J1:Bool→Prop,(
      split ((iP ((E.on m).word p OF)) !=0) (
       J1 true) (
       (0≤(aH ((E.on m).word p OF))∧(aH ((E.on m).word p OF))<(l4.length:Int))∧
       J1 ((l4.getD (Int.toNat (aH ((E.on m).word p OF))) (Bl.mk false)).v)))∧∀(Ry:Nat→Value)(x60:Bool),J1 x60→
     split x60 (
      Q ⟨(.bool false),none,[],[],[]⟩) (
      ∃I1:Nat→Int→Int→Option Addr→Nat→List Bl→Prop,(∃m3,I1 m3 count1 0 A4 c4 l4)∧∀(m3:Nat)(QD:Nat→Value)(count2:Int)(Qx:Int)(A41:Option Addr)(Z8:Nat)(Vh:List Bl),I1 m3 count2 Qx A41 Z8 Vh→
      split (decide (Qx<((((E.on m).pgs 4 ((l.getD p.toNat Ent.free).owner) (E.on m).S).length):Int))) (
       (0≤Qx∧Qx<(l2.length:Int))∧
       split ((l2.getD Qx.toNat (I64.mk 0)).v==(aH ((E.on m).word p OF))) (
        (0≤(aH ((E.on m).word p OF))∧(aH ((E.on m).word p OF))<(Vh.length:Int))∧
        ∀(l3:List Bl),l3=(Vh.set (Int.toNat (aH ((E.on m).word p OF))) (Bl.mk true))→
        ∀count3:Int,count3=(i64.wrap (count2+1))→
        ∃m2,m2<m1∧I m2 count3 (i64.wrap (OF+1)) A41 Z8 l3) (
        ∃m4,m4<m3∧I1 m4 count2 (i64.wrap (Qx+1)) A41 Z8 Vh)) (
       Q ⟨(.bool false),none,[],[],[]⟩)))) (
    Q ⟨(.bool (count1==((((E.on m).pgs 4 ((l.getD p.toNat Ent.free).owner) (E.on m).S).length):Int))),none,[],[],[]⟩)))
theorem HT:Vc2 Un prog (aQ [(141,dx),(180,fm),(143,fu),(181,qK),(176,dQ),(182,dJ)]) [6] Tryz.f151 (.r' (.two (.two (.two (.node [] (some ⟨[(23,(.one .bool))],[],upN 14 10,[]⟩) [] [] .leaf .leaf) .leaf) (.r' (.r' (.r' (.r' (.two (.r' (.two (.node [] (some ⟨[(6,(.one (.int .i64))),(39,(.one (.int .i64)))],[(5,(.p (.sl 4 0)))],[4,6,8,9,10,11,13]++upN 39 38,[(4,(.lst 3))]⟩) [] [] (.r' (.r' (.two (.two (.r' (.r' (.r' (.r' (.two (.two (.node [] (some ⟨[(60,(.one .bool))],[],upN 53 8,[]⟩) [] [] .leaf .leaf) .leaf) (.two (.r' (.two (.node [] (some ⟨[(6,(.one (.int .i64))),(63,(.one (.int .i64)))],[(5,(.p (.sl 4 0)))],[6,13]++upN 63 13,[(4,(.lst 3))]⟩) [] [] .leaf .leaf) .leaf)) .leaf)))))) .leaf) .leaf))) .leaf) .leaf)) .leaf)))))) .leaf)) [] oS=(∀p g r (E:Pd) rm (m:Mem) A c (l:List Ent),∀Q,(E.n=m.S∧l=E.aJ∧(E.on m).has p=true∧Q ⟨(.bool ((E.on m).clause 8 p)),none,[],[],[]⟩)→HS p g r E rm m A c l Q):=by kernel_rfl
section
attribute [local grind=] DB.j4 DB.is
theorem HR:LV Un prog 151 oS:=verify Tryz.func151 aa (tb:= [(141,dx),(180,fm),(143,fu),(181,qK),(176,dQ),(182,dJ)]) ⟨jv,oU,oP,HQ,kL,mY,trivial⟩ (by kernel_rfl) (HT.mpr fun p g r E rm m A c l Q h=>by
 obtain⟨NL,NQ,Oh,h⟩:=h
 subst NQ
 exact fun f1 f2=>(by(have hw:=fun a b=>fK (E:=E) f2 a b);(have So:E.aJ.getD p.toNat Ent.free=(E.on m).at_ p:=by rw [Pd.cy (by grind),Pd.ia]);exact cY ((!((E.on m).is p 3)) || (!(if(E.on m).is p 1 then((E.on m).at_ p).state !=3 else(E.on m).alive p))) (af ‹_› fun s3=>af (by rfl) fun s4=>af ‹_› fun s5=>ab (fun c1=>(by grind)) fun c1=>af ‹_› fun s6=>af (by rfl) fun s7=>af ‹_› fun s8=>(by grind))<| bF (fun c2=>cl h (by grind)) fun c2=>(by(have hty:((E.on m).at_ p).typ=3∧(E.on m).alive p=true:=by grind);exact af ‹_› fun s9=>af (by rfl) fun S5=>af (by omega) fun On=>bL (fun c3=>cl h (by rw [DB.j4,DB.km,c3];simp [hty])) fun c3=>af (by omega) fun Sr NJ l1 Pc=>allEq<| af (by grind) fun S4=>af ‹_› fun TT=>af (by rfl) fun Tu A1 c1 l2 Qw=>⟨fun m1 count1 OF A4 c4 l4=>(m1=(256 - OF).toNat)∧(0≤OF∧OF≤256)∧(DB.Nms (E.on m) p OF count1 l4),⟨_,rfl,(by omega),(by rw [Pc];exact DB.Nms.init _ _)⟩,fun m1 _ count1 OF A4 c4 l4 ⟨hm,hx,hn⟩=>(by(have QZ:l2=(E.on m).pgs 4 ((E.on m).at_ p).owner (E.on m).S:=by rw [Qw,So]);(have Wj:(l2.length:Int)≤64:=by rw [QZ];(have h8:=DB.kz (E.on m) 4 ((E.on m).at_ p).owner (E.on m).S);have h7:=f1.dV;(rw [Pd.pP _ _ NL]at h8 ⊢);omega);(have hcb:0≤count1∧count1≤64:=by rw [hn.cnt];(have h7:=oH (f:=fun q=>(E.on m).named p OF q==1) (n:=((E.on m).S:Int)) (by omega));(have h6:=js (f:=fun q=>(E.on m).named p OF q==1) (n:=((E.on m).S:Int)));have h5:=f1.dV;(rw [Pd.pP _ _ NL]at h7 h6 ⊢);omega);exact ar (fun c4=>af ‹_› fun Vc=>af (by rfl) fun YZ=>aC (fun c5=>⟨_,(by rw [aq (x:=OF+1) (by omega)];omega),rfl,(by rw [aq (x:=OF+1) (by omega)];omega),(by rw [aq (x:=OF+1) (by omega)];exact hn.skip hx.1 c5)⟩) fun c5=>af (hw p OF) fun s18=>cY ((((iP ((E.on m).word p OF)):Int) !=0) || ((l4.getD (Int.toNat (aH ((E.on m).word p OF))) (Bl.mk false)).v)) (ab (fun c6=>(by grind)) fun c6=>af (by(have h8:=rl (hw p OF).1);(have h7:=hn.len);(rw [h7];exact h8)) fun s19=>(by grind))<| bF (fun c7=>cl h (by(have hb:=hn.bad ⟨hx.1,c4⟩ (hw p OF).1 c5 (fun he ho=>by rcases c7 with h | h;(simp [he]at h);exact h));rw [DB.j4,hb];simp [hty])) fun c7=>⟨fun m3 count2 Qx A41 Z8 Vh=>(m3=((l2.length:Int) - Qx).toNat)∧(0≤Qx∧Qx≤(l2.length:Int))∧(count2=count1)∧(Vh=l4)∧(∀j:Nat,(j:Int)<Qx→¬(l2.getD j (I64.mk 0)).v=aH ((E.on m).word p OF)),⟨_,rfl,(by omega),(by rfl),(by rfl),(by intro j hj;omega)⟩,fun m3 _ count2 Qx A41 Z8 Vh ⟨hm,hy,SA,Vy,hno⟩=>(by have hy2:Qx<(l2.length:Int)∨¬Qx<(l2.length:Int):=Classical.em _;exact ar (fun c8=>af (by rw [Qw];exact⟨hy.1,c8⟩) fun s20=>aC (fun c9=>af (by(have h8:=rl (hw p OF).1);(have h7:=hn.len);(rw [Vy,h7];exact h8)) fun s21 l3 ZW=>allEq<| ⟨_,(by rw [aq (x:=OF+1) (by omega)];omega),rfl,(by rw [aq (x:=OF+1) (by omega)];omega),(by rw [aq (x:=OF+1) (by omega)];(rw [ZW,Vy,SA,aq (x:=count1+1) (by omega)];exact hn.put hx.1 (hw p OF).1 c5 (by simpa using c7.1) c7.2 (DB.Lt QZ ⟨hy.1,by rw [Qw];exact c8⟩ c9)))⟩) fun c9=>⟨_,(by have Z7:=c8;rw [← Qw]at Z7;rw [aq (x:=Qx+1) (by omega)];omega),rfl,(by have Z7:=c8;rw [← Qw]at Z7;rw [aq (x:=Qx+1) (by omega)];omega),(SA),(Vy),(by have Z7:=c8;rw [← Qw]at Z7;rw [aq (x:=Qx+1) (by omega)];intro j hj;by_cases hjx:(j:Int)=Qx;(have hjn:j=Qx.toNat:=by omega);subst hjn;exact c9;exact hno j (by omega))⟩) fun c8=>cl h (by(have hb:=hn.bad ⟨hx.1,c4⟩ (hw p OF).1 c5 (fun _ ho=>by rw [DB.Ji QZ (fun j hj=>hno j (by rw [← Qw]at c8;omega))]at ho;cases ho));rw [DB.j4,hb];simp [hty]))⟩) fun c4=>cl h (by(have Za:OF=256:=by omega);subst Za;rw [DB.j4,hn.done (by rw [Pd.pP _ _ NL];exact f1.dV) c3,So];simp [hty]))⟩)))
end
def rG:Ctr Un:=⟨[.one (.ptr 0),.one (.int .i64)],[],[.blk [.obj 1 0,.sl 3] 144,.ob 1 [(1,2,0)],.ob 0 [],.lst 4 false 50],[],fun p g r E rm m A c l K=>E.n=m.S∧l=E.aJ∧(E.on m).has p=true∧K ⟨(.bool ((E.on m).clause 9 p)),none,[],[],[]⟩⟩
def J8(p:Int)(g:Nat)(r:Nat→Nat)(E:Pd)(rm:Nat→Nat)(m:Mem)(A:Option Addr)(c:Nat)(l:List Ent)(Q:Ou Un→Prop):Prop:=
 Pd.Ok E→
 Mem.Wf m→
 ∃J:Bool→Prop,(
  E.n=m.S∧
  l=E.aJ∧
  (E.on m).has p=true∧
  split (!((E.on m).is p 4)) (
   J true) (
   E.n=m.S∧
   l=E.aJ∧
   (E.on m).has p=true∧
   J (!(if(E.on m).is p 1 then((E.on m).at_ p).state !=3 else(E.on m).alive p))))∧∀(Pw:Nat→Value)(Q2:Bool),J Q2→
 split Q2 (
  Q ⟨(.bool true),none,[],[],[]⟩) (
  ∃I:Nat→Int→Prop,(∃m1,I m1 0)∧∀(m1:Nat)(NU:Nat→Value)(N6:Int),I m1 N6→
  split (decide (N6<1024)) (
   E.n=m.S∧
   l=E.aJ∧
   split (((E.on m).word p N6)==0) (
    ∃m2,m2<m1∧I m2 (i64.wrap (N6+1))) (
    (0≤((E.on m).word p N6)∧((E.on m).word p N6)<4294967296)∧
    ∀(OB:Nat),
    ∃J1:Bool→Prop,(
     split ((hY ((E.on m).word p N6)) !=0) (
      J1 true) (
      J1 (!(m.has ((bY ((E.on m).word p N6)).cF) ((bY ((E.on m).word p N6)).aj)))))∧∀(Ry:Nat→Value)(R9:Bool),J1 R9→
    split R9 (
     Q ⟨(.bool false),none,[],[],[]⟩) (
     ∃J2:Bool→Prop,(
      split ((bY ((E.on m).word p N6)).cF) (
       E.n=m.S∧
       l=E.aJ∧
       (E.on m).has ((bY ((E.on m).word p N6)).aj)=true∧
       split (!((E.on m).is ((bY ((E.on m).word p N6)).aj) 5)) (
        J2 true) (
        (0≤(bY ((E.on m).word p N6)).aj∧(bY ((E.on m).word p N6)).aj<(l.length:Int))∧
        (0≤p∧p<(l.length:Int))∧
        J2 ((l.getD (Int.toNat ((bY ((E.on m).word p N6)).aj)) Ent.free).owner !=((l.getD p.toNat Ent.free).owner)))) (
       J2 false))∧∀(QD:Nat→Value)(x77:Bool),J2 x77→
     split x77 (
      Q ⟨(.bool false),none,[],[],[]⟩) (
      ∃m2,m2<m1∧I m2 (i64.wrap (N6+1)))))) (
   Q ⟨(.bool true),none,[],[],[]⟩))
theorem J9:Vc2 Un prog (aQ [(141,dx),(180,fm),(176,dQ),(183,du),(14,aY),(184,Cj)]) [] Tryz.f152 (.r' (.two (.two (.node [] (some ⟨[(18,(.one .bool))],[],upN 9 10,[]⟩) [] [] .leaf .leaf) .leaf) (.two (.r' (.two (.node [] (some ⟨[(19,(.one (.int .i64)))],[],upN 4 5++upN 19 60,[]⟩) [] [] (.r' (.r' (.two (.two (.r' (.r' (.r' (.r' (.two (.two (.node [] (some ⟨[(45,(.one .bool))],[],upN 33 13,[]⟩) [] [(6,[0]),(9,[4])] .leaf .leaf) .leaf) (.two (.node [] (some ⟨[(77,(.one .bool))],[],upN 46 32,[]⟩) [] [(2,[4]),(7,[4]),(14,[0]),(17,[4]),(20,[3]),(24,[0]),(28,[3])] .leaf .leaf) .leaf)))))) .leaf) .leaf))) .leaf) .leaf)) .leaf))) [] rG=(∀p g r (E:Pd) rm (m:Mem) A c (l:List Ent),∀Q,(E.n=m.S∧l=E.aJ∧(E.on m).has p=true∧Q ⟨(.bool ((E.on m).clause 9 p)),none,[],[],[]⟩)→J8 p g r E rm m A c l Q):=by kernel_rfl
section
attribute [local grind=] DB.lR DB.is
theorem J7:LV Un prog 152 rG:=verify Tryz.func152 aa (tb:= [(141,dx),(180,fm),(176,dQ),(183,du),(14,aY),(184,Cj)]) ⟨jv,oU,kL,lX,cU,L5,trivial⟩ (by kernel_rfl) (J9.mpr fun p g r E rm m A c l Q h=>by
 obtain⟨NL,NQ,Oh,h⟩:=h
 subst NQ
 exact fun f1 f2=>(by(have hw:=fun a b=>fK (E:=E) f2 a b);(have T7:=fun a b=>aq (x:=(E.on m).word a b) (by have:=hw a b;omega));(have TY:=fun a b=>gW (x:=(E.on m).word a b) (by have:=hw a b;omega));(have So:E.aJ.getD p.toNat Ent.free=(E.on m).at_ p:=by rw [Pd.cy (by grind),Pd.ia]);(have hmt:∀q,m.has true q=(E.on m).has q:=fun q=>rfl);(have hmf:∀q,m.has false q=decide (0≤q∧q<(m.I:Int)):=fun q=>rfl);(have PZ:=fun w=>CW w);exact cY ((!((E.on m).is p 4)) || (!(if(E.on m).is p 1 then((E.on m).at_ p).state !=3 else(E.on m).alive p))) (af ‹_› fun s3=>af (by rfl) fun s4=>af ‹_› fun s5=>ab (fun c1=>(by grind)) fun c1=>af ‹_› fun s6=>af (by rfl) fun s7=>af ‹_› fun s8=>(by grind))<| bF (fun c2=>cl h (by grind)) fun c2=>⟨fun m1 N6=>(m1=(1024 - N6).toNat)∧(0≤N6∧N6≤1024)∧(jE ((E.on m).kY p) 0 N6=true),⟨_,rfl,(by omega),(lS (Int.le_refl _))⟩,fun m1 _ N6 ⟨hm,hx,hz⟩=>ar (fun c3=>af ‹_› fun s9=>af (by rfl) fun S5=>aC (fun c4=>⟨_,(by(have h9:=aq (x:=N6+1) (by grind));omega),rfl,(by(have h9:=aq (x:=N6+1) (by grind));omega),(gw hz (by(grind [DB.kY,DB.of])) (aq (by omega)))⟩) fun c4=>af (hw p N6) fun On OB=>cY ((((hY ((E.on m).word p N6)):Int) !=0) || (!(m.has ((bY ((E.on m).word p N6)).cF) ((bY ((E.on m).word p N6)).aj)))) (ab (fun c5=>(by grind)) fun c5=>(by grind))<| bF (fun c6=>cl h (by(have hb:(E.on m).kY p N6=false:=by(grind [DB.kY,DB.of]));rw [DB.lR,DB.uC,iV hx.1 c3 hb];grind)) fun c6=>cY (((bY ((E.on m).word p N6)).cF) && ((!((E.on m).is ((bY ((E.on m).word p N6)).aj) 5)) || (((E.aJ.getD (Int.toNat ((bY ((E.on m).word p N6)).aj)) Ent.free).owner:Int) !=((E.aJ.getD p.toNat Ent.free).owner)))) (ab (fun c7=>af ‹_› fun Sr=>af (by rfl) fun S4=>af (by grind) fun TT=>ab (fun c8=>(by grind)) fun c8=>af (by grind) fun Tu=>af (by grind) fun Vc=>(by grind)) fun c7=>(by grind))<| cR (fun c9=>cl h (by(have hb:(E.on m).kY p N6=false:=by(grind [DB.kY,DB.of]));rw [DB.lR,DB.uC,iV hx.1 c3 hb];grind)) fun c9=>⟨_,(by(have h9:=aq (x:=N6+1) (by grind));omega),rfl,(by(have h9:=aq (x:=N6+1) (by grind));omega),(gw hz (by(grind [DB.kY,DB.of])) (aq (by omega)))⟩) fun c3=>cl h (by rw [DB.lR,DB.uC,← show N6=1024 by omega,hz];simp)⟩))
end
def mM:Ctr Un:=⟨[.one (.ptr 0),.one (.int .i64)],[],[.blk [.obj 1 0,.sl 3] 144,.ob 1 [(1,2,0)],.ob 0 [],.lst 4 false 50],[],fun p g r E rm m A c l K=>E.n=m.S∧l=E.aJ∧(E.on m).has p=true∧K ⟨(.bool ((E.on m).clause 10 p)),none,[],[],[]⟩⟩
def EM(p:Int)(g:Nat)(r:Nat→Nat)(E:Pd)(rm:Nat→Nat)(m:Mem)(A:Option Addr)(c:Nat)(l:List Ent)(Q:Ou Un→Prop):Prop:=
 Pd.Ok E→
 Mem.Wf m→
 ∃J:Bool→Prop,(
  E.n=m.S∧
  l=E.aJ∧
  (E.on m).has p=true∧
  split (!((E.on m).is p 5)) (
   J true) (
   E.n=m.S∧
   l=E.aJ∧
   (E.on m).has p=true∧
   J (!(if(E.on m).is p 1 then((E.on m).at_ p).state !=3 else(E.on m).alive p))))∧∀(Pw:Nat→Value)(OT:Bool),J OT→
 split OT (
  Q ⟨(.bool true),none,[],[],[]⟩) (
  ∀n:Int,n=0→
  (0≤p∧p<(l.length:Int))∧
  E.n=m.S∧
  l=E.aJ∧
  ∀(A1:Option Addr)(c1:Nat),
  ∀(l1:List I64),l1=(E.on m).pgs 4 ((l.getD p.toNat Ent.free).owner) (E.on m).S→
  ∃I:Nat→Int→Int→Prop,(∃m1,I m1 n 0)∧∀(m1:Nat)(NU:Nat→Value)(n1:Int)(Ps:Int),I m1 n1 Ps→
  split (decide (Ps<((((E.on m).pgs 4 ((l.getD p.toNat Ent.free).owner) (E.on m).S).length):Int))) (
   (0≤Ps∧Ps<(l1.length:Int))∧
   ∃I1:Nat→Int→Int→Prop,(∃m3,I1 m3 n1 0)∧∀(m3:Nat)(OJ:Nat→Value)(n2:Int)(Pr:Int),I1 m3 n2 Pr→
   split (decide (Pr<1024)) (
    E.n=m.S∧
    l=E.aJ∧
    (0≤((E.on m).word ((l1.getD Ps.toNat (I64.mk 0)).v) Pr)∧((E.on m).word ((l1.getD Ps.toNat (I64.mk 0)).v) Pr)<4294967296)∧
    ∀(NW:Nat),
    ∃J1:Bool→Prop,(
     split ((hY ((E.on m).word ((l1.getD Ps.toNat (I64.mk 0)).v) Pr))==0) (
      J1 (bN #[(.bool ((bY ((E.on m).word ((l1.getD Ps.toNat (I64.mk 0)).v) Pr)).cF)),(.int .i64 ((bY ((E.on m).word ((l1.getD Ps.toNat (I64.mk 0)).v) Pr)).aj))] #[(.bool true),(.int .i64 p)])) (
      J1 false))∧∀(QD:Nat→Value)(Ui:Bool),J1 Ui→
    split Ui (
     ∀n3:Int,n3=(i64.wrap (n2+1))→
     ∃m4,m4<m3∧I1 m4 n3 (i64.wrap (Pr+1))) (
     ∃m4,m4<m3∧I1 m4 n2 (i64.wrap (Pr+1)))) (
    ∃m2,m2<m1∧I m2 n2 (i64.wrap (Ps+1)))) (
   Q ⟨(.bool (n1==1)),none,[],[],[]⟩))
theorem EN:Vc2 Un prog (aQ [(141,dx),(180,fm),(181,qK),(176,dQ),(183,du)]) [5] Tryz.f153 (.r' (.two (.two (.node [] (some ⟨[(20,(.one .bool))],[],upN 11 10,[]⟩) [] [] .leaf .leaf) .leaf) (.r' (.two (.r' (.two (.node [] (some ⟨[(5,(.one (.int .i64))),(32,(.one (.int .i64)))],[],[5,7,8,9,10]++upN 32 28,[]⟩) [] [] (.r' (.r' (.two (.two (.r' (.r' (.two (.node [] (some ⟨[(5,(.one (.int .i64))),(36,(.one (.int .i64)))],[],[5,8,9,10]++upN 36 23,[]⟩) [] [] (.r' (.r' (.two (.two (.r' (.r' (.two (.node [] (some ⟨[(55,(.one .bool))],[],upN 47 9,[]⟩) [] [] .leaf .leaf) .leaf))) .leaf) .leaf))) .leaf) .leaf))) .leaf) .leaf))) .leaf) .leaf)) .leaf)))) [] mM=(∀p g r (E:Pd) rm (m:Mem) A c (l:List Ent),∀Q,(E.n=m.S∧l=E.aJ∧(E.on m).has p=true∧Q ⟨(.bool ((E.on m).clause 10 p)),none,[],[],[]⟩)→EM p g r E rm m A c l Q):=by kernel_rfl
section
attribute [local grind=] DB.qb DB.is
theorem EL:LV Un prog 153 mM:=verify Tryz.func153 aa (tb:= [(141,dx),(180,fm),(181,qK),(176,dQ),(183,du)]) ⟨jv,oU,HQ,kL,lX,trivial⟩ (by kernel_rfl) (EN.mpr fun p g r E rm m A c l Q h=>by
 obtain⟨NL,NQ,Oh,h⟩:=h
 subst NQ
 exact fun f1 f2=>(by(have hw:=fun a b=>fK (E:=E) f2 a b);(have T7:=fun a b=>aq (x:=(E.on m).word a b) (by have:=hw a b;omega));(have TY:=fun a b=>gW (x:=(E.on m).word a b) (by have:=hw a b;omega));(have So:E.aJ.getD p.toNat Ent.free=(E.on m).at_ p:=by rw [Pd.cy (by grind),Pd.ia]);(have hmt:∀q,m.has true q=(E.on m).has q:=fun q=>rfl);(have hmf:∀q,m.has false q=decide (0≤q∧q<(m.I:Int)):=fun q=>rfl);(have PZ:=fun w=>CW w);exact cY ((!((E.on m).is p 5)) || (!(if(E.on m).is p 1 then((E.on m).at_ p).state !=3 else(E.on m).alive p))) (af ‹_› fun s3=>af (by rfl) fun s4=>af ‹_› fun s5=>ab (fun c1=>(by grind)) fun c1=>af ‹_› fun s6=>af (by rfl) fun s7=>af ‹_› fun s8=>(by grind))<| bF (fun c2=>cl h (by grind)) fun c2=>allEq<| af (by grind) fun s9=>af ‹_› fun S5=>af (by rfl) fun On A1 c1 l1 Pc=>⟨fun m1 n1 Ps=>(m1=((l1.length:Int) - Ps).toNat)∧(0≤Ps∧Ps≤(l1.length:Int))∧(n1=(E.on m).jL p l1 Ps),⟨_,rfl,(by constructor<;>omega),(by rfl)⟩,fun m1 _ n1 Ps ⟨hm,hx,hn⟩=>(by(have Px:l1=(E.on m).pgs 4 ((E.on m).at_ p).owner (E.on m).S:=by rw [Pc,So]);exact ar (fun c3=>af (by grind) fun Sr=>⟨fun m3 n2 Pr=>(m3=(1024 - Pr).toNat)∧(0≤Pr∧Pr≤1024)∧(n2=(E.on m).jL p l1 Ps+dM ((E.on m).eC p (l1.getD Ps.toNat (I64.mk 0)).v) Pr),⟨_,rfl,(by omega),(by rw [Eu,Int.add_zero];exact hn)⟩,fun m3 _ n2 Pr ⟨hm,hj,QH⟩=>ar (fun c4=>af ‹_› fun S4=>af (by rfl) fun TT=>af (hw _ Pr) fun Tu NW=>cY ((((hY ((E.on m).word ((l1.getD Ps.toNat (I64.mk 0)).v) Pr)):Int)==0) && (bN #[(.bool ((bY ((E.on m).word ((l1.getD Ps.toNat (I64.mk 0)).v) Pr)).cF)),(.int .i64 ((bY ((E.on m).word ((l1.getD Ps.toNat (I64.mk 0)).v) Pr)).aj))] #[(.bool true),(.int .i64 p)])) (ab (fun c5=>(by grind)) fun c5=>(by grind))<| cR (fun c6=>allEq<| ⟨_,(by(have h9:=aq (x:=Pr+1) (by grind));omega),rfl,(by(have h9:=aq (x:=Pr+1) (by grind));omega),(by have Ud:=DB.kz (E.on m) 4 ((E.on m).at_ p).owner (E.on m).S;rw [← Px]at Ud;have h9:=aq (x:=Pr+1) (by omega);have h8:=et (f:=(E.on m).eC p (l1.getD Ps.toNat (I64.mk 0)).v) hj.1;have h7:=oH (f:=(E.on m).eC p (l1.getD Ps.toNat (I64.mk 0)).v) hj.1;have h6:=js (f:=(E.on m).eC p (l1.getD Ps.toNat (I64.mk 0)).v) (n:=Pr);have h5:=DB.uE (D:=E.on m) (p:=p) (l:=l1) hx.1;have h3:=aq (x:=n2+1) (by grind);(grind [DB.eC,eqF]))⟩) fun c6=>⟨_,(by(have h9:=aq (x:=Pr+1) (by grind));omega),rfl,(by(have h9:=aq (x:=Pr+1) (by grind));omega),(by have Ud:=DB.kz (E.on m) 4 ((E.on m).at_ p).owner (E.on m).S;rw [← Px]at Ud;have h9:=aq (x:=Pr+1) (by omega);have h8:=et (f:=(E.on m).eC p (l1.getD Ps.toNat (I64.mk 0)).v) hj.1;have h7:=oH (f:=(E.on m).eC p (l1.getD Ps.toNat (I64.mk 0)).v) hj.1;have h6:=js (f:=(E.on m).eC p (l1.getD Ps.toNat (I64.mk 0)).v) (n:=Pr);have h5:=DB.uE (D:=E.on m) (p:=p) (l:=l1) hx.1;have h3:=aq (x:=n2+1) (by grind);(grind [DB.eC,eqF]))⟩) fun c4=>⟨_,(by have Ud:=DB.kz (E.on m) 4 ((E.on m).at_ p).owner (E.on m).S;rw [← Px]at Ud;rw [aq (x:=Ps+1) (by grind)];grind),rfl,(by have Ud:=DB.kz (E.on m) 4 ((E.on m).at_ p).owner (E.on m).S;rw [← Px]at Ud;rw [aq (x:=Ps+1) (by grind)];grind),(by have Ud:=DB.kz (E.on m) 4 ((E.on m).at_ p).owner (E.on m).S;rw [← Px]at Ud;rw [aq (x:=Ps+1) (by grind),DB.r4 ⟨hx.1,by grind⟩,QH,show Pr=1024 by omega])⟩⟩) fun c3=>cl h (by(have hb:=DB.once_eq (D:=E.on m) (p:=p) (n:=n1) (x:=Ps) (by rw [← Px];grind) (by rw [← Px];exact hn));rw [DB.qb,hb];grind))⟩))
end
end
section
set_option maxRecDepth 100000
set_option maxHeartbeats 1000000
attribute [local irreducible] Vc2 VcD
attribute [local grind=] Pd.cN Pd.cy Pd.gm Pd.ia Pd.cj Pd.fx Pd.gl Pd.eU Pd.jO
attribute [local grind .] Pd.Ok.ent
attribute [local grind→] Pd.Ok.dV
theorem DB.tg {D:DB} {c p:Int}(hc:1≤c∧c≤12)(hb:D.gF (13 - c).toNat c=D.broken)(hz:jE (D.clause c) 0 p=true)(hf:D.clause c p=false)(hp:0≤p∧p<(D.S:Int)):D.broken=(c,p):=by
 rw [← hb,show(13 - c).toNat=(12 - c).toNat+1 by omega,gF,pW,iV hp.1 hp.2 hf,leastN_eq hz hf hp.1 (by omega)]
 rfl
theorem DB.zd {D:DB} {c:Int}(hc:1≤c∧c≤12)(hb:D.gF (13 - c).toNat c=D.broken) {p:Int}(hp:p=(D.S:Int))(hz:jE (D.clause c) 0 p=true):D.gF (13 - (c+1)).toNat (c+1)=D.broken:=by
 subst hp
 rw [← hb,show(13 - c).toNat=(13 - (c+1)).toNat+1 by omega,gF,pW,hz]
 rfl
theorem DB.qG {D:DB} {c:Int}(hc:¬c≤12)(SA:c≤13)(hb:D.gF (13 - c).toNat c=D.broken):D.broken=(0,0):=by
 rw [← hb,show(13 - c).toNat=0 by omega];rfl
end
section
set_option maxRecDepth 100000
set_option maxHeartbeats 1000000
attribute [local irreducible] Vc2 VcD
attribute [local grind=] Pd.cN Pd.cy Pd.gm Pd.ia Pd.cj Pd.fx Pd.gl Pd.eU Pd.jO Pd.pP
attribute [local grind .] Pd.Ok.ent
attribute [local grind→] Pd.Ok.dV
def jA:Ctr Un:=⟨[.one (.int .i64),.one (.ptr 0)],[],[.blk [.ptr 1] 139,.blk [.obj 2 0,.sl 4] 144,.ob 1 [(1,3,0)],.ob 0 [],.lst 4 false 50],[],fun p gb g r E rm m A c l K=>E.n=m.S∧l=E.aJ∧(E.on m).has p=true∧K ⟨(.bool ((E.on m).clause 1 p)),none,[],[],[]⟩⟩
def zF(p:Int)(gb:Nat)(g:Nat)(r:Nat→Nat)(E:Pd)(rm:Nat→Nat)(m:Mem)(A:Option Addr)(c:Nat)(l:List Ent)(Q:Ou Un→Prop):Prop:=
 Pd.Ok E→
 Mem.Wf m→
 ∃J:Bool→Prop,(
  E.n=m.S∧
  l=E.aJ∧
  (E.on m).has p=true∧
  split (!((E.on m).is p 1)) (
   J true) (
   (0≤p∧p<(l.length:Int))∧
   J ((l.getD p.toNat Ent.free).owner==p)))∧∀(Pw:Nat→Value)(x3:Bool),J x3→
 Q ⟨(.bool x3),none,[],[],[]⟩
theorem zG:Vc2 Un prog (aQ [(141,dx)]) [] Tryz.f140 (.r' (.two (.node [] (some ⟨[(3,(.one .bool))],[],upN 3 17,[]⟩) [] [] .leaf .leaf) .leaf)) [] jA=(∀p gb g r (E:Pd) rm (m:Mem) A c (l:List Ent),∀Q,(E.n=m.S∧l=E.aJ∧(E.on m).has p=true∧Q ⟨(.bool ((E.on m).clause 1 p)),none,[],[],[]⟩)→zF p gb g r E rm m A c l Q):=by kernel_rfl
section
attribute [local grind=] DB.y8 DB.is
theorem zE:LV Un prog 140 jA:=verify Tryz.func140 aa (tb:= [(141,dx)]) ⟨jv,trivial⟩ (by kernel_rfl) (zG.mpr fun p gb g r E rm m A c l Q h=>by
 obtain⟨NL,NQ,Oh,h⟩:=h
 subst NQ
 exact fun f1 f2=>cY ((!((E.on m).is p 1)) || (((E.aJ.getD p.toNat Ent.free).owner:Int)==p)) (af ‹_› fun s3=>af (by rfl) fun s4=>af ‹_› fun s5=>ab (fun c1=>(by grind)) fun c1=>af (by grind) fun s6=>(by grind))<| cl h (by grind))
end
def jz:Ctr Un:=⟨[.one (.int .i64),.one (.ptr 0)],[],[.blk [.ptr 1] 139,.blk [.obj 2 0,.sl 4] 144,.ob 1 [(1,3,0)],.ob 0 [],.lst 4 false 50],[],fun p gb g r E rm m A c l K=>E.n=m.S∧l=E.aJ∧(E.on m).has p=true∧K ⟨(.bool ((E.on m).clause 2 p)),none,[],[],[]⟩⟩
def zC(p:Int)(gb:Nat)(g:Nat)(r:Nat→Nat)(E:Pd)(rm:Nat→Nat)(m:Mem)(A:Option Addr)(c:Nat)(l:List Ent)(Q:Ou Un→Prop):Prop:=
 Pd.Ok E→
 Mem.Wf m→
 ∃J:Bool→Prop,(
  E.n=m.S∧
  l=E.aJ∧
  (E.on m).has p=true∧
  split (!((E.on m).is p 0)) (
   J true) (
   E.n=m.S∧
   l=E.aJ∧
   (0≤(0:Int)∧(1024:Int)≤1024)∧
   J ((E.on m).zero p 0 1024)))∧∀(Pw:Nat→Value)(x3:Bool),J x3→
 Q ⟨(.bool x3),none,[],[],[]⟩
theorem zD:Vc2 Un prog (aQ [(141,dx),(143,fu)]) [] Tryz.f142 (.r' (.two (.node [] (some ⟨[(3,(.one .bool))],[],upN 3 10,[]⟩) [] [] .leaf .leaf) .leaf)) [] jz=(∀p gb g r (E:Pd) rm (m:Mem) A c (l:List Ent),∀Q,(E.n=m.S∧l=E.aJ∧(E.on m).has p=true∧Q ⟨(.bool ((E.on m).clause 2 p)),none,[],[],[]⟩)→zC p gb g r E rm m A c l Q):=by kernel_rfl
section
attribute [local grind=] DB.y7 DB.is
theorem zB:LV Un prog 142 jz:=verify Tryz.func142 aa (tb:= [(141,dx),(143,fu)]) ⟨jv,oP,trivial⟩ (by kernel_rfl) (zD.mpr fun p gb g r E rm m A c l Q h=>by
 obtain⟨NL,NQ,Oh,h⟩:=h
 subst NQ
 exact fun f1 f2=>cY ((!((E.on m).is p 0)) || ((E.on m).zero p 0 1024)) (af ‹_› fun s3=>af (by rfl) fun s4=>af ‹_› fun s5=>ab (fun c1=>(by grind)) fun c1=>af ‹_› fun s6=>af (by rfl) fun s7=>af (by omega) fun s8=>(by grind))<| cl h (by grind))
end
def jy:Ctr Un:=⟨[.one (.int .i64),.one (.ptr 0)],[],[.blk [.ptr 1] 139,.blk [.obj 2 0,.sl 4] 144,.ob 1 [(1,3,0)],.ob 0 [],.lst 4 false 50],[],fun p gb g r E rm m A c l K=>E.n=m.S∧l=E.aJ∧(E.on m).has p=true∧K ⟨(.bool ((E.on m).clause 3 p)),none,[],[],[]⟩⟩
def zz(p:Int)(gb:Nat)(g:Nat)(r:Nat→Nat)(E:Pd)(rm:Nat→Nat)(m:Mem)(A:Option Addr)(c:Nat)(l:List Ent)(Q:Ou Un→Prop):Prop:=
 Pd.Ok E→
 Mem.Wf m→
 ∃J:Bool→Prop,(
  E.n=m.S∧
  l=E.aJ∧
  (E.on m).has p=true∧
  split ((E.on m).is p 0) (
   J true) (
   E.n=m.S∧
   l=E.aJ∧
   (E.on m).has p=true∧
   split ((E.on m).is p 1) (
    J true) (
    E.n=m.S∧
    l=E.aJ∧
    (E.on m).has p=true∧
    J (decide (((E.on m).cS p)≥0)))))∧∀(Pw:Nat→Value)(x3:Bool),J x3→
 Q ⟨(.bool x3),none,[],[],[]⟩
theorem zA:Vc2 Un prog (aQ [(141,dx),(145,gR)]) [] Tryz.f144 (.r' (.two (.node [] (some ⟨[(3,(.one .bool))],[],upN 3 15,[]⟩) [] [] .leaf .leaf) .leaf)) [] jy=(∀p gb g r (E:Pd) rm (m:Mem) A c (l:List Ent),∀Q,(E.n=m.S∧l=E.aJ∧(E.on m).has p=true∧Q ⟨(.bool ((E.on m).clause 3 p)),none,[],[],[]⟩)→zz p gb g r E rm m A c l Q):=by kernel_rfl
section
attribute [local grind=] DB.y6 DB.is DB.cS
theorem zy:LV Un prog 144 jy:=verify Tryz.func144 aa (tb:= [(141,dx),(145,gR)]) ⟨jv,tD,trivial⟩ (by kernel_rfl) (zA.mpr fun p gb g r E rm m A c l Q h=>by
 obtain⟨NL,NQ,Oh,h⟩:=h
 subst NQ
 exact fun f1 f2=>cY (((E.on m).is p 0) || (((E.on m).is p 1) || (decide ((((E.on m).cS p):Int)≥0)))) (af ‹_› fun s3=>af (by rfl) fun s4=>af ‹_› fun s5=>ab (fun c1=>(by grind)) fun c1=>af ‹_› fun s6=>af (by rfl) fun s7=>af ‹_› fun s8=>ab (fun c2=>(by grind)) fun c2=>af ‹_› fun s9=>af (by rfl) fun S5=>af ‹_› fun On=>(by grind))<| cl h (by grind))
end
def jx:Ctr Un:=⟨[.one (.int .i64),.one (.ptr 0)],[],[.blk [.ptr 1] 139,.blk [.obj 2 0,.sl 4] 144,.ob 1 [(1,3,0)],.ob 0 [],.lst 4 false 50],[],fun p gb g r E rm m A c l K=>E.n=m.S∧l=E.aJ∧(E.on m).has p=true∧K ⟨(.bool ((E.on m).clause 4 p)),none,[],[],[]⟩⟩
def zw(p:Int)(gb:Nat)(g:Nat)(r:Nat→Nat)(E:Pd)(rm:Nat→Nat)(m:Mem)(A:Option Addr)(c:Nat)(l:List Ent)(Q:Ou Un→Prop):Prop:=
 Pd.Ok E→
 Mem.Wf m→
 ∃J:Bool→Prop,(
  E.n=m.S∧
  l=E.aJ∧
  (E.on m).has p=true∧
  split (!((E.on m).is p 1)) (
   J true) (
   (0≤p∧p<(l.length:Int))∧
   E.n=m.S∧
   ∀(A1:Option Addr)(c1:Nat),
   ∀(l1:List I64),l1=own (E.on m) p→
   J ((l.getD p.toNat Ent.free).refs==(((own (E.on m) p).length):Int))))∧∀(Pw:Nat→Value)(x3:Bool),J x3→
 Q ⟨(.bool x3),none,[],[],[]⟩
theorem zx:Vc2 Un prog (aQ [(141,dx),(147,tQ)]) [] Tryz.f146 (.r' (.two (.node [] (some ⟨[(3,(.one .bool))],[],upN 3 23,[]⟩) [] [(0,[0]),(5,[0]),(8,[1]),(12,[4]),(13,[0]),(16,[1])] .leaf .leaf) .leaf)) [] jx=(∀p gb g r (E:Pd) rm (m:Mem) A c (l:List Ent),∀Q,(E.n=m.S∧l=E.aJ∧(E.on m).has p=true∧Q ⟨(.bool ((E.on m).clause 4 p)),none,[],[],[]⟩)→zw p gb g r E rm m A c l Q):=by kernel_rfl
section
attribute [local grind=] DB.y5 DB.is own DB.bR
theorem zv:LV Un prog 146 jx:=verify Tryz.func146 aa (tb:= [(141,dx),(147,tQ)]) ⟨jv,IG,trivial⟩ (by kernel_rfl) (zx.mpr fun p gb g r E rm m A c l Q h=>by
 obtain⟨NL,NQ,Oh,h⟩:=h
 subst NQ
 exact fun f1 f2=>cY ((!((E.on m).is p 1)) || (((E.aJ.getD p.toNat Ent.free).refs:Int)==((((own (E.on m) p).length):Nat):Int))) (af ‹_› fun s3=>af (by rfl) fun s4=>af ‹_› fun s5=>ab (fun c1=>(by grind)) fun c1=>af (by grind) fun s6=>af ‹_› fun s7 A1 c1 l1 Pc=>(by grind))<| cl h (by grind))
end
def jw:Ctr Un:=⟨[.one (.int .i64),.one (.ptr 0)],[],[.blk [.ptr 1] 139,.blk [.obj 2 0,.sl 4] 144,.ob 1 [(1,3,0)],.ob 0 [],.lst 4 false 50],[],fun p gb g r E rm m A c l K=>E.n=m.S∧l=E.aJ∧(E.on m).has p=true∧K ⟨(.bool ((E.on m).clause 12 p)),none,[],[],[]⟩⟩
def zt(p:Int)(gb:Nat)(g:Nat)(r:Nat→Nat)(E:Pd)(rm:Nat→Nat)(m:Mem)(A:Option Addr)(c:Nat)(l:List Ent)(Q:Ou Un→Prop):Prop:=
 Pd.Ok E→
 Mem.Wf m→
 ∃J:Bool→Prop,(
  E.n=m.S∧
  l=E.aJ∧
  (E.on m).has p=true∧
  split (!((E.on m).is p 6)) (
   J true) (
   E.n=m.S∧
   l=E.aJ∧
   (0≤(0:Int)∧(1024:Int)≤1024)∧
   J ((E.on m).zero p 0 1024)))∧∀(Pw:Nat→Value)(x3:Bool),J x3→
 Q ⟨(.bool x3),none,[],[],[]⟩
theorem zu:Vc2 Un prog (aQ [(141,dx),(143,fu)]) [] Tryz.f155 (.r' (.two (.node [] (some ⟨[(3,(.one .bool))],[],upN 3 10,[]⟩) [] [] .leaf .leaf) .leaf)) [] jw=(∀p gb g r (E:Pd) rm (m:Mem) A c (l:List Ent),∀Q,(E.n=m.S∧l=E.aJ∧(E.on m).has p=true∧Q ⟨(.bool ((E.on m).clause 12 p)),none,[],[],[]⟩)→zt p gb g r E rm m A c l Q):=by kernel_rfl
section
attribute [local grind=] DB.u9 DB.is
theorem zr:LV Un prog 155 jw:=verify Tryz.func155 aa (tb:= [(141,dx),(143,fu)]) ⟨jv,oP,trivial⟩ (by kernel_rfl) (zu.mpr fun p gb g r E rm m A c l Q h=>by
 obtain⟨NL,NQ,Oh,h⟩:=h
 subst NQ
 exact fun f1 f2=>cY ((!((E.on m).is p 6)) || ((E.on m).zero p 0 1024)) (af ‹_› fun s3=>af (by rfl) fun s4=>af ‹_› fun s5=>ab (fun c1=>(by grind)) fun c1=>af ‹_› fun s6=>af (by rfl) fun s7=>af (by omega) fun s8=>(by grind))<| cl h (by grind))
end
def dP(g gb:Nat)(n:Int):Value:=
 if n=1 then .func (.func 140) #[] #[.pointer (some ⟨gb,0,none⟩)]
 else if n=2 then .func (.func 142) #[] #[.pointer (some ⟨gb,0,none⟩)]
 else if n=3 then .func (.func 144) #[] #[.pointer (some ⟨gb,0,none⟩)]
 else if n=4 then .func (.func 146) #[] #[.pointer (some ⟨gb,0,none⟩)]
 else if n=5 then .func (.func 148) #[.pointer (some ⟨g,0,none⟩)] #[]
 else if n=6 then .func (.func 149) #[.pointer (some ⟨g,0,none⟩)] #[]
 else if n=7 then .func (.func 150) #[.pointer (some ⟨g,0,none⟩)] #[]
 else if n=8 then .func (.func 151) #[.pointer (some ⟨g,0,none⟩)] #[]
 else if n=9 then .func (.func 152) #[.pointer (some ⟨g,0,none⟩)] #[]
 else if n=10 then .func (.func 153) #[.pointer (some ⟨g,0,none⟩)] #[]
 else if n=11 then .func (.func 154) #[.pointer (some ⟨g,0,none⟩)] #[]
 else .func (.func 155) #[] #[.pointer (some ⟨gb,0,none⟩)]
def mN:Ctr Un:=⟨[.one (.ptr 0),.one (.int .i64)],[],[.blk [.obj 1 0,.sl 3] 144,.ob 1 [(1,2,0)],.ob 0 [],.lst 4 false 50],[],fun n g r E rm m A c l K=>E.n=m.S∧l=E.aJ∧∀(gb:Nat)(v:Value),v=dP g gb n→K ⟨v,none,[],[(.blk gb [(.pointer (some (Addr.mk g 0 none)))] 139)],[(.c 4 0,.p (.loc 0 0))]⟩⟩
def EP(n:Int)(g:Nat)(r:Nat→Nat)(E:Pd)(rm:Nat→Nat)(m:Mem)(A:Option Addr)(c:Nat)(l:List Ent)(Q:Ou Un→Prop):Prop:=
 Pd.Ok E→
 Mem.Wf m→
 ∀(gv:Nat),
 ∀x6:Bool,x6=((n:Int)==1)→
 split x6 (
  ∃J:Value→Prop,(
   J (.func (.func 140) #[] #[(.pointer (some (Addr.mk gv 0 none)))]))∧∀(NU:Nat→Value)(x4:Value),J x4→
  Q ⟨x4,none,[],[(.blk gv [(.pointer (some (Addr.mk g 0 none)))] 139)],[(.c 4 0,.p (.loc 0 0))]⟩) (
  ∀x9:Bool,x9=((n:Int)==2)→
  split x9 (
   ∃J:Value→Prop,(
    J (.func (.func 142) #[] #[(.pointer (some (Addr.mk gv 0 none)))]))∧∀(NU:Nat→Value)(x4:Value),J x4→
   Q ⟨x4,none,[],[(.blk gv [(.pointer (some (Addr.mk g 0 none)))] 139)],[(.c 4 0,.p (.loc 0 0))]⟩) (
   ∀Oz:Bool,Oz=((n:Int)==3)→
   split Oz (
    ∃J:Value→Prop,(
     J (.func (.func 144) #[] #[(.pointer (some (Addr.mk gv 0 none)))]))∧∀(NU:Nat→Value)(x4:Value),J x4→
    Q ⟨x4,none,[],[(.blk gv [(.pointer (some (Addr.mk g 0 none)))] 139)],[(.c 4 0,.p (.loc 0 0))]⟩) (
    ∀Oi:Bool,Oi=((n:Int)==4)→
    split Oi (
     ∃J:Value→Prop,(
      J (.func (.func 146) #[] #[(.pointer (some (Addr.mk gv 0 none)))]))∧∀(NU:Nat→Value)(x4:Value),J x4→
     Q ⟨x4,none,[],[(.blk gv [(.pointer (some (Addr.mk g 0 none)))] 139)],[(.c 4 0,.p (.loc 0 0))]⟩) (
     ∀Q2:Bool,Q2=((n:Int)==5)→
     split Q2 (
      ∃J:Value→Prop,(
       J (.func (.func 148) #[(.pointer (some (Addr.mk g 0 none)))] #[]))∧∀(NU:Nat→Value)(x4:Value),J x4→
      Q ⟨x4,none,[],[(.blk gv [(.pointer (some (Addr.mk g 0 none)))] 139)],[(.c 4 0,.p (.loc 0 0))]⟩) (
      ∀N9:Bool,N9=((n:Int)==6)→
      split N9 (
       ∃J:Value→Prop,(
        J (.func (.func 149) #[(.pointer (some (Addr.mk g 0 none)))] #[]))∧∀(NU:Nat→Value)(x4:Value),J x4→
       Q ⟨x4,none,[],[(.blk gv [(.pointer (some (Addr.mk g 0 none)))] 139)],[(.c 4 0,.p (.loc 0 0))]⟩) (
       ∀PX:Bool,PX=((n:Int)==7)→
       split PX (
        ∃J:Value→Prop,(
         J (.func (.func 150) #[(.pointer (some (Addr.mk g 0 none)))] #[]))∧∀(NU:Nat→Value)(x4:Value),J x4→
        Q ⟨x4,none,[],[(.blk gv [(.pointer (some (Addr.mk g 0 none)))] 139)],[(.c 4 0,.p (.loc 0 0))]⟩) (
        ∀Om:Bool,Om=((n:Int)==8)→
        split Om (
         ∃J:Value→Prop,(
          J (.func (.func 151) #[(.pointer (some (Addr.mk g 0 none)))] #[]))∧∀(NU:Nat→Value)(x4:Value),J x4→
         Q ⟨x4,none,[],[(.blk gv [(.pointer (some (Addr.mk g 0 none)))] 139)],[(.c 4 0,.p (.loc 0 0))]⟩) (
         ∀XV:Bool,XV=((n:Int)==9)→
         split XV (
          ∃J:Value→Prop,(
           J (.func (.func 152) #[(.pointer (some (Addr.mk g 0 none)))] #[]))∧∀(NU:Nat→Value)(x4:Value),J x4→
          Q ⟨x4,none,[],[(.blk gv [(.pointer (some (Addr.mk g 0 none)))] 139)],[(.c 4 0,.p (.loc 0 0))]⟩) (
          ∀XK:Bool,XK=((n:Int)==10)→
          split XK (
           ∃J:Value→Prop,(
            J (.func (.func 153) #[(.pointer (some (Addr.mk g 0 none)))] #[]))∧∀(NU:Nat→Value)(x4:Value),J x4→
           Q ⟨x4,none,[],[(.blk gv [(.pointer (some (Addr.mk g 0 none)))] 139)],[(.c 4 0,.p (.loc 0 0))]⟩) (
           ∀Q9:Bool,Q9=((n:Int)==11)→
           split Q9 (
            ∃J:Value→Prop,(
             J (.func (.func 154) #[(.pointer (some (Addr.mk g 0 none)))] #[]))∧∀(NU:Nat→Value)(x4:Value),J x4→
            Q ⟨x4,none,[],[(.blk gv [(.pointer (some (Addr.mk g 0 none)))] 139)],[(.c 4 0,.p (.loc 0 0))]⟩) (
            ∃J:Value→Prop,(
             J (.func (.func 155) #[] #[(.pointer (some (Addr.mk gv 0 none)))]))∧∀(NU:Nat→Value)(x4:Value),J x4→
            Q ⟨x4,none,[],[(.blk gv [(.pointer (some (Addr.mk g 0 none)))] 139)],[(.c 4 0,.p (.loc 0 0))]⟩)))))))))))
theorem ER:Vc2 Un prog (aQ []) [6,9,12,15,18,22,26,30,34,38,42] Tryz.f75 (.r' (.two (.r' (.two (.r' (.two (.two (.node [] (some ⟨[(4,(.one .val))],[],[4,8],[]⟩) [] [] .leaf .leaf) .leaf) (.r' (.two (.two (.node [] (some ⟨[(4,(.one .val))],[],[4,11],[]⟩) [] [] .leaf .leaf) .leaf) (.r' (.two (.two (.node [] (some ⟨[(4,(.one .val))],[],[4,14],[]⟩) [] [] .leaf .leaf) .leaf) (.r' (.two (.two (.node [] (some ⟨[(4,(.one .val))],[],[4,17],[]⟩) [] [] .leaf .leaf) .leaf) (.r' (.two (.two (.node [] (some ⟨[(4,(.one .val))],[],[4,20,21],[]⟩) [] [] .leaf .leaf) .leaf) (.r' (.two (.two (.node [] (some ⟨[(4,(.one .val))],[],[4,24,25],[]⟩) [] [] .leaf .leaf) .leaf) (.r' (.two (.two (.node [] (some ⟨[(4,(.one .val))],[],[4,28,29],[]⟩) [] [] .leaf .leaf) .leaf) (.r' (.two (.two (.node [] (some ⟨[(4,(.one .val))],[],[4,32,33],[]⟩) [] [] .leaf .leaf) .leaf) (.r' (.two (.two (.node [] (some ⟨[(4,(.one .val))],[],[4,36,37],[]⟩) [] [] .leaf .leaf) .leaf) (.r' (.two (.two (.node [] (some ⟨[(4,(.one .val))],[],[4,40,41],[]⟩) [] [] .leaf .leaf) .leaf) (.r' (.two (.two (.node [] (some ⟨[(4,(.one .val))],[],[4,44,45],[]⟩) [] [] .leaf .leaf) .leaf) .leaf)))))))))))))))))))))) .leaf)) (.two (.node [] (some ⟨[(4,(.one .val))],[],[4,46],[]⟩) [] [] .leaf .leaf) .leaf))) [4] mN=(∀n g r (E:Pd) rm (m:Mem) A c (l:List Ent),∀Q,(E.n=m.S∧l=E.aJ∧∀(gb:Nat)(v:Value),v=dP g gb n→Q ⟨v,none,[],[(.blk gb [(.pointer (some (Addr.mk g 0 none)))] 139)],[(.c 4 0,.p (.loc 0 0))]⟩)→EP n g r E rm m A c l Q):=by kernel_rfl
theorem EO:LV Un prog 75 mN:=verify Tryz.func75 aa (tb:= []) trivial (by kernel_rfl) (ER.mpr fun n g r E rm m A c l Q h=>by
 obtain⟨NL,NQ,h⟩:=h
 subst NQ
 exact fun f1 f2 gv=>allEq<| aC (fun c1=>qU<| au (h gv (.func (.func 140) #[] #[(.pointer (some (Addr.mk gv 0 none)))]) (by simp [dP,c1])) rfl rfl (ae (congrArg (fun l=>Res.blk (U:=Un) _ l _) rfl) rfl)) fun c1=>allEq<| aC (fun c2=>qU<| au (h gv (.func (.func 142) #[] #[(.pointer (some (Addr.mk gv 0 none)))]) (by simp [dP,c1,c2])) rfl rfl (ae (congrArg (fun l=>Res.blk (U:=Un) _ l _) rfl) rfl)) fun c2=>allEq<| aC (fun c3=>qU<| au (h gv (.func (.func 144) #[] #[(.pointer (some (Addr.mk gv 0 none)))]) (by simp [dP,c1,c2,c3])) rfl rfl (ae (congrArg (fun l=>Res.blk (U:=Un) _ l _) rfl) rfl)) fun c3=>allEq<| aC (fun c4=>qU<| au (h gv (.func (.func 146) #[] #[(.pointer (some (Addr.mk gv 0 none)))]) (by simp [dP,c1,c2,c3,c4])) rfl rfl (ae (congrArg (fun l=>Res.blk (U:=Un) _ l _) rfl) rfl)) fun c4=>allEq<| aC (fun c5=>qU<| au (h gv (.func (.func 148) #[(.pointer (some (Addr.mk g 0 none)))] #[]) (by simp [dP,c1,c2,c3,c4,c5])) rfl rfl (ae (congrArg (fun l=>Res.blk (U:=Un) _ l _) rfl) rfl)) fun c5=>allEq<| aC (fun c6=>qU<| au (h gv (.func (.func 149) #[(.pointer (some (Addr.mk g 0 none)))] #[]) (by simp [dP,c1,c2,c3,c4,c5,c6])) rfl rfl (ae (congrArg (fun l=>Res.blk (U:=Un) _ l _) rfl) rfl)) fun c6=>allEq<| aC (fun c7=>qU<| au (h gv (.func (.func 150) #[(.pointer (some (Addr.mk g 0 none)))] #[]) (by simp [dP,c1,c2,c3,c4,c5,c6,c7])) rfl rfl (ae (congrArg (fun l=>Res.blk (U:=Un) _ l _) rfl) rfl)) fun c7=>allEq<| aC (fun c8=>qU<| au (h gv (.func (.func 151) #[(.pointer (some (Addr.mk g 0 none)))] #[]) (by simp [dP,c1,c2,c3,c4,c5,c6,c7,c8])) rfl rfl (ae (congrArg (fun l=>Res.blk (U:=Un) _ l _) rfl) rfl)) fun c8=>allEq<| aC (fun c9=>qU<| au (h gv (.func (.func 152) #[(.pointer (some (Addr.mk g 0 none)))] #[]) (by simp [dP,c1,c2,c3,c4,c5,c6,c7,c8,c9])) rfl rfl (ae (congrArg (fun l=>Res.blk (U:=Un) _ l _) rfl) rfl)) fun c9=>allEq<| aC (fun Tr=>qU<| au (h gv (.func (.func 153) #[(.pointer (some (Addr.mk g 0 none)))] #[]) (by simp [dP,c1,c2,c3,c4,c5,c6,c7,c8,c9,Tr])) rfl rfl (ae (congrArg (fun l=>Res.blk (U:=Un) _ l _) rfl) rfl)) fun Tr=>allEq<| aC (fun VZ=>qU<| au (h gv (.func (.func 154) #[(.pointer (some (Addr.mk g 0 none)))] #[]) (by simp [dP,c1,c2,c3,c4,c5,c6,c7,c8,c9,Tr,VZ])) rfl rfl (ae (congrArg (fun l=>Res.blk (U:=Un) _ l _) rfl) rfl)) fun VZ=>qU<| au (h gv (.func (.func 155) #[] #[(.pointer (some (Addr.mk gv 0 none)))]) (by simp [dP,c1,c2,c3,c4,c5,c6,c7,c8,c9,Tr,VZ])) rfl rfl (ae (congrArg (fun l=>Res.blk (U:=Un) _ l _) rfl) rfl))
def qh:Ctr Un:=⟨[.one (.obj 0 0)],[],[.ob 1 [(1,1,0)],.ob 0 []],[],fun r E rm m K=>E.n=m.S∧K ⟨(.tuple #[(.int .i64 ((E.on m).broken.1)),(.int .i64 ((E.on m).broken.2))]),(some (.t [none,none])),[],[],[]⟩⟩
def ET(r:Nat→Nat)(E:Pd)(rm:Nat→Nat)(m:Mem)(Q:Ou Un→Prop):Prop:=
 Pd.Ok E→
 Mem.Wf m→
 E.n=m.S∧
 ∀(gv:Nat)(A:Option Addr)(c:Nat),
 ∀(l:List Ent),l=E.aJ→
 ∃I:Nat→Int→Int→Int→Prop,(∃m1,I m1 0 0 0)∧∀(m1:Nat)(NU:Nat→Value)(number:Int)(aj:Int)(NT:Int),I m1 number aj NT→
 split (decide (NT<12)) (
  E.n=m.S∧
  l=E.aJ∧
  ∀(gb:Nat)(v:Value),
  v=dP gv gb (i64.wrap (NT+1))→
  ∃I1:Nat→Int→Int→Int→Prop,(∃m3,I1 m3 number aj 0)∧∀(m3:Nat)(OJ:Nat→Value)(number1:Int)(page1:Int)(N9:Int),I1 m3 number1 page1 N9→
  split (decide (N9<(E.aJ.length:Int))) (
   ∃b:Bool,(
    (v=(.func (.func 140) #[] #[(.pointer (some (Addr.mk gb 0 none)))])∧
     E.n=m.S∧
     l=E.aJ∧
     (E.on m).has N9=true∧
     ((.bool ((E.on m).clause 1 N9)):Value)=(.bool b))∨
    (v=(.func (.func 142) #[] #[(.pointer (some (Addr.mk gb 0 none)))])∧
     E.n=m.S∧
     l=E.aJ∧
     (E.on m).has N9=true∧
     ((.bool ((E.on m).clause 2 N9)):Value)=(.bool b))∨
    (v=(.func (.func 144) #[] #[(.pointer (some (Addr.mk gb 0 none)))])∧
     E.n=m.S∧
     l=E.aJ∧
     (E.on m).has N9=true∧
     ((.bool ((E.on m).clause 3 N9)):Value)=(.bool b))∨
    (v=(.func (.func 146) #[] #[(.pointer (some (Addr.mk gb 0 none)))])∧
     E.n=m.S∧
     l=E.aJ∧
     (E.on m).has N9=true∧
     ((.bool ((E.on m).clause 4 N9)):Value)=(.bool b))∨
    (v=(.func (.func 148) #[(.pointer (some (Addr.mk gv 0 none)))] #[])∧
     E.n=m.S∧
     l=E.aJ∧
     (E.on m).has N9=true∧
     ((.bool ((E.on m).clause 5 N9)):Value)=(.bool b))∨
    (v=(.func (.func 149) #[(.pointer (some (Addr.mk gv 0 none)))] #[])∧
     E.n=m.S∧
     l=E.aJ∧
     (E.on m).has N9=true∧
     ((.bool ((E.on m).clause 6 N9)):Value)=(.bool b))∨
    (v=(.func (.func 150) #[(.pointer (some (Addr.mk gv 0 none)))] #[])∧
     E.n=m.S∧
     l=E.aJ∧
     (E.on m).has N9=true∧
     ((.bool ((E.on m).clause 7 N9)):Value)=(.bool b))∨
    (v=(.func (.func 151) #[(.pointer (some (Addr.mk gv 0 none)))] #[])∧
     E.n=m.S∧
     l=E.aJ∧
     (E.on m).has N9=true∧
     ((.bool ((E.on m).clause 8 N9)):Value)=(.bool b))∨
    (v=(.func (.func 152) #[(.pointer (some (Addr.mk gv 0 none)))] #[])∧
     E.n=m.S∧
     l=E.aJ∧
     (E.on m).has N9=true∧
     ((.bool ((E.on m).clause 9 N9)):Value)=(.bool b))∨
    (v=(.func (.func 153) #[(.pointer (some (Addr.mk gv 0 none)))] #[])∧
     E.n=m.S∧
     l=E.aJ∧
     (E.on m).has N9=true∧
     ((.bool ((E.on m).clause 10 N9)):Value)=(.bool b))∨
    (v=(.func (.func 154) #[(.pointer (some (Addr.mk gv 0 none)))] #[])∧
     E.n=m.S∧
     l=E.aJ∧
     (E.on m).has N9=true∧
     ((.bool ((E.on m).clause 11 N9)):Value)=(.bool b))∨
    (v=(.func (.func 155) #[] #[(.pointer (some (Addr.mk gb 0 none)))])∧
     E.n=m.S∧
     l=E.aJ∧
     (E.on m).has N9=true∧
     ((.bool ((E.on m).clause 12 N9)):Value)=(.bool b)))∧
   split (!b) (
    Q ⟨(.tuple #[(.int .i64 (i64.wrap (NT+1))),(.int .i64 N9)]),(some (.t [none,none])),[],[],[]⟩) (
    ∃m4,m4<m3∧I1 m4 number1 page1 (i64.wrap (N9+1)))) (
   ∃m2,m2<m1∧I m2 number1 page1 (i64.wrap (NT+1)))) (
  Q ⟨(.tuple #[(.int .i64 number),(.int .i64 aj)]),(some (.t [none,none])),[],[],[]⟩)
theorem EU:Vc2 Un prog ⟨Bb [(74,oR),(75,mN),(140,jA),(142,jz),(144,jy),(146,jx),(148,mO),(149,oQ),(150,oT),(151,oS),(152,rG),(153,mM),(154,mK),(155,jw)],.bool,[(140,[],[(.loc 4 0)]),(142,[],[(.loc 4 0)]),(144,[],[(.loc 4 0)]),(146,[],[(.loc 4 0)]),(148,[(.loc 2 0)],[]),(149,[(.loc 2 0)],[]),(150,[(.loc 2 0)],[]),(151,[(.loc 2 0)],[]),(152,[(.loc 2 0)],[]),(153,[(.loc 2 0)],[]),(154,[(.loc 2 0)],[]),(155,[],[(.loc 4 0)])]⟩ [] Tryz.f26 (.r' (.two (.r' (.r' (.two (.r' (.two (.node [] (some ⟨[(2,(.one (.int .i64))),(3,(.one (.int .i64))),(10,(.one (.int .i64)))],[],[2,3,5,6,7]++upN 10 24,[]⟩) [] [] (.r' (.r' (.two (.two (.r' (.r' (.r' (.two (.node [] (some ⟨[(2,(.one (.int .i64))),(3,(.one (.int .i64))),(22,(.one (.int .i64)))],[],[2,3,7]++upN 22 11,[]⟩) [] [] .leaf .leaf) .leaf)))) .leaf) .leaf))) .leaf) .leaf)) .leaf))) .leaf)) [] qh=(∀r (E:Pd) rm (m:Mem),∀Q,(qh.body r E rm m Q)→ET r E rm m Q):=by kernel_rfl
theorem ES:LV Un prog 26 qh:=verify Tryz.func26 aa (tb:= [(74,oR),(75,mN),(140,jA),(142,jz),(144,jy),(146,jx),(148,mO),(149,oQ),(150,oT),(151,oS),(152,rG),(153,mM),(154,mK),(155,jw)]) ⟨J4,EO,zE,zB,zy,zv,EV,HL,HU,HR,J7,EL,EI,zr,trivial⟩ (by kernel_rfl) (EU.mpr fun r E rm m Q h=>by
 obtain⟨NL,h⟩:=h
 exact fun f1 f2=>af ‹_› fun s3 gv A c l QA=>⟨fun m1 number aj NT=>(m1=(12 - NT).toNat)∧(number=0∧aj=0)∧(0≤NT∧NT≤12)∧((E.on m).gF (13 - (NT+1)).toNat (NT+1)=(E.on m).broken),⟨_,rfl,(by omega),(by omega),(by rfl)⟩,fun m1 _ number aj NT ⟨hm,hn,hc,hb⟩=>ar (fun c1=>af ‹_› fun s4=>af ‹_› fun s5 gb v f6=>(by(have hv:=(by assumption:v=dP gv gb (i64.wrap (NT+1))));(rw [aq (x:=NT+1) (by omega)]at hv);exact⟨fun m3 number1 page1 N9=>(m3=((E.n:Int) - N9).toNat)∧(number1=0∧page1=0)∧(0≤N9∧N9≤(E.n:Int))∧(jE ((E.on m).clause (NT+1)) 0 N9=true),⟨_,rfl,‹_›,(by omega),(lS (Int.le_refl _))⟩,fun m3 _ number1 page1 N9 ⟨hm,R5,UG,hz⟩=>ar (fun c2=>(by(have P7:(E.on m).has N9=true:=by grind);exact⟨((E.on m).clause (NT+1) N9),(by rcases(show NT+1=1∨NT+1=2∨NT+1=3∨NT+1=4∨NT+1=5∨NT+1=6∨NT+1=7∨NT+1=8∨NT+1=9∨NT+1=10∨NT+1=11∨NT+1=12 from by omega)with hk | hk | hk | hk | hk | hk | hk | hk | hk | hk | hk | hk<;>first | exact .inl ⟨by rw [hv,hk];rfl,NL,QA,P7,by rw [hk]⟩ | exact .inr (.inl ⟨by rw [hv,hk];rfl,NL,QA,P7,by rw [hk]⟩) | exact .inr (.inr (.inl ⟨by rw [hv,hk];rfl,NL,QA,P7,by rw [hk]⟩)) | exact .inr (.inr (.inr (.inl ⟨by rw [hv,hk];rfl,NL,QA,P7,by rw [hk]⟩))) | exact .inr (.inr (.inr (.inr (.inl ⟨by rw [hv,hk];rfl,NL,QA,P7,by rw [hk]⟩)))) | exact .inr (.inr (.inr (.inr (.inr (.inl ⟨by rw [hv,hk];rfl,NL,QA,P7,by rw [hk]⟩))))) | exact .inr (.inr (.inr (.inr (.inr (.inr (.inl ⟨by rw [hv,hk];rfl,NL,QA,P7,by rw [hk]⟩)))))) | exact .inr (.inr (.inr (.inr (.inr (.inr (.inr (.inl ⟨by rw [hv,hk];rfl,NL,QA,P7,by rw [hk]⟩))))))) | exact .inr (.inr (.inr (.inr (.inr (.inr (.inr (.inr (.inl ⟨by rw [hv,hk];rfl,NL,QA,P7,by rw [hk]⟩)))))))) | exact .inr (.inr (.inr (.inr (.inr (.inr (.inr (.inr (.inr (.inl ⟨by rw [hv,hk];rfl,NL,QA,P7,by rw [hk]⟩))))))))) | exact .inr (.inr (.inr (.inr (.inr (.inr (.inr (.inr (.inr (.inr (.inl ⟨by rw [hv,hk];rfl,NL,QA,P7,by rw [hk]⟩)))))))))) | exact .inr (.inr (.inr (.inr (.inr (.inr (.inr (.inr (.inr (.inr (.inr (⟨by rw [hv,hk];rfl,NL,QA,P7,by rw [hk]⟩)))))))))))),bL (fun c3=>au h (congrArg (fun l=>Value.tuple (List.toArray l)) (ae (cf (by(rw [aq (x:=NT+1) (by omega),DB.tg ⟨by omega,by omega⟩ hb hz c3 ⟨UG.1,by grind⟩]))) (ae (cf (by(rw [DB.tg ⟨by omega,by omega⟩ hb hz c3 ⟨UG.1,by grind⟩]))) rfl))) rfl rfl) fun c3=>⟨_,(by(have h9:=aq (x:=N9+1) (by grind));grind),rfl,‹_›,(by(have h9:=aq (x:=N9+1) (by grind));grind),(gw hz (by grind) (aq (by grind)))⟩⟩)) fun c2=>⟨_,(by(have h8:=aq (x:=NT+1) (by omega));omega),rfl,(R5),(by(have h8:=aq (x:=NT+1) (by omega));omega),(by rw [aq (x:=NT+1) (by omega)];exact DB.zd ⟨by omega,by omega⟩ hb (show N9=((E.on m).S:Int)by grind) hz)⟩⟩)) fun c1=>au h (congrArg (fun l=>Value.tuple (List.toArray l)) (ae (cf (by rw [DB.qG (by omega) (by omega) hb];omega)) (ae (cf (by rw [DB.qG (by omega) (by omega) hb];omega)) rfl))) rfl rfl⟩)
end
end Go.Proofs.YtinhphjfnedhgaaGreatDoor
