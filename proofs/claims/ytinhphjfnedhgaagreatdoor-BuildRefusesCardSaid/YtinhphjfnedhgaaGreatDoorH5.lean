/- Chapter 17, BuildRefuses: a call that is refused changes nothing; one that is taken does what the layers below do by hand. -/
import Derived.Test.YtinhphjfnedhgaaGreatDoorH4
import Derived.KernelRfl
import Derived.Test.YtinhphjfnedhgaaGreatDoorRows
import Derived.LaidHandle
import Derived.LaidLaws
import Derived.Carry
import Derived.Test.YtinhphjfnedhgaaGreatDoorTie
import Derived.Test.YtinhphjfnedhgaaGreatDoorCards
import Derived.SevenTiedAt
set_option linter.unusedVariables false
set_option linter.unusedSimpArgs false
namespace Go.Proofs.YtinhphjfnedhgaaGreatDoor
open Go.Proofs.Tryz (prog)
open Go Go.RowKit V
open Go.IntKind (i64 u32 u64)
section
set_option maxRecDepth 100000
set_option maxHeartbeats 1000000
attribute [local irreducible] Vc2 VcD
attribute [local grind=] Pd.dF Pd.eD Pd.jC Pd.mB Pd.bJ Pd.g6 Pd.jB Pd.gG Pd.mm Pd.ru
attribute [local grind .] Pd.Ok.ent
attribute [local grind→] Pd.Ok.dz
def kL:Ctr Un:=⟨[.one (.obj 0 0),.enc 5],[(2,5)],[.ob 1 [(1,1,0)],.ob 0 [],.ob 5 []],[0,1],fun o r E rm m rk kk K=>E.n=m.S∧LOp.Ok o∧K ⟨(.int .i64 ((E.on m).bh o)),none,[.ob 1 ((DB.call kk (E.on m) o).pd),.ob 0 ((DB.call kk (E.on m) o).mem)],[],[]⟩⟩
def xw(o:LOp)(r:Nat→Nat)(E:Pd)(rm:Nat→Nat)(m:Mem)(rk:Nat→Nat)(kk:List Int)(Q:Ou Un→Prop):Prop:=
 Pd.Ok E→
 Mem.Wf m→
 ∀(gv:Nat),
 ∀x7:Bool,x7=((o.k:Int)==1)→
 split x7 (
  E.n=m.S∧
  (0≤o.a∧o.a<4294967296)∧
  (0≤o.b∧o.b<4294967296)∧
  ∀(E1:Pd),E1=((E.on m).bx o.a o.b).pd→
  Pd.Ok E1→
  ∀(m1:Mem),m1=((E.on m).bx o.a o.b).mem→
  Mem.Wf m1→
  Q ⟨(.int .i64 (i64.wrap ((E.on m).bW o.a o.b))),none,[.ob 1 E1,.ob 0 m1],[],[]⟩) (
  ∀J6:Bool,J6=((o.k:Int)==2)→
  split J6 (
   E.n=m.S∧
   (0≤o.a∧o.a<4294967296)∧
   (0≤o.b∧o.b<4294967296)∧
   (0≤o.c∧o.c<4294967296)∧
   ∀(E1:Pd),E1=(DB.bp kk (E.on m) o.a o.b o.c).pd→
   Pd.Ok E1→
   ∀(m1:Mem),m1=(DB.bp kk (E.on m) o.a o.b o.c).mem→
   Mem.Wf m1→
   Q ⟨(.int .i64 (i64.wrap ((E.on m).bE o.a o.b))),none,[.ob 1 E1,.ob 0 m1],[],[]⟩) (
   ∀MO:Bool,MO=((o.k:Int)==3)→
   split MO (
    E.n=m.S∧
    (0≤o.a∧o.a<4294967296)∧
    (0≤o.b∧o.b<4294967296)∧
    (0≤o.c∧o.c<4294967296)∧
    ∀(E1:Pd),E1=(DB.cX kk (E.on m) o.a o.b o.c).pd→
    Pd.Ok E1→
    ∀(m1:Mem),m1=(DB.cX kk (E.on m) o.a o.b o.c).mem→
    Mem.Wf m1→
    Q ⟨(.int .i64 (i64.wrap ((E.on m).cR o.a o.b o.c))),none,[.ob 1 E1,.ob 0 m1],[],[]⟩) (
    ∀x38:Bool,x38=((o.k:Int)==4)→
    split x38 (
     E.n=m.S∧
     (0≤o.a∧o.a<4294967296)∧
     (0≤o.b∧o.b<4294967296)∧
     (0≤o.c∧o.c<4294967296)∧
     (0≤o.d∧o.d<4294967296)∧
     ∀(E1:Pd),E1=(DB.eo kk (E.on m) o.a o.b o.c o.d).pd→
     Pd.Ok E1→
     ∀(m1:Mem),m1=(DB.eo kk (E.on m) o.a o.b o.c o.d).mem→
     Mem.Wf m1→
     Q ⟨(.int .i64 (i64.wrap ((E.on m).cT o.a o.b o.c o.d))),none,[.ob 1 E1,.ob 0 m1],[],[]⟩) (
     E.n=m.S∧
     (0≤o.a∧o.a<4294967296)∧
     (0≤o.b∧o.b<4294967296)∧
     (0≤o.c∧o.c<4294967296)∧
     ∀(E1:Pd),E1=(DB.cY kk (E.on m) o.a o.b o.c).pd→
     Pd.Ok E1→
     ∀(m1:Mem),m1=(DB.cY kk (E.on m) o.a o.b o.c).mem→
     Mem.Wf m1→
     Q ⟨(.int .i64 (i64.wrap ((E.on m).dj o.a o.b o.c))),none,[.ob 1 E1,.ob 0 m1],[],[]⟩))))
theorem xx:Vc2 Un prog (bc [(31,fK),(32,eP),(34,js),(35,kT),(36,jt)]) [7,16,27,38] Tryz.f9 .leaf [] kL=(∀(o:LOp) r (E:Pd) rm (m:Mem) rk (kk:List Int),∀Q,(kL.body o r E rm m rk kk Q)→xw o r E rm m rk kk Q):=by kernel_rfl
theorem xv:LV Un prog 9 kL:=verify Tryz.func9 aa (tb:= [(31,fK),(32,eP),(34,js),(35,kT),(36,jt)]) ⟨ta,rj,Ca,ER,Cf,trivial⟩ (by kernel_rfl) (xx.mpr fun o r E rm m rk kk Q h=>by
 obtain⟨Jl,Jp,h⟩:=h
 exact fun f1 f2=>(by obtain⟨Ww,M6,ho3,ho4⟩:=Jp;have hsm:=DB.FF (E.on m) o;(have Md:i64.wrap ((E.on m).bh o)=(E.on m).bh o:=ax (by omega));unfold DB.bh at Md;exact fun gv=>allEq<| aB (fun c1=>af ‹_› fun s3=>af ‹_› fun s4=>af ‹_› fun s5 E1 Jy f6 m1 Jg f7=>au h (cr (by unfold DB.bh;rw [if_pos ‹_›]at Md ⊢;exact Md.symm)) (ab (uO1 (by(rw [DB.call,if_pos ‹_›];subst_vars;rfl))) (ab (uO0 (by(rw [DB.call,if_pos ‹_›];subst_vars;rfl))) rfl)) rfl) fun c1=>allEq<| aB (fun c2=>af ‹_› fun s8=>af ‹_› fun s9=>af ‹_› fun s10=>af ‹_› fun JO E1 Jy f12 m1 Jg f13=>au h (cr (by unfold DB.bh;rw [if_neg ‹_›,if_pos ‹_›]at Md ⊢;exact Md.symm)) (ab (uO1 (by(rw [DB.call,if_neg ‹_›,if_pos ‹_›];subst_vars;rfl))) (ab (uO0 (by(rw [DB.call,if_neg ‹_›,if_pos ‹_›];subst_vars;rfl))) rfl)) rfl) fun c2=>allEq<| aB (fun c3=>af ‹_› fun s14=>af ‹_› fun Ua=>af ‹_› fun V8=>af ‹_› fun V7 E1 Jy f18 m1 Jg f19=>au h (cr (by unfold DB.bh;rw [if_neg ‹_›,if_neg ‹_›,if_pos ‹_›]at Md ⊢;exact Md.symm)) (ab (uO1 (by(rw [DB.call,if_neg ‹_›,if_neg ‹_›,if_pos ‹_›];subst_vars;rfl))) (ab (uO0 (by(rw [DB.call,if_neg ‹_›,if_neg ‹_›,if_pos ‹_›];subst_vars;rfl))) rfl)) rfl) fun c3=>allEq<| aB (fun c4=>af ‹_› fun s20=>af ‹_› fun s21=>af ‹_› fun s22=>af ‹_› fun s23=>af ‹_› fun s24 E1 Jy f25 m1 Jg f26=>au h (cr (by unfold DB.bh;rw [if_neg ‹_›,if_neg ‹_›,if_neg ‹_›,if_pos ‹_›]at Md ⊢;exact Md.symm)) (ab (uO1 (by(rw [DB.call,if_neg ‹_›,if_neg ‹_›,if_neg ‹_›,if_pos ‹_›];subst_vars;rfl))) (ab (uO0 (by(rw [DB.call,if_neg ‹_›,if_neg ‹_›,if_neg ‹_›,if_pos ‹_›];subst_vars;rfl))) rfl)) rfl) fun c4=>af ‹_› fun s27=>af ‹_› fun s28=>af ‹_› fun s29=>af ‹_› fun s30 E1 Jy f31 m1 Jg f32=>au h (cr (by unfold DB.bh;rw [if_neg ‹_›,if_neg ‹_›,if_neg ‹_›,if_neg ‹_›]at Md ⊢;exact Md.symm)) (ab (uO1 (by(rw [DB.call,if_neg ‹_›,if_neg ‹_›,if_neg ‹_›,if_neg ‹_›];subst_vars;rfl))) (ab (uO0 (by(rw [DB.call,if_neg ‹_›,if_neg ‹_›,if_neg ‹_›,if_neg ‹_›];subst_vars;rfl))) rfl)) rfl))
def jq:Ctr Un:=⟨[.one (.obj 0 0),.one (.int .i64)],[],[.ob 1 [(1,1,0)],.ob 0 []],[],fun p r E rm m K=>E.n=m.S∧K ⟨(.bool ((E.on m).sk p)),none,[],[],[]⟩⟩
def BU(p:Int)(r:Nat→Nat)(E:Pd)(rm:Nat→Nat)(m:Mem)(Q:Ou Un→Prop):Prop:=
 Pd.Ok E→
 Mem.Wf m→
 E.n=m.S∧
 ∀(gv:Nat),
 E.n=m.S∧
 ∀(Jj:Nat),
 ∃J:Bool→Prop,(
  split (((E.on m).aS p)==0) (
   split (((E.on m).aS (((E.on m).entry p).owner))==0) (
    split (((E.on m).entry p).typ !=0) (
     split (((E.on m).entry (((E.on m).entry p).owner)).state==3) (
      split (((E.on m).entry p).typ !=1) (
       J true) (
       J (((E.on m).entry p).refs==0))) (
      J false)) (
     J false)) (
    J false)) (
   J false))∧∀(J8:Nat→Value)(x4:Bool),J x4→
 Q ⟨(.bool x4),none,[],[],[]⟩
theorem BV:Vc2 Un prog (bc [(18,cB)]) [] Tryz.f44 (.r' (.r' (.r' (.two (.node [] (some ⟨[(4,(.one .bool))],[],[4]++upN 22 26,[]⟩) [] [] .leaf .leaf) .leaf)))) [] jq=(∀p r (E:Pd) rm (m:Mem),∀Q,(jq.body p r E rm m Q)→BU p r E rm m Q):=by kernel_rfl
section
attribute [local grind=] DB.sk DB.entry DB.aS
theorem BT:LV Un prog 44 jq:=verify Tryz.func44 aa (tb:= [(18,cB)]) ⟨gm,trivial⟩ (by kernel_rfl) (BV.mpr fun p r E rm m Q h=>by
 obtain⟨Jl,h⟩:=h
 exact fun f1 f2=>af ‹_› fun s3 gv=>af ‹_› fun s4 Jj=>gA (((((E.on m).aS p):Int)==0) && (((((E.on m).aS (((E.on m).entry p).owner)):Int)==0) && (((((E.on m).entry p).typ:Int) !=0) && (((((E.on m).entry (((E.on m).entry p).owner)).state:Int)==3) && (((((E.on m).entry p).typ:Int) !=1) || ((((E.on m).entry p).refs:Int)==0)))))) (ae (fun c1=>ae (fun c2=>ae (fun c3=>ae (fun c4=>ae (fun c5=>(by grind)) fun c5=>(by grind)) fun c4=>(by grind)) fun c3=>(by grind)) fun c2=>(by grind)) fun c1=>(by grind))<| mG h (by grind))
end
def kN:Ctr Un:=⟨[.one (.obj 0 0),.enc 5],[],[.ob 1 [(1,1,0)],.ob 0 []],[0,1],fun o r E rm m K=>E.n=m.S∧LOp.Ok o∧K ⟨(.tuple #[]),(some (.t [])),[.ob 1 (((E.on m).beside o).pd),.ob 0 (((E.on m).beside o).mem)],[],[]⟩⟩
def xB(o:LOp)(r:Nat→Nat)(E:Pd)(rm:Nat→Nat)(m:Mem)(Q:Ou Un→Prop):Prop:=
 Pd.Ok E→
 Mem.Wf m→
 ∀(gv:Nat),
 ∀x9:Bool,x9=((o.k:Int)==6)→
 split x9 (
  (0≤o.c∧o.c<4294967296)∧
  ∀(m1:Mem),m1=(m.write false (i64.wrap o.a) (i64.wrap ((o.b:Int).tmod 1024)) o.c)→
  Mem.Wf m1→
  Q ⟨(.tuple #[]),(some (.t [])),[.ob 1 E,.ob 0 m1],[],[]⟩) (
  ∀MP:Bool,MP=((o.k:Int)==7)→
  split MP (
   E.n=m.S∧
   ∀(Jj:Nat),
   ∃J:Bool→Prop,(
    split (((E.on m).aS (i64.wrap o.a))==0) (
     split (((E.on m).entry (i64.wrap o.a)).typ==1) (
      J (((E.on m).entry (i64.wrap o.a)).state==1)) (
      J false)) (
     J false))∧∀(J8:Nat→Value)(Qv:Bool),J Qv→
   split Qv (
    ∀i:Int,i=0→
    ∃I:Nat→Int→Mem→Prop,(∃m1,I m1 i m)∧∀(m1:Nat)(Nj:Nat→Value)(i1:Int)(s1:Mem),I m1 i1 s1→
    Mem.Wf s1→
    split (decide (i1<26)) (
     (0≤(0:Int)∧(0:Int)<4294967296)∧
     ∀(m3:Mem),m3=(s1.write true (i64.wrap o.a) (i64.wrap (11+i1)) 0)→
     Mem.Wf m3→
     ∀i2:Int,i2=(i64.wrap (i1+1))→
     ∃m2,m2<m1∧I m2 i2 m3) (
     E.n=s1.S∧
     ∀(E1:Pd),E1=((E.on s1).setState (i64.wrap o.a) 2).pd→
     Pd.Ok E1→
     ∀(m3:Mem),m3=((E.on s1).setState (i64.wrap o.a) 2).mem→
     Mem.Wf m3→
     Q ⟨(.tuple #[]),(some (.t [])),[.ob 1 E1,.ob 0 m3],[],[]⟩)) (
    Q ⟨(.tuple #[]),(some (.t [])),[.ob 1 E,.ob 0 m],[],[]⟩)) (
   ∀x64:Bool,x64=((o.k:Int)==8)→
   split x64 (
    E.n=m.S∧
    ∀(E1:Pd),E1=((E.on m).setState (i64.wrap o.a) 3).pd→
    Pd.Ok E1→
    ∀(m1:Mem),m1=((E.on m).setState (i64.wrap o.a) 3).mem→
    Mem.Wf m1→
    Q ⟨(.tuple #[]),(some (.t [])),[.ob 1 E1,.ob 0 m1],[],[]⟩) (
    ∀Nu:Bool,Nu=((o.k:Int)==9)→
    split Nu (
     E.n=m.S∧
     split ((E.on m).sk (i64.wrap o.a)) (
      E.n=m.S∧
      ∀(E1:Pd),E1=((E.on m).eC (i64.wrap o.a)).pd→
      Pd.Ok E1→
      ∀(m1:Mem),m1=((E.on m).eC (i64.wrap o.a)).mem→
      Mem.Wf m1→
      Q ⟨(.tuple #[]),(some (.t [])),[.ob 1 E1,.ob 0 m1],[],[]⟩) (
      Q ⟨(.tuple #[]),(some (.t [])),[.ob 1 E,.ob 0 m],[],[]⟩)) (
     Q ⟨(.tuple #[]),(some (.t [])),[.ob 1 E,.ob 0 m],[],[]⟩))))
theorem xD:Vc2 Un prog (bc [(14,aJ),(42,dq),(18,cB),(43,kP),(44,jq),(45,uJ)]) [6,9,24,64,71] Tryz.f11 (.r' (.r' (.two (.r' (.two (.node [] none [] [(3,[2]),(7,[2]),(11,[2])] .leaf .leaf) (.r' (.two (.r' (.two (.node [] (some ⟨[(45,(.one .bool))],[],upN 34 12,[]⟩) [] [] .leaf .leaf) (.two (.two (.r' (.two (.node [] (some ⟨[(6,(.one (.int .i64)))],[],[6]++upN 46 13,[(1,(.ob 0))]⟩) [] [] (.r' (.two (.two (.node [] none [] [(3,[2])] .leaf .leaf) .leaf) .leaf)) .leaf) .leaf)) .leaf) .leaf))) .leaf)))) .leaf))) [] kN=(∀(o:LOp) r (E:Pd) rm (m:Mem),∀Q,(kN.body o r E rm m Q)→xB o r E rm m Q):=by kernel_rfl
theorem xz:LV Un prog 11 kN:=verify Tryz.func11 aa (tb:= [(14,aJ),(42,dq),(18,cB),(43,kP),(44,jq),(45,uJ)]) ⟨bO,jn,gm,xG,BT,Gk,trivial⟩ (by kernel_rfl) (xD.mpr fun o r E rm m Q h=>by
 obtain⟨Jl,Jp,h⟩:=h
 exact fun f1 f2=>(by obtain⟨Ww,M6,ho3,ho4⟩:=Jp;(have Up:i64.wrap o.a=o.a:=ax (by omega));(have hwb:i64.wrap (Int.tmod o.b 1024)=o.b % 1024:=by rw [Int.tmod_eq_emod_of_nonneg M6.1,ax (by omega)]);simp only [Up,hwb];exact fun gv=>allEq<| aB (fun c1=>af ‹_› fun s3 m1 Jg f4=>au h rfl (ab (uO1 (by rw [DB.beside,if_pos ‹_›];subst_vars;(rw [DB.cK (by simp only [Mem.bB,Mem.hY])];exact Pd.bJ _ _ Jl))) (ab (uO0 (by rw [DB.beside,if_pos ‹_›];subst_vars;rfl)) rfl)) rfl) fun c1=>allEq<| aB (fun c2=>af ‹_› fun s5 Jj=>⟨fun Qv=>(Qv=(E.on m).mJ o.a),aB (fun c3=>aB (fun c4=>(by simp_all [DB.mJ,DB.entry,DB.aS])) fun c4=>(by simp_all [DB.mJ,DB.entry,DB.aS])) fun c3=>(by simp_all [DB.mJ,DB.entry,DB.aS]),fun _ Qv hx=>ae (fun c5=>allEq<| ⟨fun m1 i1 s1=>(m1=(26 - i1).toNat)∧(0≤i1∧i1≤26)∧(s1=m.wrs o.a 11 ((List.replicate 26 (0:Int)).take i1.toNat)),⟨_,rfl,(by omega),(by rfl)⟩,fun m1 _ i1 s1 ⟨hm,h1,h2⟩=>fun f6=>aq (fun c6=>af (by omega) fun s7 m3 Ke f8=>allEq<| ⟨_,(by rw [ax (by omega)];omega),rfl,(by rw [ax (by omega)];omega),(by rw [CJ (by omega),← h2];assumption)⟩) fun c6=>af (by rw [h2,Mem.hY];exact Jl) fun s9 E1 Jy f10 m3 Ke f11=>au h rfl (ab (uO1 (by rw [DB.beside,if_neg ‹_›,if_pos ‹_›,if_pos (by rw [← hx];assumption)];(have h9:s1=m.wrs o.a 11 (List.replicate 26 0):=by rw [h2,List.take_of_length_le];show 26≤i1.toNat;omega);subst h9;subst_vars;rfl)) (ab (uO0 (by rw [DB.beside,if_neg ‹_›,if_pos ‹_›,if_pos (by rw [← hx];assumption)];(have h9:s1=m.wrs o.a 11 (List.replicate 26 0):=by rw [h2,List.take_of_length_le];show 26≤i1.toNat;omega);subst h9;subst_vars;rfl)) rfl)) rfl⟩) fun c5=>au h rfl (ab (uO1 (by rw [DB.beside,if_neg ‹_›,if_pos ‹_›,if_neg (fun e=>Bool.noConfusion ((hx.trans e).symm.trans (by assumption:Qv=false)))];subst_vars;exact Pd.bJ _ _ Jl)) (ab (uO0 (by rw [DB.beside,if_neg ‹_›,if_pos ‹_›,if_neg (fun e=>Bool.noConfusion ((hx.trans e).symm.trans (by assumption:Qv=false)))];subst_vars;rfl)) rfl)) rfl⟩) fun c2=>allEq<| aB (fun c7=>af ‹_› fun MQ E1 Jy f13 m1 Jg f14=>au h rfl (ab (uO1 (by rw [DB.beside,if_neg ‹_›,if_neg ‹_›,if_pos ‹_›];subst_vars;rfl)) (ab (uO0 (by rw [DB.beside,if_neg ‹_›,if_neg ‹_›,if_pos ‹_›];subst_vars;rfl)) rfl)) rfl) fun c7=>allEq<| aB (fun c8=>af ‹_› fun Ua=>ae (fun c9=>af ‹_› fun V8 E1 Jy f17 m1 Jg f18=>au h rfl (ab (uO1 (by rw [DB.beside,if_neg ‹_›,if_neg ‹_›,if_neg ‹_›,if_pos ‹_›,if_pos ‹_›];subst_vars;rfl)) (ab (uO0 (by rw [DB.beside,if_neg ‹_›,if_neg ‹_›,if_neg ‹_›,if_pos ‹_›,if_pos ‹_›];subst_vars;rfl)) rfl)) rfl) fun c9=>au h rfl (ab (uO1 (by rw [DB.beside,if_neg ‹_›,if_neg ‹_›,if_neg ‹_›,if_pos ‹_›,if_neg (by simp [*])];subst_vars;exact Pd.bJ _ _ Jl)) (ab (uO0 (by rw [DB.beside,if_neg ‹_›,if_neg ‹_›,if_neg ‹_›,if_pos ‹_›,if_neg (by simp [*])];subst_vars;rfl)) rfl)) rfl) fun c8=>au h rfl (ab (uO1 (by rw [DB.beside,if_neg ‹_›,if_neg ‹_›,if_neg ‹_›,if_neg ‹_›];subst_vars;exact Pd.bJ _ _ Jl)) (ab (uO0 (by rw [DB.beside,if_neg ‹_›,if_neg ‹_›,if_neg ‹_›,if_neg ‹_›];subst_vars;rfl)) rfl)) rfl))
end
section
set_option maxRecDepth 100000
set_option maxHeartbeats 1000000
attribute [local irreducible] Vc2 VcD
def ur:Ctr Un:=⟨[.one (.int .i64),.one (.int .i64)],[],[],[],fun s i K=>split (okM s i) (∀(rN:Nat→Nat),K ⟨(.tuple #[(.pointer (some (Addr.mk (rN 0) 0 none))),(.int .i64 0)]),(some (.t [(some (.obj 0 0 0)),none])),[],[(.ob 0 rN (Mem.fresh s.toNat i.toNat))],[]⟩) (K ⟨(.tuple #[(.pointer none),(.int .i64 1)]),(some (.t [none,none])),[],[],[]⟩)⟩
theorem Gd:LV Un prog 27 ur:=by
 show ∀(s:Int)(i:Int),∀Q:Ou Un→Prop,(split (okM s i) (∀(rN:Nat→Nat),Q ⟨(.tuple #[(.pointer (some (Addr.mk (rN 0) 0 none))),(.int .i64 0)]),(some (.t [(some (.obj 0 0 0)),none])),[],[(.ob 0 rN (Mem.fresh s.toNat i.toNat))],[]⟩) (Q ⟨(.tuple #[(.pointer none),(.int .i64 1)]),(some (.t [none,none])),[],[],[]⟩))→∀(X:Nat→Nat→Prop)(w:World),Sat (U:=Un) [] X w→av (U:=Un) [] fr0 []→Calls prog 27 #[(.int .i64 s),(.int .i64 i)] w (aT (U:=Un) [] [] X w Q)
 intro s i Q hQ X w hs hl
 cases hm:okM s i
 ·refine(Fk hm).mono ?_
  rintro e w' ⟨rfl,rfl⟩
  exact aT.pu hs (Ch.refl _ _) (bL hQ hm) (KnO.tup _ (by simp))
 ·obtain⟨h1,h2⟩:=zU hm
  exact Ev s i Q ⟨⟨h1,h2⟩,fun rN=>bK hQ hm rN⟩ X w hs hl
end
section
set_option maxRecDepth 100000
set_option maxHeartbeats 1000000
attribute [local irreducible] Vc2 VcD
def ic:Ctr Un:=⟨[.one (.obj 0 0)],[],[.ob 0 []],[],fun rm m K=>∀(rN:Nat→Nat),K ⟨(.pointer (some (Addr.mk (rN 0) 0 none))),(some (.p (.obj 1 0 0))),[],[(.ob 0 rN m)],[]⟩⟩
theorem qV:LV Un prog 51 ic:=by
 show ∀(rm:Nat→Nat)(m:Mem),∀Q:Ou Un→Prop,(∀(rN:Nat→Nat),Q ⟨(.pointer (some (Addr.mk (rN 0) 0 none))),(some (.p (.obj 1 0 0))),[],[(.ob 0 rN m)],[]⟩)→∀(X:Nat→Nat→Prop)(w:World),Sat (U:=Un) [(.ob 0 rm m)] X w→av (U:=Un) [(.ob 0 rm m)] fr0 []→Calls prog 51 #[(.pointer (some (Addr.mk (rm 0) 0 none)))] w (aT (U:=Un) [(.ob 0 rm m)] [] X w Q)
 intro rm m Q hQ X w hs hl
 obtain⟨L,hg,hM,hX⟩:=lx hs
 rw [hg]
 refine(yp hM).mono ?_
 rintro e w' ⟨u,rfl,L',rfl,RG,hz,q⟩
 exact aT.sb (Z:=L'.X) hs q (show RS (U:=Un) L'.X w' (.ob 0 (fun _=>L'.g) m)from(⟨L',rfl,fun _=>Iff.rfl,RG⟩:cw 0 (fun _=>L'.g) m L'.X w')) hz (hQ (fun _=>L'.g)) rfl (fun _ _ h=>by cases h)
def iq:Ctr Un:=⟨[.one (.obj 0 0),.one (.sl 1)],[(2,1)],[.ob 0 [],.lst 1 false 29,.ob 1 []],[],fun rm m A c l r E K=>l=(E.on m).words.map U32.mk∧E.n=m.S∧∀(rN:Nat→Nat),K ⟨(.tuple #[(.pointer (some (Addr.mk (rN 0) 0 none))),(.int .i64 0)]),(some (.t [(some (.obj 3 0 0)),none])),[],[(.ob 1 rN E)],[(.l 3 1,.p (.obj 0 0 0))]⟩⟩
theorem rf:LV Un prog 50 iq:=by
 show ∀(rm:Nat→Nat)(m:Mem)(A:Option Addr)(c:Nat)(l:List U32)(r:Nat→Nat)(E:Pd),∀Q:Ou Un→Prop,(l=(E.on m).words.map U32.mk∧E.n=m.S∧∀(rN:Nat→Nat),Q ⟨(.tuple #[(.pointer (some (Addr.mk (rN 0) 0 none))),(.int .i64 0)]),(some (.t [(some (.obj 3 0 0)),none])),[],[(.ob 1 rN E)],[(.l 3 1,.p (.obj 0 0 0))]⟩)→∀(X:Nat→Nat→Prop)(w:World),Sat (U:=Un) [(.ob 0 rm m),(.lst 1 false 29 A c l),(.ob 1 r E)] X w→av (U:=Un) [(.ob 0 rm m),(.lst 1 false 29 A c l),(.ob 1 r E)] fr0 []→Calls prog 50 #[(.pointer (some (Addr.mk (rm 0) 0 none))),(.slice A l.length c)] w (aT (U:=Un) [(.ob 0 rm m),(.lst 1 false 29 A c l),(.ob 1 r E)] [] X w Q)
 intro rm m A c l r E Q hQ X w hs hl
 obtain⟨hl0,hn,hQ⟩:=hQ
 obtain⟨L,hg,hX,hM⟩:=(hs.res 0 _ rfl:cw 0 rm m (X 0) w)
 have hr:Rd w (X 1) A l.length c l:=hs.res 1 _ rfl
 have hE:E.Ok:=Hx (t:=1) (r:=r) (s:=E) (hs.res 2 _ rfl)
 have Ky:∀p,p<(E.on m).S→p<E.n:=fun p hp=>by rw [hn];exact hp
 have hD:(E.on m).Ok:=⟨fun p hp=>⟨(hE.ent p (Ky p hp)).1,by have h8:=(hE.ent p (Ky p hp)).2;rw [hn]at h8;exact h8⟩,hE.aE⟩
 have hw:dm l:=by rw [hl0];exact DB.Av hD
 rw [hg]
 refine(Ip hM hr hw).mono ?_
 rintro e w' ⟨u,rfl,p,rfl,Kg,hbad,q⟩
 have hlw:=DB.yq hD
 rw [← hl0]at hlw
 obtain⟨he,hb,Pt⟩:=hlw
 obtain⟨g,a,rfl,hDB,RA,ha1⟩:=Kg he
 have QK:PdP w' g a L.g E:=PdP.congr hDB.pd hn hb.symm (fun p hp=>(Pt p hp).symm)
 have he:DB.ao m l=0:=he
 rw [he]
 exact aT.sb (Z:=fun k=>k=g∨k=a) hs q (show RS (U:=Un) (fun k=>k=g∨k=a) w' (.ob 1 (fun i=>if i=0 then g else L.g) E)from(⟨a,fun k=>Iff.rfl,QK⟩:cw 1 (fun i=>if i=0 then g else L.g) E (fun k=>k=g∨k=a) w')) (fun k hk=>by rcases hk with rfl | rfl;exact RA;exact ha1) (hQ (fun i=>if i=0 then g else L.g)) (KnO.pair rfl) (qk ⟨_,_,_,rfl,show some (Value.pointer (some ⟨rm 0,0,none⟩))=some (.pointer (some ⟨L.g,0,none⟩))by rw [hg]⟩)
def kJ:Ctr Un:=⟨[.one (.obj 0 0),.enc 5],[],[.ob 1 [(1,1,0)],.ob 0 []],[],fun o r E rm m K=>E.n=m.S∧o.k=10∧∀(rN:Nat→Nat)(rM:Nat→Nat),K ⟨(.pointer (some (Addr.mk (rN 0) 0 none))),(some (.p (.obj 2 0 0))),[],[(.ob 1 rN E),(.ob 0 rM m)],[(.l 2 1,.p (.obj 3 0 0))]⟩⟩
def xm(o:LOp)(r:Nat→Nat)(E:Pd)(rm:Nat→Nat)(m:Mem)(Q:Ou Un→Prop):Prop:=
 Pd.Ok E→
 Mem.Wf m→
 ∀(gv:Nat),
 ∀x9:Bool,x9=((o.k:Int)==10)→
 split x9 (
  E.n=m.S∧
  ∀(rN:Nat→Nat)(rM:Nat→Nat),
  ∀(E1:Pd),E1=E→
  Pd.Ok E1→
  ∀(m1:Mem),m1=m→
  Mem.Wf m1→
  Q ⟨(.pointer (some (Addr.mk (rN 0) 0 none))),(some (.p (.obj 2 0 0))),[],[(.ob 1 rN E1),(.ob 0 rM m1)],[(.l 2 1,.p (.obj 3 0 0))]⟩) (
  ∀KJ:Bool,KJ=((o.k:Int)==11)→
  split KJ (
   ∀(rN:Nat→Nat),
   ∀(m1:Mem),m1=m→
   Mem.Wf m1→
   E.n=m.S∧
   ∀(A:Option Addr)(c:Nat),
   ∀(l:List U32),l=(E.on m).words.map U32.mk→
   l=(E.on m1).words.map U32.mk∧
   E.n=m1.S∧
   ∀(M1:Nat→Nat),
   ∀(E1:Pd),E1=E→
   Pd.Ok E1→
   ∃J:Bool→Prop,(
    J true)∧∀(Ka:Nat→Value)(L6:Bool),J L6→
   split L6 (
    Q ⟨(.pointer (some (Addr.mk (M1 0) 0 none))),none,[],[(.ob 0 rN m1),(.lst 1 true 29 A c l)],[]⟩) (
    Q ⟨(.pointer (some (Addr.mk (r 0) 0 none))),(some (.p (.obj 0 0 0))),[],[],[]⟩)) (
   Q ⟨(.pointer (some (Addr.mk (r 0) 0 none))),(some (.p (.obj 0 0 0))),[],[],[]⟩))
theorem xn:Vc2 Un prog (bc [(17,ir),(14,aJ),(51,ic),(52,fz),(50,iq)]) [9,13] Tryz.f13 (.r' (.two (.r' (.two (.r' (.r' (.r' (.two (.r' (.two (.node [] (some ⟨[(29,(.one .bool))],[],upN 24 6,[]⟩) [] [] .leaf .leaf) .leaf)) .leaf)))) .leaf)) .leaf)) [1000000,3,4] kJ=(∀(o:LOp) r (E:Pd) rm (m:Mem),∀Q,(kJ.body o r E rm m Q)→xm o r E rm m Q):=by kernel_rfl
theorem xl:LV Un prog 13 kJ:=verify Tryz.func13 aa (tb:= [(17,ir),(14,aJ),(51,ic),(52,fz),(50,iq)]) ⟨nt,bO,qV,nk,rf,trivial⟩ (by kernel_rfl) (xn.mpr fun o r E rm m Q h=>by
 obtain⟨Jl,Jp,h⟩:=h
 exact fun f1 f2 gv=>allEq<| aB (fun c1=>af ‹_› fun s3 rN rM E1 Jy f4 m1 Jg f5=>au (h rN rM) rfl rfl (ab (rO1 (by grind)) (ab (rO0 (by grind)) rfl))) fun c1=>(by exfalso;exact c1 Jp))
def kI:Ctr Un:=⟨[.one (.obj 0 0),.enc 5],[],[.ob 1 [(1,1,0)],.ob 0 []],[],fun o r E rm m K=>E.n=m.S∧o.k=11∧∀(rN:Nat→Nat)(rM:Nat→Nat),K ⟨(.pointer (some (Addr.mk (rN 0) 0 none))),(some (.p (.obj 2 0 0))),[],[(.ob 1 rN E),(.ob 0 rM m)],[(.l 2 1,.p (.obj 3 0 0))]⟩⟩
def xj(o:LOp)(r:Nat→Nat)(E:Pd)(rm:Nat→Nat)(m:Mem)(Q:Ou Un→Prop):Prop:=
 Pd.Ok E→
 Mem.Wf m→
 ∀(gv:Nat),
 ∀x9:Bool,x9=((o.k:Int)==10)→
 split x9 (
  E.n=m.S∧
  ∀(rN:Nat→Nat)(rM:Nat→Nat),
  ∀(E1:Pd),E1=E→
  Pd.Ok E1→
  ∀(m1:Mem),m1=m→
  Mem.Wf m1→
  False) (
  ∀KJ:Bool,KJ=((o.k:Int)==11)→
  split KJ (
   ∀(rN:Nat→Nat),
   ∀(m1:Mem),m1=m→
   Mem.Wf m1→
   E.n=m.S∧
   ∀(A:Option Addr)(c:Nat),
   ∀(l:List U32),l=(E.on m).words.map U32.mk→
   l=(E.on m1).words.map U32.mk∧
   E.n=m1.S∧
   ∀(M1:Nat→Nat),
   ∀(E1:Pd),E1=E→
   Pd.Ok E1→
   ∃J:Bool→Prop,(
    J true)∧∀(Ka:Nat→Value)(L6:Bool),J L6→
   split L6 (
    Q ⟨(.pointer (some (Addr.mk (M1 0) 0 none))),(some (.p (.obj 2 0 0))),[],[(.ob 1 M1 E1),(.ob 0 rN m1)],[(.l 2 1,.p (.obj 3 0 0))]⟩) (
    Q ⟨(.pointer (some (Addr.mk (r 0) 0 none))),(some (.p (.obj 0 0 0))),[],[],[]⟩)) (
   Q ⟨(.pointer (some (Addr.mk (r 0) 0 none))),(some (.p (.obj 0 0 0))),[],[],[]⟩))
theorem xk:Vc2 Un prog (bc [(17,ir),(14,aJ),(51,ic),(52,fz),(50,iq)]) [9,13] Tryz.f13 (.r' (.two (.r' (.two (.r' (.r' (.r' (.two (.r' (.two (.node [] (some ⟨[(29,(.one .bool))],[],upN 24 6,[]⟩) [] [] .leaf .leaf) .leaf)) .leaf)))) .leaf)) .leaf)) [1000000,5,3] kI=(∀(o:LOp) r (E:Pd) rm (m:Mem),∀Q,(kI.body o r E rm m Q)→xj o r E rm m Q):=by kernel_rfl
theorem xi:LV Un prog 13 kI:=verify Tryz.func13 aa (tb:= [(17,ir),(14,aJ),(51,ic),(52,fz),(50,iq)]) ⟨nt,bO,qV,nk,rf,trivial⟩ (by kernel_rfl) (xk.mpr fun o r E rm m Q h=>by
 obtain⟨Jl,Jp,h⟩:=h
 exact fun f1 f2 gv=>allEq<| aB (fun c1=>(by exfalso;omega)) fun c1=>allEq<| aB (fun c2 rN m1 Jg f3=>af (by subst_vars;assumption) fun s4 A c l Lh=>af (by subst_vars;rfl) fun s5=>af (by subst_vars;assumption) fun s6 M1 E1 Jy f7=>gA true ((by grind))<| dL<| au (h M1 rN) rfl rfl (ab (rO1 (by subst_vars;rfl)) (ab (rO0 (by subst_vars;rfl)) rfl))) fun c2=>(by exfalso;exact c2 Jp))
def kH:Ctr Un:=⟨[.one (.obj 0 0),.enc 5],[],[.ob 1 [(1,1,0)],.ob 0 []],[],fun o r E rm m K=>E.n=m.S∧(¬o.k=10∧¬o.k=11)∧K ⟨(.pointer (some (Addr.mk (r 0) 0 none))),(some (.p (.obj 0 0 0))),[],[],[]⟩⟩
def xg(o:LOp)(r:Nat→Nat)(E:Pd)(rm:Nat→Nat)(m:Mem)(Q:Ou Un→Prop):Prop:=
 Pd.Ok E→
 Mem.Wf m→
 ∀(gv:Nat),
 ∀x9:Bool,x9=((o.k:Int)==10)→
 split x9 (
  E.n=m.S∧
  ∀(rN:Nat→Nat)(rM:Nat→Nat),
  ∀(E1:Pd),E1=E→
  Pd.Ok E1→
  ∀(m1:Mem),m1=m→
  Mem.Wf m1→
  Q ⟨(.pointer (some (Addr.mk (rN 0) 0 none))),none,[],[],[]⟩) (
  ∀KJ:Bool,KJ=((o.k:Int)==11)→
  split KJ (
   ∀(rN:Nat→Nat),
   ∀(m1:Mem),m1=m→
   Mem.Wf m1→
   E.n=m.S∧
   ∀(A:Option Addr)(c:Nat),
   ∀(l:List U32),l=(E.on m).words.map U32.mk→
   l=(E.on m1).words.map U32.mk∧
   E.n=m1.S∧
   ∀(M1:Nat→Nat),
   ∀(E1:Pd),E1=E→
   Pd.Ok E1→
   ∃J:Bool→Prop,(
    J true)∧∀(Ka:Nat→Value)(L6:Bool),J L6→
   split L6 (
    Q ⟨(.pointer (some (Addr.mk (M1 0) 0 none))),none,[],[],[]⟩) (
    Q ⟨(.pointer (some (Addr.mk (r 0) 0 none))),(some (.p (.obj 0 0 0))),[],[],[]⟩)) (
   Q ⟨(.pointer (some (Addr.mk (r 0) 0 none))),(some (.p (.obj 0 0 0))),[],[],[]⟩))
theorem xh:Vc2 Un prog (bc [(17,ir),(14,aJ),(51,ic),(52,fz),(50,iq)]) [9,13] Tryz.f13 (.r' (.two (.r' (.two (.r' (.r' (.r' (.two (.r' (.two (.node [] (some ⟨[(29,(.one .bool))],[],upN 24 6,[]⟩) [] [] .leaf .leaf) .leaf)) .leaf)))) .leaf)) .leaf)) [] kH=(∀(o:LOp) r (E:Pd) rm (m:Mem),∀Q,(kH.body o r E rm m Q)→xg o r E rm m Q):=by kernel_rfl
theorem xf:LV Un prog 13 kH:=verify Tryz.func13 aa (tb:= [(17,ir),(14,aJ),(51,ic),(52,fz),(50,iq)]) ⟨nt,bO,qV,nk,rf,trivial⟩ (by kernel_rfl) (xh.mpr fun o r E rm m Q h=>by
 obtain⟨Jl,Jp,h⟩:=h
 exact fun f1 f2 gv=>allEq<| aB (fun c1=>(by exfalso;exact Jp.1 c1)) fun c1=>allEq<| aB (fun c2=>(by exfalso;exact Jp.2 c2)) fun c2=>h)
def jS:Ctr Un:=⟨[.one (.any),.enc 5],[(0,9),(1,5)],[.ob 9 [],.ob 5 []],[0],fun pv o r s rk kk K=>Value.pointer (some (Addr.mk (Sv.pD s) 0 none))=pv∧LOp.Ok o∧K ⟨(.int .i64 (s.D.bh o)),none,[.ob 9 ({s with D:=DB.call kk s.D o})],[],[]⟩⟩
theorem uy:LV Un prog 9 jS:=by
 show ∀(pv:Value)(o:LOp)(r:Nat→Nat)(s:Sv)(rk:Nat→Nat)(kk:List Int),∀Q:Ou Un→Prop,(Value.pointer (some (Addr.mk (Sv.pD s) 0 none))=pv∧LOp.Ok o∧Q ⟨(.int .i64 (s.D.bh o)),none,[.ob 9 ({s with D:=DB.call kk s.D o})],[],[]⟩)→∀(X:Nat→Nat→Prop)(w:World),Sat (U:=Un) [(.ob 9 r s),(.ob 5 rk kk)] X w→av (U:=Un) [(.ob 9 r s),(.ob 5 rk kk)] fr0 []→Calls prog 9 #[pv,(.agg #[(.int .i64 o.k),(.int .u32 o.a),(.int .u32 o.b),(.int .u32 o.c),(.int .u32 o.d)])] w (aT (U:=Un) [(.ob 9 r s),(.ob 5 rk kk)] [0] X w Q)
 intro pv o r s rk kk Q hQ X w hs hl
 obtain⟨Po,ho,hQ⟩:=hQ
 subst Po
 refine svD (rest:= [.ob 5 rk kk]) (k1:=none) rfl (DB.call kk s.D o) [0,1] [.ob 1 (DB.call kk s.D o).pd,.ob 0 (DB.call kk s.D o).mem] (by simp) hs rfl (fun _ _=>rfl) (fun r1 rm X1 KH Lu e=>?_) hQ trivial
 rw [e.1];exact xv o r1 s.D.pd rm s.D.mem rk kk (fun o=>o=_) ⟨rfl,ho,rfl⟩ X1 w KH Lu
def jV:Ctr Un:=⟨[.one (.any),.enc 5],[(0,9)],[.ob 9 []],[0],fun pv o r s K=>Value.pointer (some (Addr.mk (Sv.pD s) 0 none))=pv∧LOp.Ok o∧K ⟨(.tuple #[]),(some (.t [])),[.ob 9 ({s with D:=s.D.beside o})],[],[]⟩⟩
theorem uF:LV Un prog 11 jV:=by
 show ∀(pv:Value)(o:LOp)(r:Nat→Nat)(s:Sv),∀Q:Ou Un→Prop,(Value.pointer (some (Addr.mk (Sv.pD s) 0 none))=pv∧LOp.Ok o∧Q ⟨(.tuple #[]),(some (.t [])),[.ob 9 ({s with D:=s.D.beside o})],[],[]⟩)→∀(X:Nat→Nat→Prop)(w:World),Sat (U:=Un) [(.ob 9 r s)] X w→av (U:=Un) [(.ob 9 r s)] fr0 []→Calls prog 11 #[pv,(.agg #[(.int .i64 o.k),(.int .u32 o.a),(.int .u32 o.b),(.int .u32 o.c),(.int .u32 o.d)])] w (aT (U:=Un) [(.ob 9 r s)] [0] X w Q)
 intro pv o r s Q hQ X w hs hl
 obtain⟨Po,ho,hQ⟩:=hQ
 subst Po
 refine svD (rest:= []) (k1:=some (.t [])) rfl (s.D.beside o) [0,1] [.ob 1 (s.D.beside o).pd,.ob 0 (s.D.beside o).mem] (by simp) hs rfl (fun _ _=>rfl) (fun r1 rm X1 KH Lu e=>?_) hQ (KnO.tup _ (by simp))
 rw [e.1];exact xz o r1 s.D.pd rm s.D.mem (fun o=>o=_) ⟨rfl,ho,rfl⟩ X1 w KH Lu
def kG:Ctr Un:=⟨[.one (.any),.enc 5],[(0,9)],[.ob 9 []],[0],fun pv o r s K=>Value.pointer (some (Addr.mk (Sv.pD s) 0 none))=pv∧∀(s1:Sv),s1.D=s.D→K ⟨(.pointer (some (Addr.mk (Sv.pD s1) 0 none))),none,[.ob 9 s1],[],[]⟩⟩
theorem xe:LV Un prog 13 kG:=by
 show ∀(pv:Value)(o:LOp)(r:Nat→Nat)(s:Sv),∀Q:Ou Un→Prop,(Value.pointer (some (Addr.mk (Sv.pD s) 0 none))=pv∧∀(s1:Sv),s1.D=s.D→Q ⟨(.pointer (some (Addr.mk (Sv.pD s1) 0 none))),none,[.ob 9 s1],[],[]⟩)→∀(X:Nat→Nat→Prop)(w:World),Sat (U:=Un) [(.ob 9 r s)] X w→av (U:=Un) [(.ob 9 r s)] fr0 []→Calls prog 13 #[pv,(.agg #[(.int .i64 o.k),(.int .u32 o.a),(.int .u32 o.b),(.int .u32 o.c),(.int .u32 o.d)])] w (aT (U:=Un) [(.ob 9 r s)] [0] X w Q)
 intro pv o r s Q hQ X w hs hl
 obtain⟨Po,hQ⟩:=hQ
 subst Po
 by_cases h10:o.k=10
 ·obtain⟨r1,rm,X1,KH,Lu,e,_,_⟩:=kX hs
  rw [e.1]
  have hk:=h10
  refine(xl o r1 s.D.pd rm s.D.mem (fun out=>∃(rN rM:Nat→Nat),out=⟨(.pointer (some (Addr.mk (rN 0) 0 none))),(some (.p (.obj 2 0 0))),[],[(.ob 1 rN s.D.pd),(.ob 0 rM s.D.mem)],[(.l 2 1,.p (.obj 3 0 0))]⟩) ⟨rfl,hk,fun rN rM=>⟨rN,rM,rfl⟩⟩ X1 w KH Lu).mono ?_
  rintro e w' ⟨out,rs',X',he,⟨rN,rM,rfl⟩,JS,hp⟩
  obtain rfl:svO r1 rm s.D.pd s.D.mem []=rs':=Option.some.inj JS
  have NV:rN 1=rM 0:=by
   obtain⟨t,r,s',h1,h2⟩:=hp.kc (.l 2 1) (.p (.obj 3 0 0)) (by simp) (by simp)
   have h1:some (Res.ob (U:=Un) 1 rN s.D.pd)=some (.ob t r s'):=h1
   cases h1
   have h2:some (Value.pointer (some ⟨rM 0,0,none⟩))=some (.pointer (some ⟨rN 1,0,none⟩)):=h2
   simpa using h2.symm
  exact svN (k1:=some (.p (.obj 2 0 0))) rfl hs rfl hp NV he (hQ ⟨s.D,rN 0,rM 0⟩ rfl) trivial
 by_cases h11:o.k=11
 ·obtain⟨r1,rm,X1,KH,Lu,e,_,_⟩:=kX hs
  rw [e.1]
  have hk:=h11
  refine(xi o r1 s.D.pd rm s.D.mem (fun out=>∃(rN rM:Nat→Nat),out=⟨(.pointer (some (Addr.mk (rN 0) 0 none))),(some (.p (.obj 2 0 0))),[],[(.ob 1 rN s.D.pd),(.ob 0 rM s.D.mem)],[(.l 2 1,.p (.obj 3 0 0))]⟩) ⟨rfl,hk,fun rN rM=>⟨rN,rM,rfl⟩⟩ X1 w KH Lu).mono ?_
  rintro e w' ⟨out,rs',X',he,⟨rN,rM,rfl⟩,JS,hp⟩
  obtain rfl:svO r1 rm s.D.pd s.D.mem []=rs':=Option.some.inj JS
  have NV:rN 1=rM 0:=by
   obtain⟨t,r,s',h1,h2⟩:=hp.kc (.l 2 1) (.p (.obj 3 0 0)) (by simp) (by simp)
   have h1:some (Res.ob (U:=Un) 1 rN s.D.pd)=some (.ob t r s'):=h1
   cases h1
   have h2:some (Value.pointer (some ⟨rM 0,0,none⟩))=some (.pointer (some ⟨rN 1,0,none⟩)):=h2
   simpa using h2.symm
  exact svN (k1:=some (.p (.obj 2 0 0))) rfl hs rfl hp NV he (hQ ⟨s.D,rN 0,rM 0⟩ rfl) trivial
 refine svD (rest:= []) (k1:=some (.p (.obj 0 0 0))) rfl s.D [] [] (by simp) hs rfl (fun _ _=>rfl) (fun r1 rm X1 KH Lu e=>?_) (hQ s rfl) trivial
 rw [e.1];exact xf o r1 s.D.pd rm s.D.mem (fun o=>o=_) ⟨rfl,⟨h10,h11⟩,rfl⟩ X1 w KH Lu
end
end Go.Proofs.YtinhphjfnedhgaaGreatDoor
namespace Go.Proofs.YtinhphjfnedhgaaGreatDoor
open Go.Proofs.Tryz (prog)
open Go Go.RowKit V
open Go.IntKind (i64 u32 u64)
section
namespace Mem
theorem mA {m m':Mem} {s:Bool} {p:Int}(hh:m'.has s p=m.has s p)(h:m.has s p=true→m'.pg s p.toNat=m.pg s p.toNat)(o:Int):m'.bw s p o=m.bw s p o:=by
 unfold bw
 rw [hh]
 cases hs:m.has s p
 ·rfl
 ·rw [h hs]
theorem jA {m:Mem} {p o v x:Int}(hp:m.has true p=true)(ho:dM o=true):(m.write true p o v).bw true p x=if x=o then v else m.bw true p x:=by
 have hh:(m.write true p o v).has true p=true:=by rw [DB.cI];exact hp
 have hw:m.write true p o v=(m.put true p.toNat o.toNat v).tick 1:=by
  unfold write
  exact if_pos (show(m.has true p && dM o)=true by rw [hp,ho];rfl)
 unfold bw
 rw [hh,hp]
 simp only [Bool.true_and]
 by_cases hx:dM x=true
 ·have h1:=gQ hx
  have h2:=gQ ho
  rw [if_pos hx,if_pos hx,hw]
  show(if true=true∧p.toNat=p.toNat then(if x.toNat=o.toNat then v else m.pg true p.toNat x.toNat)else _)=_
  rw [if_pos ⟨rfl,rfl⟩]
  by_cases e:x=o
  ·subst e
   rw [if_pos rfl,if_pos rfl]
  ·rw [if_neg (by omega),if_neg e]
 ·rw [if_neg hx,if_neg hx,if_neg (by rintro rfl;exact hx ho)]
theorem oS(p:Int)(b:Bool)(q:Int):∀(l:List Int)(m:Mem)(o:Int),(m.wrs p o l).has b q=m.has b q
 | [],_,_=>rfl
 | x::l,m,o=>by rw [wrs,oS p b q l,DB.cI]
theorem vi {p:Int}:∀(l:List Int)(m:Mem)(o:Int),m.has true p=true→0≤o→o+l.length≤1024→∀x,(m.wrs p o l).bw true p x=if o≤x∧x<o+l.length then l.getD (x - o).toNat 0 else m.bw true p x
 | [],m,o,_,_,_,x=>by
  rw [if_neg (by simp only [List.length_nil];omega)];rfl
 | y::l,m,o,hp,h0,hl,x=>by
  simp only [List.length_cons]at hl ⊢
  rw [wrs,vi l (m.write true p o y) (o+1) (by rw [DB.cI];exact hp) (by omega) (by omega),jA hp (by simp [dM];omega)]
  by_cases e:x=o
  ·subst e
   rw [if_neg (by omega),if_pos rfl,if_pos (by omega),show(x - x).toNat=0 by omega];rfl
  ·by_cases h1:o+1≤x∧x<o+1+l.length
   ·rw [if_pos h1,if_pos (by omega),show(x - o).toNat=(x - (o+1)).toNat+1 by omega];rfl
   ·rw [if_neg h1,if_neg e,if_neg (by omega)]
theorem vM {m:Mem} {p:Int} {l:List Int}(hp:m.has true p=true)(hl:l.length=26):(m.wrs p 11 l).dgW p=l.map U32.mk:=by
 apply List.ext_getElem?
 intro i
 by_cases hi:i<26
 ·rw [z8 hi,vi l m 11 hp (by omega) (by omega),if_pos (by omega),List.getElem?_map,show(11+(i:Int) - 11).toNat=i by omega,List.getD_eq_getElem?_getD,List.getElem?_eq_getElem (by omega)];rfl
 ·rw [List.getElem?_eq_none (by rw [cq];omega),List.getElem?_eq_none (by rw [List.length_map];omega)]
theorem oW {p x:Int}(h:p≠x):∀(l:List Int)(m:Mem)(o:Int),(m.wrs p o l).dgW x=m.dgW x
 | [],_,_=>rfl
 | y::l,m,o=>by rw [wrs,oW h l,eY h]
theorem Fz {m:Mem} {p o v x:Int}:(m.write false p o v).dgW x=m.dgW x:=
 tN (bB ..) fun _=>iZ (by rintro⟨h,_⟩;cases h)
theorem Fy {kk:List Int} {m:Mem} {p x k a:Int} {l:List U32}(h:p≠x):(m.msd kk p k a l).dgW x=m.dgW x:=by
 unfold msd
 split
 ·exact oW h _ _ _
 ·rfl
theorem DE {m:Mem} {p x:Int}(h:p≠x):(m.zero true p).dgW x=m.dgW x:=by
 refine tN (qJ ..) fun hs=>?_
 unfold zero
 split
 ·rename_i hp
  have h1:=ay hs
  have h2:=ay hp
  funext o
  show(if true=true∧x.toNat=p.toNat then _ else _)=_
  rw [if_neg (by omega)]
 ·rfl
theorem C8 {kk:List Int} {m:Mem} {p k a:Int} {l:List U32}(hw:m.Wf)(hp:m.has true p=true)(h:Dg.ao (m.dgW p)=0)(ha:0≤a∧a<4294967296)(hk:k=1∨k=2∨k=3∨k=4)(hl:dm l):Dg.ao ((m.msd kk p k a l).dgW p)=0∧(m.msd kk p k a l).dgW p=((Dg.load (m.dgW p)).add kk (opW k a l)).save.map U32.mk:=by
 have F:=Dg.mX (K:=kk) (l:=opW k a l) (Dg.eV (dO hw p) h) (tv ha hk hl)
 have e:(m.msd kk p k a l).dgW p=((Dg.load (m.dgW p)).add kk (opW k a l)).save.map U32.mk:=by
  unfold msd
  rw [if_pos h,vM hp (Dg.j7 F.1)]
 exact⟨by rw [e];exact(Dg.rY F).1,e⟩
end Mem
theorem jG {α:Type} {l:List α} {i:Nat} {d:α}(h:i<l.length):l.getD i d∈l:=by
 rw [List.getD_eq_getElem?_getD,List.getElem?_eq_getElem h]
 exact List.getElem_mem ..
namespace DB
def Inv(d:DB):Prop:=∀x,d.aR x=0→Dg.ao (d.mem.dgW x)=0
theorem cA {d:DB} {x:Int}:d.aR x=0↔d.has x=true∧(d.at_ x).typ=1∧(d.at_ x).state=1:=by
 constructor
 ·intro h;exact fu (by omega)
 ·rintro⟨h1,h2,h3⟩
  unfold aR
  simp [h1,h2,h3]
theorem Inv.mono {d d':DB}(h:d.Inv)(hb:∀x,d'.aR x=0→(d.aR x=0∧d'.mem.dgW x=d.mem.dgW x)∨Dg.ao (d'.mem.dgW x)=0):d'.Inv:=fun x hx=>by
 rcases hb x hx with⟨h1,h2⟩ | h1
 ·rw [h2];exact h x h1
 ·exact h1
theorem Fh(m:Mem):(DB.new m).Inv:=fun x hx=>by
 have:=(cA.1 hx).2.1
 cases this
theorem E0 {d:DB} {p t s q:Int}(ht:t≠1)(hq:0≤q)(hs:d.has s=true)(h:((d.take p t s).at_ q).typ=1):(d.take p t s).has q=d.has q∧(d.at_ q).typ=1∧((d.take p t s).at_ q).state=(d.at_ q).state:=by
 unfold take at h ⊢
 split
 ·rename_i he
  rw [if_pos he]at h
  have hp:d.has p=true:=by
   cases hp:d.has p
   ·unfold aZ at he;simp [hp]at he
   ·rfl
  have h1:=ay hp
  have h2:=ay hs
  unfold bT more at h ⊢
  rw [bR h2.1 hq,bR h1.1 h2.1,bR h1.1 hq]at h
  rw [bR h2.1 hq,bR h1.1 h2.1,bR h1.1 hq]
  by_cases e1:q=s
  ·subst e1
   rw [if_pos rfl]at h ⊢
   by_cases e2:q=p
   ·rw [if_pos e2]at h;exact absurd h ht
   ·rw [if_neg e2]at h ⊢;exact⟨rfl,h,rfl⟩
  ·rw [if_neg e1]at h ⊢
   by_cases e2:q=p
   ·rw [if_pos e2]at h;exact absurd h ht
   ·rw [if_neg e2]at h ⊢;exact⟨rfl,h,rfl⟩
 ·rename_i he
  rw [if_neg he]at h
  exact⟨rfl,h,rfl⟩
theorem jv {d:DB} {p t s q:Int}(ht:t≠1)(hs:d.has s=true)(h:(d.take p t s).aR q=0):d.aR q=0:=by
 obtain⟨h1,h2,h3⟩:=cA.1 h
 obtain⟨a,b,c⟩:=E0 ht (ay h1).1 hs h2
 exact cA.2 ⟨a▸h1,b,c▸h3⟩
theorem tU {d:DB} {m:Mem}(hm:m.S=d.mem.S)(x:Int):(d.aL m).aR x=d.aR x:=by
 unfold aR has
 rw [show(d.aL m).S=d.S from hm];rfl
theorem Ht(d:DB)(s i q:Int):∃m,d.add s i q=d.aL m∧m.S=d.mem.S:=by
 unfold add
 split
 ·exact⟨_,rfl,Mem.bB ..⟩
 ·exact⟨d.mem,rfl,rfl⟩
theorem GY(d:DB)(s va:Int)(M:Mp):∃m,d.put s va M=d.aL m∧m.S=d.mem.S:=by
 unfold put
 split
 ·exact⟨_,rfl,Mem.bB ..⟩
 ·exact⟨d.mem,rfl,rfl⟩
theorem fY {d:DB} {f:Mem→Mem}(h:(f d.mem).S=d.mem.S)(x:Int):(d.aQ f).aR x=d.aR x:=tU h x
theorem Hu(d:DB)(s i q x:Int):(d.add s i q).aR x=d.aR x:=by
 obtain⟨m,h1,h2⟩:=Ht d s i q
 rw [h1];exact tU h2 x
theorem CM(d:DB)(s va:Int)(M:Mp)(x:Int):(d.put s va M).aR x=d.aR x:=by
 obtain⟨m,h1,h2⟩:=GY d s va M
 rw [h1];exact tU h2 x
theorem j5:dm []:=fun x hx=>by cases hx
theorem pr {m:Mem} {s:Bool} {p o v:Int}(h:m.Wf)(hv:0≤v∧v<4294967296):(m.write s p o v).Wf:=by
 unfold Mem.write
 split
 ·refine⟨fun s' i o'=>?_,h.2⟩
  show 0≤(if s'=s∧i=p.toNat then(if o'=o.toNat then v else m.pg s p.toNat o')else m.pg s' i o')∧(if s'=s∧i=p.toNat then(if o'=o.toNat then v else m.pg s p.toNat o')else m.pg s' i o')<4294967296
  split
  ·split
   ·exact hv
   ·exact h.1 _ _ _
  ·exact h.1 _ _ _
 ·exact h
theorem EW {m:Mem} {s s':Bool} {p p':Int}(h:m.Wf):(m.copy s p s' p').Wf:=by
 unfold Mem.copy
 split
 ·refine⟨fun b i o'=>?_,h.2⟩
  show 0≤(if b=s∧i=p.toNat then m.pg s' p'.toNat o' else m.pg b i o')∧(if b=s∧i=p.toNat then m.pg s' p'.toNat o' else m.pg b i o')<4294967296
  split<;>exact h.1 _ _ _
 ·exact h
theorem Cn {d:DB} {s va:Int} {M:Mp}(h:d.mem.Wf):(d.put s va M).mem.Wf:=by
 unfold put
 split
 ·exact pr h (zW _)
 ·exact h
theorem GJ {d:DB} {s i q:Int}(h:d.mem.Wf):(d.add s i q).mem.Wf:=by
 unfold add
 split
 ·exact pr h (qq _)
 ·exact h
structure Kept(d D:DB)(s:Int):Prop where
 wf:D.mem.Wf
 bd:∀x,D.aR x=0→d.aR x=0∧D.mem.dgW x=d.mem.dgW x
theorem Kept.inv {kk:List Int} {d D:DB} {s k a:Int} {l:List U32}(h:Kept d D s)(hI:d.Inv)(ha:0≤a∧a<4294967296)(hk:k=1∨k=2∨k=3∨k=4)(hl:dm l):(D.aQ (fun m=>m.msd kk s k a l)).Inv:=by
 intro x hx
 rw [fY (f:=fun m=>Mem.msd kk m s k a l) (Mem.fB ..) x]at hx
 obtain⟨h1,h2⟩:=h.bd x hx
 show Dg.ao ((D.mem.msd kk s k a l).dgW x)=0
 by_cases e:s=x
 ·subst e
  exact(Mem.C8 h.wf (cA.1 hx).1 (by rw [h2];exact hI s h1) ha hk hl).1
 ·rw [Mem.Fy e,h2];exact hI x h1
theorem vy {d:DB} {s p b:Int}(hw:d.mem.Wf)(hb:0≤b∧b<4294967296)(h1:¬d.aR s≠0)(h2:¬d.aX p≠0)(h3:¬d.bj p≠0):Kept d ((d.take p 2 s).aQ (·.write true p 0 b)) s:=by
 have b1:=fu h1
 have f1:=dK (dH h2) h3
 refine⟨pr (by rw [bH];exact hw) hb,fun x hx=>?_⟩
 rw [fY (f:=fun m=>m.write true p 0 b) (Mem.bB ..)]at hx
 have hx:=jv (by omega) b1.1 hx
 have b2:=cA.1 hx
 refine⟨hx,?_⟩
 show((d.take p 2 s).mem.write true p 0 b).dgW x=_
 rw [Mem.eY (by rintro rfl;omega),bH]
theorem yv {d:DB} {s p i:Int}(hw:d.mem.Wf)(h1:¬d.aR s≠0)(h2:¬d.aX p≠0)(h3:¬d.bj p≠0):Kept d ((d.take p 4 s).add s i p) s:=by
 have b1:=fu h1
 have f1:=dK (dH h2) h3
 refine⟨GJ (by rw [bH];exact hw),fun x hx=>?_⟩
 rw [Hu]at hx
 have hx:=jv (by omega) b1.1 hx
 have b2:=cA.1 hx
 refine⟨hx,?_⟩
 rw [z9,bH]
 rw [mh (ay b2.1).1 b1.1 (by rintro rfl;omega)];omega
theorem A8 {d:DB} {s p w n:Int}(hw:d.mem.Wf)(h1:¬d.aR s≠0)(h2:¬d.aX p≠0)(h3:¬d.bj p≠0):Kept d (d.cj s p w n) s:=by
 have b1:=fu h1
 have f1:=dK (dH h2) h3
 refine⟨Cn (EW (by rw [bH];exact hw)),fun x hx=>?_⟩
 rw [cj,CM,fY (f:=fun m=>m.copy true p false n) (Mem.lX ..)]at hx
 have hx:=jv (by omega) b1.1 hx
 have b2:=cA.1 hx
 have e:x≠p:=by rintro rfl;omega
 refine⟨hx,?_⟩
 rw [cj,oX]
 ·show((d.take p 5 s).mem.copy true p false n).dgW x=_
  rw [Mem.vN e.symm,bH]
 ·show((d.take p 5 s).at_ x).typ≠4
  rw [mh (ay b2.1).1 b1.1 e];omega
theorem yw {d:DB} {s va:Int} {M:Mp}(hw:d.mem.Wf):Kept d (d.put s va M) s:=by
 refine⟨Cn hw,fun x hx=>?_⟩
 rw [CM]at hx
 have b2:=cA.1 hx
 exact⟨hx,by rw [oX];omega⟩
theorem rW {d:DB} {s f:Int}(hI:d.Inv):(d.bx s f).Inv:=by
 unfold bx
 split
 ·rename_i he
  unfold bW at he
  have h1:¬d.aX s≠0:=by grind
  have h2:¬d.aX f≠0:=by grind
  have h3:¬s=f:=by grind
  have h4:¬d.bj s≠0:=by grind
  have h5:¬d.bj f≠0:=by grind
  have h6:¬d.aE≥64:=by grind
  have hs:=dH h1
  have hf:=dH h2
  have r1:=ay hs
  have r2:=ay hf
  have ht:d.aO s f=0:=by rw [eJ h1 h2 h3 h4 h5,if_neg h6]
  intro x hx
  rw [fY (f:=fun m=>m.wrs s 11 Dg.new.save) (Mem.hY ..)]at hx
  unfold aM at hx ⊢
  rw [if_pos ht]at hx ⊢
  obtain⟨x1,x2,x3⟩:=cA.1 hx
  show Dg.ao (((((d.mem.write true s 0 f).write true s 1 d.aE).write true s 2 0).wrs s 11 Dg.new.save).dgW x)=0
  by_cases e:x=s
  ·subst e
   rw [Mem.vM (by rw [DB.cI,DB.cI,DB.cI];exact hs) (Dg.j7 Dg.km)]
   exact(Dg.rY Dg.C7).1
  ·have x1:d.has x=true:=by
    have:(((d.mem.write true s 0 f).write true s 1 d.aE).write true s 2 0).has true x=true:=x1
    rw [DB.cI,DB.cI,DB.cI]at this;exact this
   have x0:=ay x1
   have ea:(d.bn s f).at_ x=((d.set s ⟨1,s,1,1,false⟩).set f ⟨3,s,0,0,false⟩).at_ x:=rfl
   rw [ea,bR r2.1 x0.1,bR r1.1 x0.1,if_neg e]at x2 x3
   by_cases ef:x=f
   ·rw [if_pos ef]at x2;cases x2
   ·rw [if_neg ef]at x2 x3
    rw [Mem.oW (Ne.symm e),Mem.eY (Ne.symm e),Mem.eY (Ne.symm e),Mem.eY (Ne.symm e)]
    exact hI x (cA.2 ⟨x1,x2,x3⟩)
 ·exact hI
theorem DM {kk:List Int} {d:DB} {o:LOp}(ho:o.Ok)(hI:d.Inv)(hw:d.mem.Wf):(d.call kk o).Inv:=by
 obtain⟨ha,hb,hc,hd⟩:=ho
 unfold call
 split
 ·exact rW hI
 split
 ·unfold bp
  split
  ·rename_i he
   unfold bE at he
   exact(vy hw hc (by grind) (by grind) (by grind)).inv hI hc (by omega) j5
  ·exact hI
 split
 ·unfold cX
  split
  ·rename_i he
   unfold cR at he
   exact(yv hw (by grind) (by grind) (by grind)).inv hI hc (by omega) j5
  ·exact hI
 split
 ·unfold eo
  split
  ·rename_i he
   unfold cT at he
   have K:Kept d (d.cj o.a o.b o.c o.d) o.a:=A8 hw (by grind) (by grind) (by grind)
   have e:(d.cj o.a o.b o.c o.d).aQ (fun m=>m.msd kk o.a 3 o.c (m.words true o.b.toNat))=(d.cj o.a o.b o.c o.d).aQ (fun m=>m.msd kk o.a 3 o.c ((d.cj o.a o.b o.c o.d).mem.words true o.b.toNat)):=by
    unfold aQ;rfl
   rw [e]
   exact K.inv hI hc (by omega) (Mem.fT K.wf true o.b.toNat)
  ·exact hI
 ·unfold cY
  split
  ·exact(yw hw).inv hI hb (by omega) j5
  ·exact hI
theorem iC {d:DB} {p s q:Int}(hs:s≠1)(h:(d.setState p s).aR q=0):d.aR q=0:=by
 obtain⟨h1,h2,h3⟩:=cA.1 h
 unfold setState at h1 h2 h3
 split at h1
 ·rename_i he
  have hp:d.has p=true:=by
   cases hp:d.has p
   ·unfold aV at he;simp [hp]at he
   ·rfl
  have q0:=ay h1
  rw [if_pos he,bR (ay hp).1 q0.1]at h2 h3
  by_cases e:q=p
  ·rw [if_pos e]at h3;exact absurd h3 hs
  ·rw [if_neg e]at h2 h3;exact cA.2 ⟨h1,h2,h3⟩
 ·rename_i he
  rw [if_neg he]at h2 h3
  exact cA.2 ⟨h1,h2,h3⟩
theorem fh(d:DB)(p s:Int):(d.setState p s).mem=d.mem:=by unfold setState;split<;>rfl
theorem rp {d:DB} {p:Int}(hp:d.mJ p=true):¬(d.setState p 2).aR p=0:=by
 intro h
 unfold mJ at hp
 simp only [Bool.and_eq_true,beq_iff_eq]at hp
 obtain⟨h1,h2,h3⟩:=cA.1 h
 unfold setState at h3
 rw [if_pos (by unfold aV;simp [hp.1,hp.2.1,hp.2.2]),bR (ay hp.1).1 (ay hp.1).1,if_pos rfl]at h3
 cases h3
theorem vA {d:DB} {p:Int}(hI:d.Inv):(d.eC p).Inv:=by
 unfold eC
 split
 ·rename_i he
  have hp:d.has p=true:=by
   cases hp:d.has p
   ·unfold cO at he;simp [hp]at he
   ·rfl
  have p0:=ay hp
  intro x hx
  unfold bZ at hx ⊢
  rw [fY (f:=fun m=>m.zero true p) (Mem.qJ ..)]at hx
  obtain⟨h1,h2,h3⟩:=cA.1 hx
  have hx1:d.has x=true:=by revert h1;split<;>exact id
  have x0:=ay hx1
  have key:x≠p∧(d.at_ x).typ=1∧(d.at_ x).state=1:=by
   split at h2
   ·rename_i hc
    rw [if_pos hc]at h3
    simp only [Bool.and_eq_true,cD,dN]at hc
    have o0:=ay hc.2.1.1
    unfold more at h2 h3
    rw [bR o0.1 x0.1]at h2 h3
    by_cases e:x=(d.at_ p).owner
    ·rw [if_pos e]at h2 h3
     have h2:((d.set p .free).at_ (d.at_ p).owner).typ=1:=h2
     have h3:((d.set p .free).at_ (d.at_ p).owner).state=1:=h3
     rw [bR p0.1 o0.1]at h2 h3
     rw [← e]at h2 h3
     by_cases e2:x=p
     ·rw [if_pos e2]at h2;cases h2
     ·rw [if_neg e2]at h2 h3;exact⟨e2,h2,h3⟩
    ·rw [if_neg e,bR p0.1 x0.1]at h2 h3
     by_cases e2:x=p
     ·rw [if_pos e2]at h2;cases h2
     ·rw [if_neg e2]at h2 h3;exact⟨e2,h2,h3⟩
   ·rename_i hc
    rw [if_neg hc]at h3
    rw [bR p0.1 x0.1]at h2 h3
    by_cases e2:x=p
    ·rw [if_pos e2]at h2;cases h2
    ·rw [if_neg e2]at h2 h3;exact⟨e2,h2,h3⟩
  have hm:∀c:Bool,(aQ (if c then(d.set p .free).more (d.at_ p).owner (-1)else d.set p .free) (·.zero true p)).mem=d.mem.zero true p:=by intro c;cases c<;>rfl
  rw [hm,Mem.DE (Ne.symm key.1)]
  exact hI x (cA.2 ⟨hx1,key.2.1,key.2.2⟩)
 ·exact hI
theorem yK {d:DB} {o:LOp}(hI:d.Inv):(d.beside o).Inv:=by
 unfold beside
 split
 ·intro x hx
  rw [fY (f:=fun m=>m.write false o.a (o.b % 1024) o.c) (Mem.bB ..)]at hx
  show Dg.ao ((d.mem.write false o.a (o.b % 1024) o.c).dgW x)=0
  rw [Mem.Fz];exact hI x hx
 split
 ·split
  ·rename_i hb
   intro x hx
   have PY:=iC (by omega) hx
   rw [fY (f:=fun m=>m.wrs o.a 11 (List.replicate 26 0)) (Mem.hY ..)]at PY
   by_cases e:x=o.a
   ·refine absurd (e▸hx) (rp ?_)
    unfold mJ at hb ⊢
    have:(d.aQ fun m=>m.wrs o.a 11 (List.replicate 26 0)).has o.a=d.has o.a:=Mem.oS o.a true o.a (List.replicate 26 0) d.mem 11
    rw [this];exact hb
   ·rw [fh]
    show Dg.ao ((d.mem.wrs o.a 11 (List.replicate 26 0)).dgW x)=0
    rw [Mem.oW (Ne.symm e)];exact hI x PY
  ·exact hI
 split
 ·intro x hx
  rw [fh]
  exact hI x (iC (by omega) hx)
 split
 ·split
  ·exact vA hI
  ·exact hI
 ·exact hI
theorem pdS(d:DB):d.pd.n=d.mem.S:=rfl
set_option maxRecDepth 100000
def hd0:DB:=(DB.new (Mem.fresh 3 1)).pd.on ((Mem.fresh 3 1).dD 3)
def hd1:DB:=hd0.bx 0 1
theorem Ha:hd0.bW 0 3=1:=by decide
theorem I2:hd0.bW 0 1=0:=by decide
theorem Ii:hd1.bE 0 2=0:=by decide
theorem Ih(kk:List Int):DB.bp kk hd1 0 2 7=(hd1.take 2 2 0).aQ (fun m=>(m.write true 2 0 7).msd kk 0 1 7 []):=by
 unfold bp;rw [if_pos Ii]
theorem Ig(kk:List Int):(DB.bp kk hd1 0 2 7).bE 1 2=3:=by
 have h:(DB.bp kk hd1 0 2 7).aR 1=3:=by
  rw [Ih,fY (f:=fun m=>(m.write true 2 0 7).msd kk 0 1 7 []) (by rw [Mem.fB,Mem.bB])]
  decide
 unfold bE
 rw [if_pos (by rw [h];decide),h]
theorem yI {kk:List Int} {d:DB} {s p b:Int}(h:d.bE s p≠0):DB.bp kk d s p b=d:=if_neg h
theorem IZ(kk:List Int):DB.bp kk (DB.bp kk hd1 0 2 7) 1 2 7=DB.bp kk hd1 0 2 7:=yI (by rw [Ig];decide)
theorem Ie {d:DB} {kk:List Int}(h2:d.mem.has true 2=true):(d.aQ (fun m=>(m.write true 2 0 7).msd kk 0 1 7 [])).mem.bw true 2 0=7:=by
 have hp:∀(l:List Int)(m:Mem)(o:Int),(m.wrs 0 o l).pg true 2=m.pg true 2:=by
  intro l
  induction l with
  | nil=>intro m o;rfl
  | cons x l ih=>intro m o;rw [Mem.wrs,ih,Mem.iZ (by decide)]
 show((d.mem.write true 2 0 7).msd kk 0 1 7 []).bw true 2 0=7
 have e:((d.mem.write true 2 0 7).msd kk 0 1 7 []).bw true 2 0=(d.mem.write true 2 0 7).bw true 2 0:=by
  unfold Mem.msd
  split
  ·exact Mem.mA (Mem.oS ..) (fun _=>hp _ _ _) 0
  ·rfl
 rw [e,Mem.jA h2 (by decide),if_pos rfl]
theorem I0(kk:List Int):(DB.bp kk hd1 0 2 7).mem.bw true 2 0=7:=by
 rw [Ih]
 exact Ie (by rw [bH];decide)
end DB
end
end Go.Proofs.YtinhphjfnedhgaaGreatDoor
namespace Go.Proofs.YtinhphjfnedhgaaGreatDoor
open Go.Proofs.Tryz (prog)
open Go Go.RowKit V
open Go.IntKind (i64 u32 u64)
section
set_option maxRecDepth 100000
set_option maxHeartbeats 1000000
attribute [local irreducible] Vc2 VcD
def uq:Ctr Un:=⟨[.one (.int .i64),.one (.int .i64)],[],[],[],fun s i K=>((1≤(s:Int)∧(s:Int)≤64)∧(1≤(i:Int)∧(i:Int)≤64))∧∀(rN:Nat→Nat),K ⟨(.tuple #[(.pointer (some (Addr.mk (rN 0) 0 none))),(.int .i64 0)]),(some (.t [(some (.obj 0 0 0)),none])),[],[(.ob 0 rN (Mem.fresh s.toNat i.toNat))],[]⟩⟩
theorem Gc:LV Un prog 27 uq:=by
 show ∀(s:Int)(i:Int),∀Q:Ou Un→Prop,(((1≤(s:Int)∧(s:Int)≤64)∧(1≤(i:Int)∧(i:Int)≤64))∧∀(rN:Nat→Nat),Q ⟨(.tuple #[(.pointer (some (Addr.mk (rN 0) 0 none))),(.int .i64 0)]),(some (.t [(some (.obj 0 0 0)),none])),[],[(.ob 0 rN (Mem.fresh s.toNat i.toNat))],[]⟩)→∀(X:Nat→Nat→Prop)(w:World),Sat (U:=Un) [] X w→av (U:=Un) [] fr0 []→Calls prog 27 #[(.int .i64 s),(.int .i64 i)] w (aT (U:=Un) [] [] X w Q)
 intro s i Q hQ X w hs hl
 exact Ev s i Q hQ X w hs hl
def jo:Ctr Un:=⟨[],[(0,5)],[.ob 5 []],[],fun rk kk K=>K ⟨(.bool true),none,[],[],[]⟩⟩
def BR(rk:Nat→Nat)(kk:List Int)(Q:Ou Un→Prop):Prop:=
 ((1≤(3:Int)∧(3:Int)≤64)∧(1≤(1:Int)∧(1:Int)≤64))∧
 ∀(rN:Nat→Nat),
 ∀(m:Mem),m=(Mem.fresh (Int.toNat 3) (Int.toNat 1))→
 Mem.Wf m→
 ∃J:Bool→Prop,(
  J false)∧∀(L5:Nat→Value)(KJ:Bool),J KJ→
 split KJ (
  Q ⟨(.bool false),none,[],[],[]⟩) (
  1≤m.S∧
  ∀(M1:Nat→Nat),
  ∀(m1:Mem),m1=(m.dD m.S)→
  Mem.Wf m1→
  ∀(E:Pd),E=(DB.new m).pd→
  Pd.Ok E→
  ∃J1:Bool→Mem→Pd→Prop,(
   E.n=m1.S∧
   (0≤(0:Int)∧(0:Int)<4294967296)∧
   (0≤(3:Int)∧(3:Int)<4294967296)∧
   ∀(E1:Pd),E1=((E.on m1).bx 0 3).pd→
   Pd.Ok E1→
   ∀(m2:Mem),m2=((E.on m1).bx 0 3).mem→
   Mem.Wf m2→
   split ((i64.wrap ((E.on m1).bW 0 3))==1) (
    E1.n=m2.S∧
    (0≤(0:Int)∧(0:Int)<4294967296)∧
    (0≤(1:Int)∧(1:Int)<4294967296)∧
    ∀(E2:Pd),E2=((E1.on m2).bx 0 1).pd→
    Pd.Ok E2→
    ∀(m3:Mem),m3=((E1.on m2).bx 0 1).mem→
    Mem.Wf m3→
    split ((i64.wrap ((E1.on m2).bW 0 1))==0) (
     E2.n=m3.S∧
     (0≤(0:Int)∧(0:Int)<4294967296)∧
     (0≤(2:Int)∧(2:Int)<4294967296)∧
     (0≤(7:Int)∧(7:Int)<4294967296)∧
     ∀(E3:Pd),E3=(DB.bp kk (E2.on m3) 0 2 7).pd→
     Pd.Ok E3→
     ∀(m4:Mem),m4=(DB.bp kk (E2.on m3) 0 2 7).mem→
     Mem.Wf m4→
     split ((i64.wrap ((E2.on m3).bE 0 2))==0) (
      E3.n=m4.S∧
      (0≤(1:Int)∧(1:Int)<4294967296)∧
      (0≤(2:Int)∧(2:Int)<4294967296)∧
      (0≤(7:Int)∧(7:Int)<4294967296)∧
      ∀(E4:Pd),E4=(DB.bp kk (E3.on m4) 1 2 7).pd→
      Pd.Ok E4→
      ∀(m5:Mem),m5=(DB.bp kk (E3.on m4) 1 2 7).mem→
      Mem.Wf m5→
      split ((i64.wrap ((E3.on m4).bE 1 2))==3) (
       J1 ((m5.bw true 2 0)==7) m5 E4) (
       J1 false m5 E4)) (
      J1 false m4 E3)) (
     J1 false m3 E2)) (
    J1 false m2 E1))∧∀(Ka:Nat→Value)(x0:Bool)(s1:Mem)(s2:Pd),J1 x0 s1 s2→
  Mem.Wf s1→
  Pd.Ok s2→
  Q ⟨(.bool x0),none,[],[],[]⟩)
theorem BS:Vc2 Un prog (bc [(27,uq),(29,rb),(31,fK),(32,eP),(33,nc)]) [] Tryz.f8 (.r' (.r' (.two (.two (.node [] (some ⟨[(13,(.one .bool))],[],upN 8 6,[]⟩) [] [] .leaf .leaf) .leaf) (.r' (.two (.node [] (some ⟨[(0,(.one .bool))],[],[0]++upN 16 32,[(1,(.ob 0)),(2,(.ob 1))]⟩) [] [] .leaf .leaf) .leaf))))) [] jo=(∀rk (kk:List Int),∀Q,(jo.body rk kk Q)→BR rk kk Q):=by kernel_rfl
theorem BQ:LV Un prog 8 jo:=verify Tryz.func8 aa (tb:= [(27,uq),(29,rb),(31,fK),(32,eP),(33,nc)]) ⟨Gc,EI,ta,rj,Ao,trivial⟩ (by kernel_rfl) (BS.mpr fun rk kk Q h=>af (by omega) fun s1 rN m VD f2=>⟨fun KJ=>(KJ=false),(by rfl),fun _ KJ hx=>ae (fun c1=>(by exfalso;have hx:KJ=false:=hx;rw [hx]at c1;cases c1)) fun c1=>af (by subst_vars;decide) fun s3 M1 m1 Jg f4 E OO f5=>⟨fun x0 s1 s2=>(x0=true),af (by(rw [OO,Jg,VD];rfl)) fun s6=>af (by omega) fun s7=>af (by omega) fun s8 E1 Jy f9 m2 Jw f10=>aB (fun c2=>(by(have h0:=(by rw [OO,Jg,VD];rfl:E.on m1=DB.hd0));exact af (by(rw [Jy,Jw];exact DB.pdS _)) fun JO=>af ‹_› fun MQ=>af (by omega) fun V9 E2 MK f14 m3 Ke f15=>aB (fun c3=>(by(have h1:=(by rw [Jy,Jw,h0];show DB.hd0.bx 0 3=DB.hd0;unfold DB.bx;rw [if_neg (by rw [DB.Ha];decide)]:E1.on m2=DB.hd0));exact af (by(rw [MK,Ke];exact DB.pdS _)) fun V8=>af ‹_› fun V7=>af (by omega) fun s18=>af (by omega) fun s19 E3 Q8 f20 m4 ON f21=>aB (fun c4=>(by(have h2:=(by rw [MK,Ke,h1];unfold DB.hd1;exact DB.iF _:E2.on m3=DB.hd1));exact af (by(rw [Q8,ON];exact DB.pdS _)) fun s22=>af ‹_› fun s23=>af ‹_› fun s24=>af ‹_› fun s25 E4 h_E4 f26 m5 Q7 f27=>aB (fun c5=>(by(have h3:=(by rw [Q8,ON,h2];exact DB.iF _:E3.on m4=DB.bp kk DB.hd1 0 2 7));exact(by have h4:m5=(DB.bp kk DB.hd1 0 2 7).mem:=(by rw [Q7,h3];exact congrArg DB.mem (DB.IZ kk));rw [h4,DB.I0];rfl))) fun c5=>(by exfalso;have h3:=(by rw [Q8,ON,h2];exact DB.iF _:E3.on m4=DB.bp kk DB.hd1 0 2 7);exact c5 (by rw [h3,DB.Ig];decide)))) fun c4=>(by exfalso;have h2:=(by rw [MK,Ke,h1];unfold DB.hd1;exact DB.iF _:E2.on m3=DB.hd1);exact c4 (by rw [h2,DB.Ii];decide)))) fun c3=>(by exfalso;have h1:=(by rw [Jy,Jw,h0];show DB.hd0.bx 0 3=DB.hd0;unfold DB.bx;rw [if_neg (by rw [DB.Ha];decide)]:E1.on m2=DB.hd0);exact c3 (by rw [h1,DB.I2];decide)))) fun c2=>(by exfalso;have h0:=(by rw [OO,Jg,VD];rfl:E.on m1=DB.hd0);exact c2 (by rw [h0,DB.Ha];decide)),fun _ x0 s1 s2 hy f28 f29=>mG h (hy.symm)⟩⟩)
end
end Go.Proofs.YtinhphjfnedhgaaGreatDoor
namespace Go.Proofs.YtinhphjfnedhgaaGreatDoor
open Go.Proofs.Tryz (prog)
open Go Go.RowKit V
open Go.IntKind (i64 u32 u64)
theorem Da(m:Mem):m.same m=true:=by
 unfold Mem.same
 rw [jJ.2 ⟨rfl,fun _ _ _ _=>rfl⟩,jJ.2 ⟨rfl,fun _ _ _ _=>rfl⟩];rfl
def mR(f:Nat→Bool)(n:Nat):Nat:=((List.range n).filter f).length
theorem gS(f:Nat→Bool)(n:Nat):mR f (n+1)=mR f n+if f n then 1 else 0:=by
 unfold mR
 rw [List.range_succ,List.filter_append,List.length_append]
 congr 1
 by_cases h:f n=true
 ·rw [if_pos h,List.filter_cons_of_pos h];rfl
 ·rw [if_neg h,List.filter_cons_of_neg h];rfl
theorem lh {f g:Nat→Bool}:∀ {n:Nat},(∀q,q<n→f q=true→g q=true)→mR f n≤mR g n
 | 0,_=>Nat.le_refl _
 | n+1,h=>by
  rw [gS,gS]
  have:=lh (n:=n) fun q hq=>h q (by omega)
  have h1:=h n (by omega)
  by_cases hf:f n=true
  ·rw [if_pos hf,if_pos (h1 hf)];omega
  ·rw [if_neg hf];omega
theorem mQ {f g:Nat→Bool} {p:Nat}(hp:g p=true)(hf:f p=false):∀ {n:Nat},p<n→(∀q,q<n→f q=true→g q=true)→mR f n+1≤mR g n
 | 0,h,_=>by omega
 | n+1,h,hh=>by
  rw [gS,gS]
  by_cases e:p=n
  ·subst e
   have:=lh (n:=p) fun q hq=>hh q (by omega)
   rw [if_pos hp,if_neg (by rw [hf];decide)];omega
  ·have:=mQ hp hf (n:=n) (by omega) fun q hq=>hh q (by omega)
   have h1:=hh n (by omega)
   by_cases hf:f n=true
   ·rw [if_pos hf,if_pos (h1 hf)];omega
   ·rw [if_neg hf];omega
theorem su {f g:Nat→Bool} {p:Nat}:∀ {n:Nat},(∀q,q<n→q≠p→f q=true→g q=true)→mR f n≤mR g n+1
 | 0,_=>by simp [mR]
 | n+1,h=>by
  rw [gS,gS]
  by_cases e:p=n
  ·subst e
   have:=lh (f:=f) (g:=g) (n:=p) fun q hq=>h q (by omega) (by omega)
   split<;>split<;>omega
  ·have:=su (n:=n) fun q hq=>h q (by omega)
   have h1:=h n (by omega) (by omega)
   by_cases hf:f n=true
   ·rw [if_pos hf,if_pos (h1 hf)];omega
   ·rw [if_neg hf];omega
theorem Bj {f:Nat→Bool} {a b n:Nat}(ha:a<n)(hb:b<n)(RE:a≠b)(fa:f a=false)(fb:f b=false):mR f n+2≤n:=by
 have h1:=mQ (f:=f) (g:=fun q=>f q || q==a) (p:=a) (by simp) fa ha (fun q _ h=>by simp [h])
 have h2:=mQ (f:=fun q=>f q || q==a) (g:=fun q=>(f q || q==a) || q==b) (p:=b) (by simp) (by simp [fb];omega) hb (fun q _ h=>by simp only [h,Bool.true_or])
 have h3:mR (fun q=>(f q || q==a) || q==b) n≤n:=by
  unfold mR
  exact Nat.le_trans (List.length_filter_le _ _) (by rw [List.length_range];exact Nat.le_refl _)
 omega
namespace Mem
theorem gY {m:Mem} {p o v x y:Int}(h:p≠x):(m.write true p o v).bw true x y=m.bw true x y:=by
 refine mA (DB.cI ..) (fun hs=>?_) y
 by_cases hp:0≤p
 ·exact iZ (tA hs hp h)
 ·unfold write
  rw [if_neg]
  simp [has];omega
theorem r6 {m:Mem} {p q x y:Int} {b:Bool}(h:p≠x):(m.copy true p b q).bw true x y=m.bw true x y:=by
 refine mA (mL ..) (fun hs=>?_) y
 by_cases hp:0≤p
 ·exact ts (tA hs hp h)
 ·unfold copy
  rw [if_neg]
  simp [has];omega
theorem AS {m:Mem} {p x y:Int}(h:p≠x):(m.zero true p).bw true x y=m.bw true x y:=by
 refine mA (DB.vz ..) (fun hs=>?_) y
 unfold zero
 split
 ·rename_i hp
  have h1:=ay hs
  have h2:=ay hp
  funext o
  show(if true=true∧x.toNat=p.toNat then _ else _)=_
  rw [if_neg (by omega)]
 ·rfl
theorem tu {m:Mem} {p o v x:Int}(ho:0<o):(m.write true p o v).bw true x 0=m.bw true x 0:=by
 by_cases e:p=x
 ·subst e
  by_cases h:(m.has true p && dM o)=true
  ·have h':m.has true p=true∧dM o=true:=by simpa using h
   rw [jA h'.1 h'.2,if_neg (by omega)]
  ·unfold write;rw [if_neg h]
 ·exact gY e
theorem k7 {p x:Int}:∀(l:List Int)(m:Mem)(o:Int),0<o→(m.wrs p o l).bw true x 0=m.bw true x 0
 | [],_,_,_=>rfl
 | y::l,m,o,h=>by rw [wrs,k7 l _ _ (by omega),tu h]
theorem AT {kk:List Int} {m:Mem} {p k a x:Int} {l:List U32}:(m.msd kk p k a l).bw true x 0=m.bw true x 0:=by
 unfold msd
 split
 ·exact k7 _ _ _ (by omega)
 ·rfl
theorem CT {m:Mem} {p o v x y:Int}:(m.write false p o v).bw true x y=m.bw true x y:=
 mA (DB.cI ..) (fun _=>iZ (by rintro⟨h,_⟩;cases h)) y
end Mem
namespace DB
def cnt(d:DB)(x:Int):Nat:=mR (d.dy x) d.S
structure Good(d:DB):Prop where
 inv:d.Inv
 own:∀x,d.has x=true→(d.at_ x).typ=1→(d.at_ x).owner=x
 refs:∀x,d.has x=true→(d.at_ x).typ=1→(d.at_ x).refs≤(d.cnt x:Int)
 tbl:∀x,d.aR x=0→d.of (d.word x 0) 3 x=true
theorem Good.aQ {d:DB} {m:Mem}(h:d.Good)(hS:m.S=d.mem.S)(hI:(d.aL m).Inv)(hw:∀x,d.aR x=0→m.bw true x 0=d.mem.bw true x 0):(d.aL m).Good:=by
 have hh:∀x,(d.aL m).has x=d.has x:=fun x=>by unfold has;rw [show(d.aL m).S=d.S from hS]
 refine⟨hI,fun x hx=>h.own x (by rw [← hh];exact hx),fun x hx ht=>?_,fun x hx=>?_⟩
 ·have e:(d.aL m).cnt x=d.cnt x:=by unfold cnt;rw [show(d.aL m).S=d.S from hS];rfl
  rw [e];exact h.refs x (by rw [← hh];exact hx) ht
 ·have hx:d.aR x=0:=by rw [← tU hS];exact hx
  have e:(d.aL m).word x 0=d.word x 0:=hw x hx
  rw [e]
  have:=h.tbl x hx
  unfold of is at this ⊢
  rw [hh];exact this
theorem dY {d:DB} {x:Int} {q:Nat}(h:d.dy x q=true):(q:Int)≠x∧(d.ent q).typ≠0∧(d.ent q).owner=x:=by
 simpa [dy,and_assoc]using h
theorem gZ {d:DB} {x:Int} {q:Nat}(h:(q:Int)≠x∧(d.ent q).typ≠0∧(d.ent q).owner=x):d.dy x q=true:=by
 simpa [dy,and_assoc]using h
theorem iB {d:DB} {p t s q:Int}(hp:d.has p=true)(hs:d.has s=true)(hq:0≤q)(LR:s≠p):(d.bT p t s).at_ q=if q=s then {d.at_ s with refs:=(d.at_ s).refs+1}else if q=p then⟨t,s,0,0,false⟩else d.at_ q:=by
 have h1:=ay hp
 have h2:=ay hs
 unfold bT more
 rw [bR h2.1 hq,bR h1.1 h2.1,bR h1.1 hq,if_neg LR]
theorem oO {d:DB} {p t s:Int}(h:d.aZ p t s=0):d.has p=true∧d.has s=true∧(d.at_ s).typ=1∧(d.at_ s).refs<63∧(d.at_ p).typ=0∧d.take p t s=d.bT p t s:=by
 unfold aZ at h
 have e:d.take p t s=d.bT p t s:=by unfold take aZ;rw [if_pos h]
 cases hp:d.has p
 ·simp [hp]at h
 ·cases hs:d.cD s
  ·simp [hp,hs]at h
   split at h<;>simp at h
  ·have h3:d.has s=true∧(d.at_ s).typ=1:=by simpa [cD]using hs
   by_cases h4:(d.at_ s).refs≥63
   ·simp [hp,hs,h4]at h
    split at h<;>simp at h
   ·by_cases h5:(d.at_ p).typ=0
    ·exact⟨rfl,h3.1,h3.2,by omega,h5,e⟩
    ·simp [hp,hs,h4,h5]at h
     split at h<;>simp at h
theorem oh {d:DB} {p t o:Int}(h:d.has p=true∧(d.at_ p).typ=t∧(d.at_ p).owner=o):d.of p t o=true:=by
 simpa [of,is,and_assoc]using h
theorem Good.take {d:DB} {p t s:Int}(h:d.Good)(ht:t≠1)(Wl:t≠0):(d.take p t s).Good:=by
 by_cases he:d.aZ p t s=0
 ·obtain⟨hp,hs,Us,hr,hf,e⟩:=oO he
  have LR:s≠p:=by rintro rfl;omega
  have p0:=ay hp
  have s0:=ay hs
  have hI:(d.take p t s).Inv:=fun x hx=>by rw [bH];exact h.inv x (jv ht hs hx)
  have hb:∀x,(d.take p t s).aR x=0→d.aR x=0:=fun x hx=>jv ht hs hx
  rw [e]at hI hb ⊢
  have ent:∀q:Nat,(d.bT p t s).ent q=if(q:Int)=s then {d.ent q with refs:=(d.ent q).refs+1}else if(q:Int)=p then⟨t,s,0,0,false⟩else d.ent q:=fun q=>by
   have e1:=iB (t:=t) hp hs (q:=(q:Int)) (by omega) LR
   have e2:∀D:DB,D.at_ (q:Int)=D.ent q:=fun D=>by unfold at_;rw [Int.toNat_natCast]
   rw [e2,e2]at e1
   rw [e1]
   by_cases e3:(q:Int)=s
   ·rw [if_pos e3,if_pos e3,← e3,e2]
   ·rw [if_neg e3,if_neg e3]
  have fe:∀x:Int,∀q:Nat,d.dy x q=true→(d.bT p t s).dy x q=true:=fun x q hq=>by
   obtain⟨h1,h2,h3⟩:=dY hq
   refine gZ ?_
   rw [ent]
   by_cases e1:(q:Int)=s
   ·rw [if_pos e1];exact⟨h1,h2,h3⟩
   ·rw [if_neg e1,if_neg]
    ·exact⟨h1,h2,h3⟩
    ·rintro rfl
     unfold at_ at hf;rw [Int.toNat_natCast]at hf;exact h2 hf
  refine⟨hI,fun x hx h1=>?_,fun x hx h1=>?_,fun x hx=>?_⟩
  ·have x0:=ay (show d.has x=true from hx)
   rw [iB hp hs x0.1 LR]at h1 ⊢
   by_cases e1:x=s
   ·rw [if_pos e1];subst e1;exact h.own x hs Us
   ·rw [if_neg e1]at h1 ⊢
    by_cases e2:x=p
    ·rw [if_pos e2]at h1;exact absurd h1 ht
    ·rw [if_neg e2]at h1 ⊢;exact h.own x hx h1
  ·have x0:=ay (show d.has x=true from hx)
   rw [iB hp hs x0.1 LR]at h1 ⊢
   by_cases e1:x=s
   ·subst e1
    rw [if_pos rfl]
    have Vv:((p.toNat:Nat):Int)=p:=Int.toNat_of_nonneg p0.1
    have hc:d.cnt x+1≤(d.bT p t x).cnt x:=by
     refine mQ (p:=p.toNat) (gZ ?_) ?_ (show p.toNat<d.S by omega) fun q _ hq=>fe x q hq
     ·rw [ent,Vv,if_neg (Ne.symm LR),if_pos rfl]
      exact⟨Ne.symm LR,Wl,rfl⟩
     ·rw [← Bool.not_eq_true]
      intro hq
      exact(dY hq).2.1 hf
    have:=h.refs x hs Us
    show(d.at_ x).refs+1≤_
    omega
   ·have e2:x≠p:=by rintro rfl;rw [if_neg e1,if_pos rfl]at h1;exact ht h1
    rw [if_neg e1,if_neg e2]at h1 ⊢
    have hc:d.cnt x≤(d.bT p t s).cnt x:=lh fun q _ hq=>fe x q hq
    have:=h.refs x hx h1
    omega
  ·have PY:=hb x hx
   obtain⟨a,b,c⟩:=g7 (h.tbl x PY)
   have q0:=ay a
   refine oh ?_
   have ew:(d.bT p t s).word x 0=d.word x 0:=rfl
   rw [ew,iB hp hs q0.1 LR]
   have n1:d.word x 0≠s:=by intro e1;rw [e1]at b;omega
   have n2:d.word x 0≠p:=by intro e1;rw [e1]at b;omega
   rw [if_neg n1,if_neg n2]
   exact⟨a,b,c⟩
 ·unfold DB.take;rw [if_neg he];exact h
theorem C6(m:Mem):(DB.new m).Good:=⟨Fh m,fun x _ h=>(by cases h),fun x _ h=>(by cases h),fun x hx=>(by have:=(cA.1 hx).2.1;cases this)⟩
theorem Good.setState {d:DB} {p s:Int}(h:d.Good)(hs:s≠1):(d.setState p s).Good:=by
 have hI:(d.setState p s).Inv:=fun x hx=>by rw [fh];exact h.inv x (iC hs hx)
 have hb:∀x,(d.setState p s).aR x=0→d.aR x=0:=fun x hx=>iC hs hx
 by_cases he:d.aV p s=0
 ·have e:d.setState p s=d.set p {d.at_ p with state:=s}:=by unfold DB.setState;rw [if_pos he]
  have hp:d.has p=true:=by
   cases hp:d.has p
   ·unfold aV at he;simp [hp]at he
   ·rfl
  have p0:=ay hp
  rw [e]at hI hb ⊢
  have at2:∀x:Int,0≤x→((d.set p {d.at_ p with state:=s}).at_ x).typ=(d.at_ x).typ∧((d.set p {d.at_ p with state:=s}).at_ x).owner=(d.at_ x).owner∧((d.set p {d.at_ p with state:=s}).at_ x).refs=(d.at_ x).refs:=fun x hx=>by
   rw [bR p0.1 hx]
   by_cases e1:x=p
   ·subst e1;rw [if_pos rfl];exact⟨rfl,rfl,rfl⟩
   ·rw [if_neg e1];exact⟨rfl,rfl,rfl⟩
  have hc:∀x,(d.set p {d.at_ p with state:=s}).cnt x=d.cnt x:=fun x=>by
   unfold cnt
   congr 1
   funext q
   have:=at2 (q:Int) (by omega)
   have e2:∀D:DB,D.at_ (q:Int)=D.ent q:=fun D=>by unfold at_;rw [Int.toNat_natCast]
   rw [e2,e2]at this
   unfold dy
   rw [this.1,this.2.1]
  refine⟨hI,fun x hx h1=>?_,fun x hx h1=>?_,fun x hx=>?_⟩
  ·have x0:=ay (show d.has x=true from hx)
   have:=at2 x x0.1
   rw [this.1]at h1;rw [this.2.1];exact h.own x hx h1
  ·have x0:=ay (show d.has x=true from hx)
   have:=at2 x x0.1
   rw [this.1]at h1;rw [this.2.2,hc];exact h.refs x hx h1
  ·obtain⟨a,b,c⟩:=g7 (h.tbl x (hb x hx))
   have:=at2 _ (ay a).1
   exact oh ⟨a,by rw [show(d.set p {d.at_ p with state:=s}).word x 0=d.word x 0 from rfl,this.1];exact b,by rw [show(d.set p {d.at_ p with state:=s}).word x 0=d.word x 0 from rfl,this.2.1];exact c⟩
 ·unfold DB.setState;rw [if_neg he];exact h
theorem kx(D:DB)(q:Nat):D.at_ (q:Int)=D.ent q:=by unfold at_;rw [Int.toNat_natCast]
theorem Good.eC {d:DB} {p:Int}(h:d.Good)(hg:d.sk p=true):(d.eC p).Good:=by
 have hI:=vA (p:=p) h.inv
 unfold sk at hg
 simp only [Bool.and_eq_true,bne_iff_ne,ne_eq,beq_iff_eq,Bool.or_eq_true]at hg
 obtain⟨hp,ho,ht,La,hr⟩:=hg
 have p0:=ay hp
 have o0:=ay ho
 by_cases he:d.cO p=0
 ·have e:d.eC p=d.bZ p:=by unfold DB.eC;rw [if_pos he]
  rw [e]at hI ⊢
  have g:∀x,(d.bZ p).at_ x=(if(d.at_ p).typ !=1 && ((d.set p .free).cD (d.at_ p).owner && decide (((d.set p .free).at_ (d.at_ p).owner).refs>0))then(d.set p .free).more (d.at_ p).owner (-1)else d.set p .free).at_ x:=fun x=>rfl
  have hc:∃r:Int,r≤(d.at_ (d.at_ p).owner).refs∧((d.at_ p).typ≠1→(d.at_ (d.at_ p).owner).typ=1→r≤0∨r≤(d.at_ (d.at_ p).owner).refs - 1)∧∀x:Int,0≤x→(d.bZ p).at_ x=if x=p then Ent.free else if x=(d.at_ p).owner then {d.at_ x with refs:=r}else d.at_ x:=by
   by_cases QZ:((d.at_ p).typ !=1 && ((d.set p .free).cD (d.at_ p).owner && decide (((d.set p .free).at_ (d.at_ p).owner).refs>0)))=true
   ·have g2:=fun x=>(g x).trans (by rw [if_pos QZ])
    simp only [Bool.and_eq_true,cD,dN,bne_iff_ne,ne_eq,decide_eq_true_eq,beq_iff_eq]at QZ
    have Ky:(d.at_ p).owner≠p:=by
     intro e1
     have h9:=QZ.2.2
     rw [e1,bR p0.1 p0.1,if_pos rfl]at h9;exact absurd h9 (by decide)
    have e1:(d.set p .free).at_ (d.at_ p).owner=d.at_ (d.at_ p).owner:=by rw [bR p0.1 o0.1,if_neg Ky]
    refine⟨(d.at_ (d.at_ p).owner).refs+ -1,by omega,fun _ _=>.inr (by omega),fun x hx=>?_⟩
    rw [g2]
    unfold more
    rw [bR o0.1 hx,e1]
    by_cases e2:x=(d.at_ p).owner
    ·rw [if_pos e2,if_neg (by rw [e2];exact Ky),if_pos e2,e2]
    ·rw [if_neg e2,bR p0.1 hx,if_neg e2]
   ·have g2:=fun x=>(g x).trans (by rw [if_neg QZ])
    refine⟨(d.at_ (d.at_ p).owner).refs,by omega,fun h1 h2=>?_,fun x hx=>?_⟩
    ·left
     simp only [Bool.and_eq_true,cD,dN,bne_iff_ne,ne_eq,decide_eq_true_eq,beq_iff_eq,not_and]at QZ
     by_cases Ky:(d.at_ p).owner=p
     ·rw [Ky]at h2;exact absurd h2 h1
     ·rw [bR p0.1 o0.1,if_neg Ky]at QZ
      have:=QZ h1 ⟨ho,h2⟩
      omega
    ·rw [g2,bR p0.1 hx]
     by_cases e1:x=p
     ·rw [if_pos e1,if_pos e1]
     ·rw [if_neg e1,if_neg e1]
      by_cases e2:x=(d.at_ p).owner
      ·rw [if_pos e2,← e2]
      ·rw [if_neg e2]
  obtain⟨r,MC,LW,hat⟩:=hc
  have hh:∀x,(d.bZ p).has x=d.has x:=fun x=>by
   unfold bZ
   show(Mem.zero _ true p).has true x=_
   rw [vz];split<;>rfl
  have hS:(d.bZ p).S=d.S:=by
   unfold bZ
   show(Mem.zero _ true p).S=_
   rw [Mem.qJ];split<;>rfl
  have ow:∀x:Int,∀q:Nat,(q:Int)≠p→d.dy x q=true→(d.bZ p).dy x q=true:=fun x q hq hx=>by
   obtain⟨h1,h2,h3⟩:=dY hx
   have e1:=hat (q:Int) (by omega)
   rw [kx,if_neg hq]at e1
   refine gZ ?_
   rw [e1]
   split
   ·exact⟨h1,by rw [kx];exact h2,by rw [kx];exact h3⟩
   ·exact⟨h1,by rw [kx];exact h2,by rw [kx];exact h3⟩
  have t1:∀x:Int,d.has x=true→((d.bZ p).at_ x).typ=1→x≠p∧(d.at_ x).typ=1∧((d.bZ p).at_ x).owner=(d.at_ x).owner∧((d.bZ p).at_ x).state=(d.at_ x).state:=fun x hx h1=>by
   have x0:=ay hx
   rw [hat x x0.1]at h1 ⊢
   by_cases e1:x=p
   ·rw [if_pos e1]at h1;cases h1
   ·rw [if_neg e1]at h1 ⊢
    split at h1
    ·rename_i e2;rw [if_pos e2];exact⟨e1,h1,rfl,rfl⟩
    ·rename_i e2;rw [if_neg e2];exact⟨e1,h1,rfl,rfl⟩
  refine⟨hI,fun x hx h1=>?_,fun x hx h1=>?_,fun x hx=>?_⟩
  ·rw [hh]at hx
   obtain⟨n1,n2,n3,_⟩:=t1 x hx h1
   rw [n3];exact h.own x hx n2
  ·rw [hh]at hx
   obtain⟨n1,n2,n3,_⟩:=t1 x hx h1
   have x0:=ay hx
   have hrx:=h.refs x hx n2
   rw [hat x x0.1,if_neg n1]
   by_cases e2:x=(d.at_ p).owner
   ·rw [if_pos e2]
    show r≤_
    have hc:d.cnt x≤(d.bZ p).cnt x+1:=by
     unfold cnt;rw [hS]
     exact su (p:=p.toNat) fun q _ hq hx=>ow x q (by omega) hx
    by_cases hpt:(d.at_ p).typ=1
    ·exact absurd (e2.trans (h.own p hp hpt)) n1
    ·rw [← e2]at MC LW
     rcases LW hpt n2 with h9 | h9<;>omega
   ·rw [if_neg e2]
    have hc:d.cnt x≤(d.bZ p).cnt x:=by
     unfold cnt;rw [hS]
     refine lh fun q _ hq=>ow x q ?_ hq
     rintro e3
     have:=(dY hq).2.2
     rw [← kx,e3]at this
     exact e2 this.symm
    omega
  ·obtain⟨b1,b2,b3⟩:=cA.1 hx
   rw [hh]at b1
   obtain⟨n1,n2,n3,n4⟩:=t1 x b1 b2
   rw [n4]at b3
   have hxd:d.aR x=0:=cA.2 ⟨b1,n2,b3⟩
   obtain⟨a,b,c⟩:=g7 (h.tbl x hxd)
   have ew:(d.bZ p).word x 0=d.word x 0:=by
    unfold bZ word
    have hm:∀c:Bool,(DB.aQ (if c then(d.set p .free).more (d.at_ p).owner (-1)else d.set p .free) (·.zero true p)).mem=d.mem.zero true p:=by intro c;cases c<;>rfl
    rw [hm,Mem.AS (Ne.symm n1)]
   rw [ew]
   have q0:=ay a
   refine oh ⟨by rw [hh];exact a,?_⟩
   have nq:d.word x 0≠p:=by
    intro e1;rw [e1]at c
    rw [c]at La;omega
   rw [hat _ q0.1,if_neg nq]
   split
   ·exact⟨b,c⟩
   ·exact⟨b,c⟩
 ·have e:d.eC p=d:=by unfold DB.eC;rw [if_neg he]
  rw [e];exact h
theorem Good.space {d:DB} {s f:Int}(h:d.Good):(d.bx s f).Good:=by
 have hI:=rW (s:=s) (f:=f) h.inv
 by_cases he:d.bW s f=0
 ·have e:d.bx s f=(d.aM s f).aQ (·.wrs s 11 Dg.new.save):=by unfold bx;rw [if_pos he]
  unfold bW at he
  have h1:¬d.aX s≠0:=by grind
  have h2:¬d.aX f≠0:=by grind
  have h3:¬s=f:=by grind
  have h4:¬d.bj s≠0:=by grind
  have h5:¬d.bj f≠0:=by grind
  have h6:¬d.aE≥64:=by grind
  have hs:=dH h1
  have hf:=dH h2
  have r1:=ay hs
  have r2:=ay hf
  have f1:=dK hs h4
  have f2:=dK hf h5
  have ht:d.aO s f=0:=by rw [eJ h1 h2 h3 h4 h5,if_neg h6]
  have e2:d.aM s f=d.bn s f:=by unfold aM;rw [if_pos ht]
  rw [e,e2]at hI ⊢
  have hm:((d.bn s f).aQ (·.wrs s 11 Dg.new.save)).mem=(((d.mem.write true s 0 f).write true s 1 d.aE).write true s 2 0).wrs s 11 Dg.new.save:=rfl
  have hS:((d.bn s f).aQ (·.wrs s 11 Dg.new.save)).S=d.S:=by
   show(((((d.mem.write true s 0 f).write true s 1 d.aE).write true s 2 0)).wrs s 11 Dg.new.save).S=_
   rw [Mem.hY,Mem.bB,Mem.bB,Mem.bB];rfl
  generalize hD:(d.bn s f).aQ (·.wrs s 11 Dg.new.save)=D at hI hm hS ⊢
  have hh:∀x,D.has x=d.has x:=fun x=>by unfold has;rw [hS]
  have hat:∀x:Int,0≤x→D.at_ x=if x=f then⟨3,s,0,0,false⟩else if x=s then⟨1,s,1,1,false⟩else d.at_ x:=fun x hx=>by
   rw [← hD]
   show((d.set s ⟨1,s,1,1,false⟩).set f ⟨3,s,0,0,false⟩).at_ x=_
   rw [bR r2.1 hx,bR r1.1 hx]
  have fe:∀x:Int,∀q:Nat,d.dy x q=true→D.dy x q=true:=fun x q hq=>by
   obtain⟨a,b,c⟩:=dY hq
   rw [← kx]at b c
   have:=hat (q:Int) (by omega)
   rw [if_neg (by rintro e1;rw [e1]at b;exact b f2),if_neg (by rintro e1;rw [e1]at b;exact b f1),kx]at this
   exact gZ ⟨a,by rw [this];exact b,by rw [this];exact c⟩
  refine⟨hI,fun x hx t1=>?_,fun x hx t1=>?_,fun x hx=>?_⟩
  ·rw [hh]at hx
   have x0:=ay hx
   rw [hat x x0.1]at t1 ⊢
   by_cases e1:x=f
   ·rw [if_pos e1]at t1;cases t1
   ·rw [if_neg e1]at t1 ⊢
    by_cases e2:x=s
    ·rw [if_pos e2];exact e2.symm
    ·rw [if_neg e2]at t1 ⊢;exact h.own x hx t1
  ·rw [hh]at hx
   have x0:=ay hx
   rw [hat x x0.1]at t1 ⊢
   by_cases e1:x=f
   ·rw [if_pos e1]at t1;cases t1
   ·rw [if_neg e1]at t1 ⊢
    by_cases e2:x=s
    ·rw [if_pos e2]
     show(1:Int)≤_
     have P9:((f.toNat:Nat):Int)=f:=Int.toNat_of_nonneg r2.1
     have:=mQ (f:=fun _=>false) (g:=D.dy x) (p:=f.toNat) (n:=D.S) (gZ (by
      have:=hat f r2.1
      rw [if_pos rfl]at this
      rw [P9,show D.ent f.toNat=D.at_ f from rfl,this]
      exact⟨Ne.symm e1,(by show(3:Int)≠0;decide),e2.symm⟩)) rfl (by rw [hS];show f.toNat<d.S;have:=r2.2;omega) (fun q _ h9=>by cases h9)
     unfold cnt
     omega
    ·rw [if_neg e2]at t1 ⊢
     have hc:d.cnt x≤D.cnt x:=by
      unfold cnt;rw [hS]
      exact lh fun q _ hq=>fe x q hq
     have:=h.refs x hx t1
     omega
  ·obtain⟨b1,b2,b3⟩:=cA.1 hx
   rw [hh]at b1
   have x0:=ay b1
   rw [hat x x0.1]at b2 b3
   by_cases e1:x=f
   ·rw [if_pos e1]at b2;cases b2
   ·rw [if_neg e1]at b2 b3
    unfold word
    rw [hm,Mem.k7 _ _ _ (by omega),Mem.tu (by omega),Mem.tu (by omega)]
    by_cases e2:x=s
    ·rw [e2,Mem.jA hs (by decide),if_pos rfl]
     refine oh ⟨by rw [hh];exact hf,?_⟩
     rw [hat f r2.1,if_pos rfl]
     exact⟨rfl,rfl⟩
    ·rw [if_neg e2]at b2 b3
     rw [Mem.gY (Ne.symm e2)]
     obtain⟨a,b,c⟩:=g7 (h.tbl x (cA.2 ⟨b1,b2,b3⟩))
     have q0:=ay a
     refine oh ⟨by rw [hh];exact a,?_⟩
     show(D.at_ (d.word x 0)).typ=3∧(D.at_ (d.word x 0)).owner=x
     rw [hat _ q0.1,if_neg (by intro e3;rw [e3]at b;omega),if_neg (by intro e3;rw [e3]at b;omega)]
     exact⟨b,c⟩
 ·have e:d.bx s f=d:=by unfold bx;rw [if_neg he]
  rw [e];exact h
theorem add_eq(d:DB)(s i q:Int):d.add s i q=d.aL (d.add s i q).mem∧(d.add s i q).mem.S=d.mem.S:=by
 unfold add;split
 ·exact⟨rfl,Mem.bB ..⟩
 ·exact⟨rfl,rfl⟩
theorem put_eq(d:DB)(s va:Int)(M:Mp):d.put s va M=d.aL (d.put s va M).mem∧(d.put s va M).mem.S=d.mem.S:=by
 unfold put;split
 ·exact⟨rfl,Mem.bB ..⟩
 ·exact⟨rfl,rfl⟩
theorem CU {d:DB} {s i q x y:Int}(h:(d.at_ x).typ≠3):(d.add s i q).mem.bw true x y=d.mem.bw true x y:=by
 unfold add;split
 ·rename_i he
  exact Mem.gY fun e=>h (e▸(g7 (Ai he).2).2.1)
 ·rfl
theorem vk {d:DB} {s va x y:Int} {M:Mp}(h:(d.at_ x).typ≠4):(d.put s va M).mem.bw true x y=d.mem.bw true x y:=by
 unfold put;split
 ·rename_i he
  exact Mem.gY fun e=>h (e▸(g7 (CQ he).1).2.1)
 ·rfl
theorem Good.msd {kk:List Int} {d D:DB} {s k a:Int} {l:List U32}(h:d.Good)(e:D=d.aL D.mem)(hS:D.mem.S=d.mem.S)(hw:∀x,d.aR x=0→D.mem.bw true x 0=d.mem.bw true x 0)(hI:(D.aQ (fun m=>m.msd kk s k a l)).Inv):(D.aQ (fun m=>m.msd kk s k a l)).Good:=by
 have e2:D.aQ (fun m=>m.msd kk s k a l)=d.aL (D.mem.msd kk s k a l):=by
  unfold DB.aQ;rw [e];rfl
 rw [e2]at hI ⊢
 exact h.aQ (by rw [Mem.fB];exact hS) hI fun x hx=>by rw [Mem.AT];exact hw x hx
theorem sw {kk:List Int} {d:DB} {o:LOp}(ho:o.Ok)(h:d.Good)(hw:d.mem.Wf):(d.call kk o).Good:=by
 have hI:=DM (kk:=kk) ho h.inv hw
 unfold call at hI ⊢
 split
 ·exact h.space
 rename_i n1
 rw [if_neg n1]at hI
 split
 ·rename_i n2
  rw [if_pos n2]at hI
  unfold bp at hI ⊢
  split
  ·rename_i he
   rw [if_pos he]at hI
   unfold bE at he
   have h1:¬d.aR o.a≠0:=by grind
   have h2:¬d.aX o.b≠0:=by grind
   have h3:¬d.bj o.b≠0:=by grind
   have f1:=dK (dH h2) h3
   have G:=h.take (p:=o.b) (t:=2) (s:=o.a) (by omega) (by omega)
   exact G.msd (D:=(d.take o.b 2 o.a).aQ (·.write true o.b 0 o.c)) rfl (Mem.bB ..) (fun x hx=>by
    have b:=cA.1 (jv (by omega) (fu h1).1 hx)
    exact Mem.gY (by rintro rfl;omega)) hI
  ·exact h
 rename_i n2
 rw [if_neg n2]at hI
 split
 ·rename_i n3
  rw [if_pos n3]at hI
  unfold cX at hI ⊢
  split
  ·rename_i he
   rw [if_pos he]at hI
   have G:=h.take (p:=o.b) (t:=4) (s:=o.a) (by omega) (by omega)
   have e:=add_eq (d.take o.b 4 o.a) o.a o.c o.b
   exact G.msd e.1 e.2 (fun x hx=>CU (by have:=(cA.1 hx).2.1;omega)) hI
  ·exact h
 rename_i n3
 rw [if_neg n3]at hI
 split
 ·rename_i n4
  rw [if_pos n4]at hI
  unfold eo at hI ⊢
  split
  ·rename_i he
   rw [if_pos he]at hI
   unfold cT at he
   have h1:¬d.aR o.a≠0:=by grind
   have h2:¬d.aX o.b≠0:=by grind
   have h3:¬d.bj o.b≠0:=by grind
   have f1:=dK (dH h2) h3
   have G:=h.take (p:=o.b) (t:=5) (s:=o.a) (by omega) (by omega)
   have e1:(d.cj o.a o.b o.c o.d).aQ (fun m=>m.msd kk o.a 3 o.c (m.words true o.b.toNat))=(d.cj o.a o.b o.c o.d).aQ (fun m=>m.msd kk o.a 3 o.c ((d.cj o.a o.b o.c o.d).mem.words true o.b.toNat)):=by
    unfold DB.aQ;rfl
   rw [e1]at hI ⊢
   have e:=put_eq ((d.take o.b 5 o.a).aQ (·.copy true o.b false o.d)) o.a (bD o.c) (Mp.mk true o.b (paW o.c) (paX o.c))
   refine G.msd (D:=d.cj o.a o.b o.c o.d) e.1 (e.2.trans (Mem.lX ..)) (fun x hx=>?_) hI
   have b:=cA.1 hx
   have b':=cA.1 (jv (by omega) (fu h1).1 hx)
   unfold cj
   rw [vk (by show((d.take o.b 5 o.a).at_ x).typ≠4;omega)]
   exact Mem.r6 (by rintro rfl;omega)
  ·exact h
 ·rename_i n4
  rw [if_neg n4]at hI
  unfold cY at hI ⊢
  split
  ·rename_i he
   rw [if_pos he]at hI
   have e:=put_eq d o.a (bD o.b) (Mp.mk false o.c (paW o.b) false)
   exact h.msd e.1 e.2 (fun x hx=>vk (by have:=(cA.1 hx).2.1;omega)) hI
  ·exact h
theorem vY {d:DB} {o:LOp}(h:d.Good):(d.beside o).Good:=by
 have hI:=yK (o:=o) h.inv
 unfold beside at hI ⊢
 split
 ·rename_i n1
  rw [if_pos n1]at hI
  exact h.aQ (Mem.bB ..) hI fun x _=>Mem.CT
 rename_i n1
 rw [if_neg n1]at hI
 split
 ·rename_i n2
  rw [if_pos n2]at hI
  split
  ·rename_i hb
   have b0:d.has o.a=true∧(d.at_ o.a).typ=1∧(d.at_ o.a).state=1:=by simpa [mJ,and_assoc]using hb
   rw [if_pos hb]at hI
   have e1:d.aV o.a 2=0:=by unfold aV;simp [b0.1,b0.2.1,b0.2.2]
   have e2:(d.aQ fun m=>m.wrs o.a 11 (List.replicate 26 0)).aV o.a 2=0:=by
    have h9:(d.aQ fun m=>m.wrs o.a 11 (List.replicate 26 0)).has o.a=d.has o.a:=Mem.oS o.a true o.a (List.replicate 26 0) d.mem 11
    have h8:(d.aQ fun m=>m.wrs o.a 11 (List.replicate 26 0)).at_ o.a=d.at_ o.a:=rfl
    unfold aV;rw [h9,h8];simp [b0.1,b0.2.1,b0.2.2]
   have e3:(d.aQ fun m=>m.wrs o.a 11 (List.replicate 26 0)).setState o.a 2=(d.setState o.a 2).aL (d.mem.wrs o.a 11 (List.replicate 26 0)):=by
    unfold DB.setState;rw [if_pos e1,if_pos e2];rfl
   rw [e3]at hI ⊢
   exact(h.setState (by omega)).aQ (by rw [Mem.hY,fh]) hI fun x _=>by rw [Mem.k7 _ _ _ (by omega),fh]
  ·exact h
 split
 ·exact h.setState (by omega)
 split
 ·split
  ·rename_i hg
   exact h.eC hg
  ·exact h
 ·exact h
theorem Good.room {d:DB}(h:d.Good)(hS:d.S≤64) {s p:Int}(hs:d.has s=true)(ht:(d.at_ s).typ=1)(hp:d.has p=true)(hf:(d.at_ p).typ=0):(d.at_ s).refs<63:=by
 have s0:=ay hs
 have p0:=ay hp
 have:=Bj (f:=d.dy s) (a:=s.toNat) (b:=p.toNat) (n:=d.S) (by omega) (by omega) (by rintro e;exact absurd (show s=p by omega) (by rintro rfl;omega)) (by
  rw [← Bool.not_eq_true];intro hq
  exact(dY hq).1 (Int.toNat_of_nonneg s0.1)) (by
  rw [← Bool.not_eq_true];intro hq
  exact(dY hq).2.1 hf)
 have:=h.refs s hs ht
 unfold cnt at this
 omega
theorem Good.Ct {d:DB}(h:d.Good)(hS:d.S≤64) {s p t:Int}(h1:¬d.aR s≠0)(h2:¬d.aX p≠0)(h3:¬d.bj p≠0)(ht:t=2∨t=4∨t=5):d.aZ p t s=0:=by
 have b:=fu h1
 have hp:=dH h2
 have hf:=dK hp h3
 have hr:=h.room hS b.1 b.2.1 hp hf
 unfold aZ cD turns
 have Jv:¬63≤(d.at_ s).refs:=by omega
 rcases ht with rfl | rfl | rfl<;>simp [hp,b.1,b.2.1,hf,Jv]
theorem uW {d:DB} {s p t:Int}(h:d.Good)(he:d.aZ p t s=0)(h1:¬d.aR s≠0):(d.take p t s).cp s=0∧d.cp s=0∧(d.take p t s).tbl s=d.tbl s∧d.tbl s≠p∧d.tbl s≠s:=by
 obtain⟨hp,hs,Us,hr,hf,e⟩:=oO he
 have b:=fu h1
 have LR:s≠p:=by rintro rfl;omega
 have s0:=ay hs
 obtain⟨a1,a2,a3⟩:=g7 (h.tbl s (by omega))
 have n1:d.word s 0≠s:=by intro e1;rw [e1]at a2;omega
 have n2:d.word s 0≠p:=by intro e1;rw [e1]at a2;omega
 have t0:d.cp s=0:=by
  unfold cp
  rw [h.tbl s (by omega)]
  simp [b.1,b.2.1,b.2.2]
 have t1:(d.bT p t s).cp s=0:=by
  have o1:(d.bT p t s).of ((d.bT p t s).word s 0) 3 s=true:=by
   show(d.bT p t s).of (d.word s 0) 3 s=true
   refine oh ⟨a1,?_⟩
   rw [iB hp hs (ay a1).1 LR,if_neg n1,if_neg n2];exact⟨a2,a3⟩
  unfold cp
  rw [o1,iB hp hs s0.1 LR,if_pos rfl]
  simp [show(d.bT p t s).has s=true from hs,b.2.1,b.2.2]
 have e1:d.tbl s=d.word s 0:=by unfold tbl;rw [if_pos t0]
 rw [e,e1]
 refine⟨t1,t0,?_,n2,n1⟩
 unfold tbl;rw [if_pos t1];rfl
theorem Good.I5 {d:DB}(h:d.Good)(hS:d.S≤64) {s p i:Int}(hi:0≤i)(he:d.cR s p i=0):d.aZ p 4 s=0∧(d.take p 4 s).hH s i p=0:=by
 unfold cR at he
 have h1:¬d.aR s≠0:=by grind
 have h2:¬d.aX p≠0:=by grind
 have h3:¬256≤i:=by grind
 have h4:¬d.bj p≠0:=by grind
 have h5:d.word (d.tbl s) i=0:=by grind
 have ht:=h.Ct hS h1 h2 h4 (t:=4) (by omega)
 obtain⟨t1,_,t2,_,_⟩:=uW h ht h1
 obtain⟨hp,hs,Us,hr,hf,e⟩:=oO ht
 have LR:s≠p:=by rintro rfl;omega
 refine⟨ht,?_⟩
 have o1:(d.take p 4 s).of p 4 s=true:=by
  rw [e]
  refine oh ⟨hp,?_⟩
  rw [iB hp hs (ay hp).1 LR,if_neg (Ne.symm LR),if_pos rfl];exact⟨rfl,rfl⟩
 have hw:(d.take p 4 s).word ((d.take p 4 s).tbl s) i=0:=by
  rw [t2];unfold word;rw [bH];exact h5
 unfold hH
 rw [t1,o1,hw]
 have hh:(d.take p 4 s).has p=true:=by rw [e];exact hp
 simp [hh];omega
theorem zH {d:DB} {s va:Int}(h:d.eG s va=0):d.bt s va=0:=by
 unfold eG at h
 by_cases h1:d.bt s va=0
 ·exact h1
 ·rw [if_neg h1]at h;split at h<;>omega
theorem Cy {d:DB} {s va:Int}(h:d.bt s va=0):d.cp s=0∧iz va=0∧d.iD s (d.word (d.tbl s) (vaI va))=true∧d.word (d.plP s va) (vaJ va)=0:=by
 unfold bt at h
 have h1:d.dX s va=0:=by
  by_cases h1:d.dX s va=0
  ·exact h1
  ·rw [if_pos h1]at h;exact h
 rw [if_neg (by omega)]at h
 have h2:d.word (d.plP s va) (vaJ va)=0:=by
  by_cases h2:d.word (d.plP s va) (vaJ va)=0
  ·exact h2
  ·rw [if_pos h2]at h;omega
 unfold dX at h1
 have h3:d.cp s=0:=by
  by_cases h3:d.cp s=0
  ·exact h3
  ·rw [if_pos h3]at h1;exact h1
 rw [if_neg (by omega)]at h1
 have h4:iz va=0:=by
  by_cases h4:iz va=0
  ·exact h4
  ·rw [if_pos h4]at h1;omega
 rw [if_neg (by omega)]at h1
 have h5:d.iD s (d.word (d.tbl s) (vaI va))=true:=by
  by_cases h5:d.iD s (d.word (d.tbl s) (vaI va))=true
  ·exact h5
  ·rw [if_neg h5]at h1;omega
 exact⟨h3,h4,h5,h2⟩
theorem E5 {d:DB} {s va:Int}(h1:d.cp s=0)(h2:iz va=0)(h3:d.iD s (d.word (d.tbl s) (vaI va))=true)(h4:d.word (d.plP s va) (vaJ va)=0):d.bt s va=0:=by
 have h5:d.dX s va=0:=by unfold dX;rw [if_neg (by omega),if_neg (by omega),if_pos h3]
 unfold bt;rw [if_neg (by omega),if_neg (by omega)]
theorem Good.IQ {d:DB}(h:d.Good)(hS:d.S≤64) {s p w n:Int}(hn:0≤n)(he:d.cT s p w n=0):fW w=0∧d.aZ p 5 s=0∧d.mem.ku true p false n=0∧((d.take p 5 s).aQ (·.copy true p false n)).dW s (bD w) (Mp.mk true p (paW w) (paX w))=0:=by
 unfold cT at he
 have h1:¬d.aR s≠0:=by grind
 have h2:¬d.aX p≠0:=by grind
 have h3:fq w=0:=by grind
 have h4:¬d.eE n≠0:=by grind
 have h5:¬d.bj p≠0:=by grind
 have h6:d.eG s (bD w)=0:=by grind
 have Wq:fW w=0:=by
  unfold fq at h3
  by_cases h9:fW w=0
  ·exact h9
  ·rw [if_neg h9]at h3;omega
 have ht:=h.Ct hS h1 h2 h5 (t:=5) (by omega)
 obtain⟨t1,_,t2,t3,t4⟩:=uW h ht h1
 obtain⟨hp,hs,Us,hr,hf,e⟩:=oO ht
 have LR:s≠p:=by rintro rfl;omega
 obtain⟨s1,s2,s3,s4⟩:=Cy (zH h6)
 have pf:vh (d.word (d.tbl s) (vaI (bD w)))=0∧d.of (cE (d.word (d.tbl s) (vaI (bD w)))) 4 s=true:=by simpa [iD]using s3
 obtain⟨q1,q2,q3⟩:=g7 pf.2
 have n1:cE (d.word (d.tbl s) (vaI (bD w)))≠p:=by intro e1;rw [e1]at q2;omega
 have n2:cE (d.word (d.tbl s) (vaI (bD w)))≠s:=by intro e1;rw [e1]at q2;omega
 refine⟨Wq,ht,by unfold Mem.ku;rw [show d.mem.has true p=true from hp,yA hn h4];rfl,?_⟩
 have ww:∀x y,x≠p→((d.take p 5 s).aQ (·.copy true p false n)).word x y=d.word x y:=fun x y hx=>by
  show((d.take p 5 s).mem.copy true p false n).bw true x y=_
  rw [Mem.r6 (Ne.symm hx),bH];rfl
 have hS2:((d.take p 5 s).mem.copy true p false n).S=(d.take p 5 s).mem.S:=Mem.lX ..
 have hof:∀x t o,((d.take p 5 s).aQ (·.copy true p false n)).of x t o=(d.take p 5 s).of x t o:=fun x t o=>by
  unfold of is has
  rw [show((d.take p 5 s).aQ (·.copy true p false n)).S=(d.take p 5 s).S from hS2];rfl
 have hT:((d.take p 5 s).aQ (·.copy true p false n)).cp s=0:=by
  have Vp:=t1
  unfold cp at Vp ⊢
  rw [hof,ww s 0 LR]
  unfold has at Vp ⊢
  rw [show((d.take p 5 s).aQ (·.copy true p false n)).S=(d.take p 5 s).S from hS2]
  have e9:(d.take p 5 s).word s 0=d.word s 0:=by unfold word;rw [bH]
  rw [e9]at Vp
  exact Vp
 have hTb:((d.take p 5 s).aQ (·.copy true p false n)).tbl s=d.tbl s:=by
  rw [← t2]
  unfold DB.tbl
  rw [if_pos hT,if_pos t1,ww s 0 LR]
  unfold word;rw [bH]
 have hwT:((d.take p 5 s).aQ (·.copy true p false n)).word (((d.take p 5 s).aQ (·.copy true p false n)).tbl s) (vaI (bD w))=d.word (d.tbl s) (vaI (bD w)):=by rw [hTb,ww _ _ t3]
 have QI:((d.take p 5 s).aQ (·.copy true p false n)).bt s (bD w)=0:=by
  refine E5 hT s2 ?_ ?_
  ·rw [hwT]
   unfold iD
   rw [hof,e,pf.1]
   have:(d.bT p 5 s).of (cE (d.word (d.tbl s) (vaI (bD w)))) 4 s=true:=by
    refine oh ⟨q1,?_⟩
    rw [iB hp hs (ay q1).1 LR,if_neg n2,if_neg n1];exact⟨q2,q3⟩
   rw [this];rfl
  ·unfold plP
   rw [hwT]
   rw [ww _ _ n1];exact s4
 unfold dW
 rw [if_neg (by omega)]
 have p0:=ay hp
 unfold Mp.err
 rw [if_pos ⟨p0.1,by show p<64;omega⟩]
 simp
theorem Good.shares {d:DB}(hI:d.mem.I≤64) {s w n:Int}(hn:0≤n)(he:d.dj s w n=0):fW w=0∧paX w=false∧n<(d.mem.I:Int)∧d.dW s (bD w) (Mp.mk false n (paW w) false)=0:=by
 unfold dj at he
 have h3:fq w=0:=by grind
 have h2:paX w=false:=by grind
 have h4:¬d.eE n≠0:=by grind
 have h6:d.eG s (bD w)=0:=by grind
 have Wq:fW w=0:=by
  unfold fq at h3
  by_cases h9:fW w=0
  ·exact h9
  ·rw [if_neg h9]at h3;omega
 have hi:n<(d.mem.I:Int):=by
  unfold eE at h4
  split at h4
  ·assumption
  ·simp at h4
 refine⟨Wq,h2,hi,?_⟩
 unfold dW
 rw [if_neg (by have:=zH h6;omega)]
 unfold Mp.err
 rw [if_pos ⟨hn,by show n<64;omega⟩]
 rfl
def pre(d:DB)(o:LOp):DB:=if o.k=2 then(d.take o.b 2 o.a).aQ (·.write true o.b 0 o.c)else if o.k=3 then(d.take o.b 4 o.a).add o.a o.c o.b else if o.k=4 then d.cj o.a o.b o.c o.d else d.put o.a (bD o.b) (Mp.mk false o.c (paW o.b) false)
def _root_.Go.Proofs.YtinhphjfnedhgaaGreatDoor.opK(o:LOp):Int:=if o.k=2 then 1 else if o.k=3 then 2 else 4
def _root_.Go.Proofs.YtinhphjfnedhgaaGreatDoor.opA(o:LOp):Int:=if o.k=2 then o.c else if o.k=3 then o.c else o.b
theorem gh {kk:List Int} {d:DB} {o:LOp}(h1:¬o.k=1)(h4:¬o.k=4)(he:d.bh o=0):d.call kk o=(d.pre o).aQ (fun m=>m.msd kk o.a (opK o) (opA o) []):=by
 unfold bh at he
 rw [if_neg h1]at he
 unfold call pre opK opA
 rw [if_neg h1]
 by_cases h2:o.k=2
 ·rw [if_pos h2]at he
  simp only [if_pos h2]
  unfold bp;rw [if_pos he];rfl
 ·rw [if_neg h2]at he
  simp only [if_neg h2]
  by_cases h3:o.k=3
  ·rw [if_pos h3]at he
   simp only [if_pos h3]
   unfold cX;rw [if_pos he]
  ·rw [if_neg h3,if_neg h4]at he
   simp only [if_neg h3,if_neg h4]
   unfold cY;rw [if_pos he]
theorem Bp {kk:List Int} {d:DB} {o:LOp}(h4:o.k=4)(ho:o.Ok)(he:d.bh o=0):d.call kk o=(d.pre o).aQ (fun m=>m.msd kk o.a 3 o.c ((d.pre o).mem.words false o.d.toNat))∧(d.pre o).mem.has false o.d=true:=by
 unfold bh at he
 rw [if_neg (by omega),if_neg (by omega),if_neg (by omega),if_pos h4]at he
 have he':=he
 unfold cT at he'
 have h1:¬d.aR o.a≠0:=by grind
 have h2:¬d.aX o.b≠0:=by grind
 have h3:¬d.bj o.b≠0:=by grind
 have h5:¬d.eE o.d≠0:=by grind
 have hw:=tT h1 h2 h3 (w:=o.c) ho.2.2.2.1 h5
 have e:d.pre o=d.cj o.a o.b o.c o.d:=by
  unfold pre;rw [if_neg (by omega),if_neg (by omega),if_pos h4]
 rw [e]
 refine⟨?_,?_⟩
 ·unfold call
  rw [if_neg (by omega),if_neg (by omega),if_neg (by omega),if_pos h4]
  unfold eo
  rw [if_pos he,hw]
  unfold aQ;rfl
 ·show(d.cj o.a o.b o.c o.d).mem.has false o.d=true
  rw [vX];exact yA ho.2.2.2.1 h5
theorem vg {d:DB} {o:LOp}(G:d.Good)(h1:¬o.k=1)(he:d.bh o=0):Dg.ao ((d.pre o).mem.dgW o.a)=0:=by
 unfold bh at he
 rw [if_neg h1]at he
 have key:d.aR o.a=0∧(d.pre o).mem.dgW o.a=d.mem.dgW o.a:=by
  unfold pre
  by_cases h2:o.k=2
  ·rw [if_pos h2]at he ⊢
   unfold bE at he
   have a1:¬d.aR o.a≠0:=by grind
   exact⟨by omega,yx a1 (by grind) (by grind)⟩
  ·rw [if_neg h2]at he ⊢
   by_cases h3:o.k=3
   ·rw [if_pos h3]at he ⊢
    unfold cR at he
    have a1:¬d.aR o.a≠0:=by grind
    exact⟨by omega,A9 a1 (by grind) (by grind)⟩
   ·rw [if_neg h3]at he ⊢
    by_cases h4:o.k=4
    ·rw [if_pos h4]at he ⊢
     unfold cT at he
     have a1:¬d.aR o.a≠0:=by grind
     exact⟨by omega,Dp a1 (by grind) (by grind)⟩
    ·rw [if_neg h4]at he ⊢
     unfold dj at he
     have a1:¬d.aR o.a≠0:=by grind
     exact⟨by omega,Ba a1⟩
 rw [key.2];exact G.inv _ key.1
theorem oQ {kk:List Int} {m:Mem} {s k a:Int} {l:List U32}(hw:m.Wf)(h:Dg.ao (m.dgW s)=0)(ha:0≤a∧a<4294967296)(hk:k=1∨k=2∨k=3∨k=4)(hl:dm l):(m.wrs s 11 (W26.ws (W26.mk (W26.n (W26.mk (Dg.svL ((Dg.load (m.dgW s)).add kk (opW k a l))))))))=m.msd kk s k a l∧((Dg.load (m.dgW s)).add kk (opW k a l)).Ok:=by
 have F:=Dg.mX (K:=kk) (l:=opW k a l) (Dg.eV (Mem.dO hw s) h) (tv ha hk hl)
 refine⟨?_,F.1⟩
 rw [Dg.xZ F.1]
 unfold Mem.msd;rw [if_pos h]
theorem hand {d:DB} {o:LOp}(G:d.Good)(hS:d.S≤64)(hI:d.mem.I≤64)(ho:o.Ok)(he:d.bh o=0):
 (o.k=1→d.aO o.a o.b=0)∧(o.k=2→d.aZ o.b 2 o.a=0)∧(o.k=3→d.aZ o.b 4 o.a=0∧(d.take o.b 4 o.a).hH o.a o.c o.b=0)∧
 (o.k=4→fW o.c=0∧d.aZ o.b 5 o.a=0∧d.mem.ku true o.b false o.d=0∧((d.take o.b 5 o.a).aQ (·.copy true o.b false o.d)).dW o.a (bD o.c) (Mp.mk true o.b (paW o.c) (paX o.c))=0)∧
 (o.k=5→fW o.b=0∧paX o.b=false∧o.c<(d.mem.I:Int)∧d.dW o.a (bD o.b) (Mp.mk false o.c (paW o.b) false)=0):=by
 obtain⟨a1,a2,a3,a4⟩:=ho
 unfold bh at he
 refine⟨fun h=>?_,fun h=>?_,fun h=>?_,fun h=>?_,fun h=>?_⟩
 ·rw [if_pos h]at he
  unfold bW at he
  have h1:¬d.aX o.a≠0:=by grind
  have h2:¬d.aX o.b≠0:=by grind
  have h3:¬o.a=o.b:=by grind
  have h4:¬d.bj o.a≠0:=by grind
  have h5:¬d.bj o.b≠0:=by grind
  have h6:¬d.aE≥64:=by grind
  rw [eJ h1 h2 h3 h4 h5,if_neg h6]
 ·rw [if_neg (by omega),if_pos h]at he
  unfold bE at he
  exact G.Ct hS (by grind) (by grind) (by grind) (by omega)
 ·rw [if_neg (by omega),if_neg (by omega),if_pos h]at he
  exact G.I5 hS a3.1 he
 ·rw [if_neg (by omega),if_neg (by omega),if_neg (by omega),if_pos h]at he
  exact G.IQ hS a4.1 he
 ·rw [if_neg (by omega),if_neg (by omega),if_neg (by omega),if_neg (by omega)]at he
  exact Good.shares hI a3.1 he
theorem GH:W26.ws (W26.mk (Dg.svL Dg.new))=Dg.new.save:=by
 show(W26.n _).map U32.v=_
 rw [W26.ry (by rfl),Dg.svL_eq Dg.km,List.map_map]
 exact(List.map_congr_left fun x _=>rfl).trans (List.map_id _)
theorem FG {kk:List Int} {d:DB} {o:LOp}(h:d.bh o≠0):d.call kk o=d:=by
 unfold bh at h
 unfold call
 split
 ·rename_i h1;rw [if_pos h1]at h;unfold bx;exact if_neg h
 rename_i h1
 rw [if_neg h1]at h
 split
 ·rename_i h2;rw [if_pos h2]at h;unfold bp;exact if_neg h
 rename_i h2
 rw [if_neg h2]at h
 split
 ·rename_i h3;rw [if_pos h3]at h;unfold cX;exact if_neg h
 rename_i h3
 rw [if_neg h3]at h
 split
 ·rename_i h4;rw [if_pos h4]at h;unfold eo;exact if_neg h
 ·rename_i h4;rw [if_neg h4]at h;unfold cY;exact if_neg h
theorem yH {d:DB} {o:LOp}(h:d.bh o=0):d.aS o.a=0∧(¬o.k=1→(d.entry o.a).typ=1∧(d.entry o.a).state=1):=by
 by_cases h1:o.k=1
 ·refine⟨?_,fun h9=>absurd h1 h9⟩
  unfold bh at h
  rw [if_pos h1]at h
  unfold bW at h
  have h2:¬d.aX o.a≠0:=by grind
  unfold aS;rw [if_pos (dH h2)]
 ·have hb:¬d.aR o.a≠0:=by
   unfold bh at h
   rw [if_neg h1]at h
   unfold bE cR cT dj at h
   grind
  have b:=fu hb
  unfold aS entry
  rw [if_pos b.1,if_pos b.1]
  exact⟨rfl,fun _=>b.2⟩
end DB
end Go.Proofs.YtinhphjfnedhgaaGreatDoor
namespace Go.Proofs.YtinhphjfnedhgaaGreatDoor
open Go.Proofs.Tryz (prog)
open Go Go.RowKit V
open Go.IntKind (i64 u32 u64)
section
set_option maxRecDepth 100000
set_option maxHeartbeats 1000000
attribute [local irreducible] Vc2 VcD
def n6:Ctr Un:=⟨[.one (.any)],[(0,9)],[.ob 9 []],[],fun pv r s K=>Value.pointer (some (Addr.mk (Sv.pD s) 0 none))=pv∧∀(rN:Nat→Nat)(rM:Nat→Nat),K ⟨(.pointer (some (Addr.mk (rN 0) 0 none))),(some (.p (.obj 1 0 0))),[],[(.ob 1 rN s.D.pd),(.ob 0 rM s.D.mem)],[(.l 1 1,.p (.obj 2 0 0))]⟩⟩
theorem B8:LV Un prog 17 n6:=by
 show ∀(pv:Value)(r:Nat→Nat)(s:Sv),∀Q:Ou Un→Prop,(Value.pointer (some (Addr.mk (Sv.pD s) 0 none))=pv∧∀(rN:Nat→Nat)(rM:Nat→Nat),Q ⟨(.pointer (some (Addr.mk (rN 0) 0 none))),(some (.p (.obj 1 0 0))),[],[(.ob 1 rN s.D.pd),(.ob 0 rM s.D.mem)],[(.l 1 1,.p (.obj 2 0 0))]⟩)→∀(X:Nat→Nat→Prop)(w:World),Sat (U:=Un) [(.ob 9 r s)] X w→av (U:=Un) [(.ob 9 r s)] fr0 []→Calls prog 17 #[pv] w (aT (U:=Un) [(.ob 9 r s)] [] X w Q)
 intro pv r s Q hQ X w hs hl
 obtain⟨Po,hQ⟩:=hQ
 subst Po
 obtain⟨r1,rm,X1,KH,Lu,e1,_,_⟩:=kX hs
 rw [e1.1]
 refine(nt r1 s.D.pd rm s.D.mem (fun out=>∃(rN rM:Nat→Nat),out=⟨.pointer (some (Addr.mk (rN 0) 0 none)),some (.p (.obj 2 0 0)),[],[.ob 1 rN s.D.pd,.ob 0 rM s.D.mem],[(.l 2 1,.p (.obj 3 0 0))]⟩) ⟨rfl,fun rN rM=>⟨rN,rM,rfl⟩⟩ X1 w KH Lu).mono ?_
 rintro e w' ⟨out,rs',X',rfl,⟨rN,rM,rfl⟩,JS,hp⟩
 obtain rfl:svO r1 rm s.D.pd s.D.mem []=rs':=Option.some.inj JS
 have NV:rN 1=rM 0:=by
  obtain⟨t,r,s',h1,h2⟩:=hp.kc (.l 2 1) (.p (.obj 3 0 0)) (by simp) (by simp)
  have h1:some (Res.ob (U:=Un) 1 rN s.D.pd)=some (.ob t r s'):=h1
  cases h1
  have h2:some (Value.pointer (some ⟨rM 0,0,none⟩))=some (.pointer (some ⟨rN 1,0,none⟩)):=h2
  simpa using h2.symm
 exact aT.two (Z1:=X' 2) (Z2:=X' 3) (k:=some (.p (.obj 1 0 0))) (kc:= [(.l 1 1,.p (.obj 2 0 0))]) hs (qv hp.ch) (hp.sat.res 2 _ rfl) (hp.sat.res 3 _ rfl) (hp.new 2 (by simp) (by simp)) (hp.new 3 (by simp) (by simp)) (hp.sat.dis 2 3 (show 2<4 by decide) (show 3<4 by decide) (by omega)) (hQ rN rM) rfl (qk ⟨_,_,_,rfl,show some (Value.pointer (some ⟨rM 0,0,none⟩))=some (.pointer (some ⟨rN 1,0,none⟩))by rw [NV]⟩)
def ik:Ctr Un:=⟨[.one (.obj 2 0),.one (.obj 0 0)],[],[.ob 1 [(1,1,0)],.ob 0 [],.ob 1 [(1,3,0)],.ob 0 []],[],fun r E rm m r2 F Ub m2 K=>E.n=m.S∧F.n=m2.S∧E.on m=F.on m2∧K ⟨(.bool true),none,[],[],[]⟩⟩
def qX(r:Nat→Nat)(E:Pd)(rm:Nat→Nat)(m:Mem)(r2:Nat→Nat)(F:Pd)(Ub:Nat→Nat)(m2:Mem)(Q:Ou Un→Prop):Prop:=
 Pd.Ok E→
 Mem.Wf m→
 Pd.Ok F→
 Mem.Wf m2→
 F.n=m2.S∧
 ∀(A:Option Addr)(c:Nat),
 ∀(l:List U32),l=(F.on m2).words.map U32.mk→
 E.n=m.S∧
 ∀(A1:Option Addr)(c1:Nat),
 ∀(l1:List U32),l1=(E.on m).words.map U32.mk→
 split (((((F.on m2).words.map U32.mk).length):Int) !=((((E.on m).words.map U32.mk).length):Int)) (
  Q ⟨(.bool false),none,[],[],[]⟩) (
  ∀i:Int,i=0→
  ∃I:Nat→Int→Prop,(∃m1,I m1 i)∧∀(m1:Nat)(L5:Nat→Value)(i1:Int),I m1 i1→
  split (decide (i1<((((F.on m2).words.map U32.mk).length):Int))) (
   (0≤i1∧i1<(l.length:Int))∧
   (0≤i1∧i1<(l1.length:Int))∧
   split ((l.getD i1.toNat (U32.mk 0)).v !=((l1.getD i1.toNat (U32.mk 0)).v)) (
    Q ⟨(.bool false),none,[],[],[]⟩) (
    ∀i2:Int,i2=(i64.wrap (i1+1))→
    ∃m3,m3<m1∧I m3 i2)) (
   Q ⟨(.bool (m2.same m)),none,[],[],[]⟩))
theorem qY:Vc2 Un prog (bc [(52,fz),(14,aJ),(59,uk)]) [7] Tryz.f19 (.r' (.r' (.r' (.r' (.two (.r' (.two (.node [] (some ⟨[(7,(.one (.int .i64)))],[],[4,7]++upN 17 15,[]⟩) [] [] .leaf .leaf) .leaf)) .leaf))))) [] ik=(∀r (E:Pd) rm (m:Mem) r2 (F:Pd) Ub (m2:Mem),∀Q,(ik.body r E rm m r2 F Ub m2 Q)→qX r E rm m r2 F Ub m2 Q):=by kernel_rfl
theorem qW:LV Un prog 19 ik:=verify Tryz.func19 aa (tb:= [(52,fz),(14,aJ),(59,uk)]) ⟨nk,bO,Ga,trivial⟩ (by kernel_rfl) (qY.mpr fun r E rm m r2 F Ub m2 Q h=>by
 obtain⟨Jl,Jp,JD,h⟩:=h
 exact fun f1 f2 f3 f4=>af ‹_› fun s5 A c=>(by(have OB:(F.on m2).words=(E.on m).words:=by rw [JD]);have NK:m2=m:=(congrArg DB.mem JD).symm;have hS:m.S≤64:=f2.2.1;(have NH:(((F.on m2).words.map U32.mk).length:Int)=1+2*m.S:=by rw [OB,List.length_map,DB.cC];show((1+2*m.S:Nat):Int)=_;omega);exact fun l Lh=>af ‹_› fun s6 A1 c1 l1 Vd=>aK (fun c1=>mG h (by exfalso;simp [OB]at c1)) fun c1=>allEq<| ⟨fun m1 i1=>(m1=((((F.on m2).words.map U32.mk).length:Int) - i1).toNat)∧(0≤i1),⟨_,rfl,(by omega)⟩,fun m1 _ i1 ⟨hm,h1⟩=>aq (fun c2=>af (by subst_vars;exact⟨h1,by assumption⟩) fun s7=>af (by subst_vars;(rw [← OB];exact⟨h1,by assumption⟩)) fun s8=>aK (fun c3=>mG h (by exfalso;subst_vars;simp [OB]at c3)) fun c3=>allEq<| ⟨_,(by rw [ax (by omega)];omega),rfl,(by rw [ax (by omega)];omega)⟩) fun c2=>mG h (by rw [NK];exact(Da m).symm)⟩))
def et:Ctr Un:=⟨[.one (.obj 0 0),.one (.int .i64)],[],[.ob 1 [(1,1,0)],.ob 0 []],[],fun p r E rm m K=>E.n=m.S∧∀(x:W26),x=W26.mk (m.dgW p)→K ⟨(.agg ⟨W26.c x⟩),none,[],[],[]⟩⟩
def xt(p:Int)(r:Nat→Nat)(E:Pd)(rm:Nat→Nat)(m:Mem)(Q:Ou Un→Prop):Prop:=
 Pd.Ok E→
 Mem.Wf m→
 ∀(gv:Nat),
 ∀(s:List U32),s=(W26.n (W26.mk []))→
 ∀(Jj:Nat),
 ∀(s1:List U32),s1=(W26.n (W26.mk []))→
 ∀i:Int,i=0→
 ∃I:Nat→Int→List U32→Prop,(∃m1,I m1 i s1)∧∀(m1:Nat)(J8:Nat→Value)(i1:Int)(s3:List U32),I m1 i1 s3→
 split (decide (i1<26)) (
  ((0≤i1∧i1<(s3.length:Int))∧i1<(26:Int))∧
  True∧
  ∀(s2:List U32),s2=(List.set s3 i1.toNat (U32.mk (m.bw true p (i64.wrap (11+i1)))))→
  ∀i2:Int,i2=(i64.wrap (i1+1))→
  ∃m2,m2<m1∧I m2 i2 s2) (
  (s3.length=26)∧
  (s.length=26)∧
  ∀(s2:List U32),s2=([U32.mk ((s3.getD 0 (U32.mk 0)).v),U32.mk ((s3.getD 1 (U32.mk 0)).v),U32.mk ((s3.getD 2 (U32.mk 0)).v),U32.mk ((s3.getD 3 (U32.mk 0)).v),U32.mk ((s3.getD 4 (U32.mk 0)).v),U32.mk ((s3.getD 5 (U32.mk 0)).v),U32.mk ((s3.getD 6 (U32.mk 0)).v),U32.mk ((s3.getD 7 (U32.mk 0)).v),U32.mk ((s3.getD 8 (U32.mk 0)).v),U32.mk ((s3.getD 9 (U32.mk 0)).v),U32.mk ((s3.getD 10 (U32.mk 0)).v),U32.mk ((s3.getD 11 (U32.mk 0)).v),U32.mk ((s3.getD 12 (U32.mk 0)).v),U32.mk ((s3.getD 13 (U32.mk 0)).v),U32.mk ((s3.getD 14 (U32.mk 0)).v),U32.mk ((s3.getD 15 (U32.mk 0)).v),U32.mk ((s3.getD 16 (U32.mk 0)).v),U32.mk ((s3.getD 17 (U32.mk 0)).v),U32.mk ((s3.getD 18 (U32.mk 0)).v),U32.mk ((s3.getD 19 (U32.mk 0)).v),U32.mk ((s3.getD 20 (U32.mk 0)).v),U32.mk ((s3.getD 21 (U32.mk 0)).v),U32.mk ((s3.getD 22 (U32.mk 0)).v),U32.mk ((s3.getD 23 (U32.mk 0)).v),U32.mk ((s3.getD 24 (U32.mk 0)).v),U32.mk ((s3.getD 25 (U32.mk 0)).v)]:List U32)→
  (s2.length=26)∧
  Q ⟨(.agg ⟨W26.c (W26.mk s2)⟩),none,[],[],[]⟩)
theorem xu:Vc2 Un prog (bc [(14,aJ),(33,nc)]) [6] Tryz.f24 (.r' (.r' (.two (.r' (.two (.node [] (some ⟨[(6,(.one (.int .i64)))],[],upN 6 14,[(3,(.ob 7))]⟩) [] [] .leaf .leaf) .leaf)) .leaf))) [] et=(∀p r (E:Pd) rm (m:Mem),∀Q,(et.body p r E rm m Q)→xt p r E rm m Q):=by kernel_rfl
theorem oC:LV Un prog 24 et:=verify Tryz.func24 aa (tb:= [(14,aJ),(33,nc)]) ⟨bO,Ao,trivial⟩ (by kernel_rfl) (xu.mpr fun p r E rm m Q h=>by
 obtain⟨Jl,h⟩:=h
 exact fun f1 f2 gv s NM Jj s1 MJ=>allEq<| ⟨fun m1 i1 s3=>(m1=(26 - i1).toNat)∧(0≤i1∧i1≤26)∧(s3=(m.dgW p).take i1.toNat++List.replicate (26 - i1.toNat) (U32.mk 0)),⟨_,rfl,(by omega),(by subst_vars;rfl)⟩,fun m1 _ i1 s3 ⟨hm,h1,h3⟩=>aq (fun c1=>af (by rw [h3];simp [Mem.cq];omega) fun s3=>af trivial fun _ s2 JF=>allEq<| ⟨_,(by rw [ax (by omega)];omega),rfl,(by rw [ax (by omega)];omega),(by rw [JF];exact Mem.qt (by omega) h3)⟩) fun c1=>(by(have h4:s3=m.dgW p:=by rw [h3];exact Mem.tO (by omega));exact af (by rw [h4];exact Mem.cq m p) fun s5=>af (by subst_vars;rfl) fun s6 s2 JF=>af (by subst_vars;rfl) fun s7=>(h (W26.mk s2) (by rw [JF,h4];exact congrArg W26.mk (W26.nn (Mem.cq m p)))))⟩)
def il:Ctr Un:=⟨[.one (.obj 0 0),.one (.int .i64),.enc 8],[],[.ob 1 [(1,1,0)],.ob 0 []],[1],fun p f r E rm m K=>E.n=m.S∧W26.Ok f∧K ⟨(.tuple #[]),(some (.t [])),[.ob 0 (m.wrs p 11 (W26.ws f))],[],[]⟩⟩
def EA(p:Int)(f:W26)(r:Nat→Nat)(E:Pd)(rm:Nat→Nat)(m:Mem)(Q:Ou Un→Prop):Prop:=
 Pd.Ok E→
 Mem.Wf m→
 ∀(gv:Nat),
 ∀(s:List U32),s=(W26.n f)→
 ∀i:Int,i=0→
 ∃I:Nat→Int→Mem→Prop,(∃m1,I m1 i m)∧∀(m1:Nat)(Ka:Nat→Value)(i1:Int)(s1:Mem),I m1 i1 s1→
 Mem.Wf s1→
 split (decide (i1<26)) (
  ((0≤i1∧i1<(s.length:Int))∧i1<(26:Int))∧
  (0≤((s.getD i1.toNat (U32.mk 0)).v)∧((s.getD i1.toNat (U32.mk 0)).v)<4294967296)∧
  ∀(m3:Mem),m3=(s1.write true p (i64.wrap (11+i1)) ((s.getD i1.toNat (U32.mk 0)).v))→
  Mem.Wf m3→
  ∀i2:Int,i2=(i64.wrap (i1+1))→
  ∃m2,m2<m1∧I m2 i2 m3) (
  Q ⟨(.tuple #[]),(some (.t [])),[.ob 0 s1],[],[]⟩)
theorem EB:Vc2 Un prog (bc [(14,aJ),(42,dq)]) [6] Tryz.f61 (.r' (.r' (.two (.node [] (some ⟨[(6,(.one (.int .i64)))],[],upN 6 15,[(1,(.ob 0))]⟩) [] [] (.r' (.two (.two (.node [] none [] [(8,[2])] .leaf .leaf) .leaf) .leaf)) .leaf) .leaf))) [] il=(∀p (f:W26) r (E:Pd) rm (m:Mem),∀Q,(il.body p f r E rm m Q)→EA p f r E rm m Q):=by kernel_rfl
theorem xo:LV Un prog 61 il:=verify Tryz.func61 aa (tb:= [(14,aJ),(42,dq)]) ⟨bO,jn,trivial⟩ (by kernel_rfl) (EB.mpr fun p f r E rm m Q h=>by
 obtain⟨Jl,Jp,h⟩:=h
 exact fun f1 f2 gv s NM=>allEq<| ⟨fun m1 i1 s1=>(m1=(26 - i1).toNat)∧(0≤i1∧i1≤26)∧(s1=m.wrs p 11 ((W26.ws f).take i1.toNat)),⟨_,rfl,(by omega),(by rfl)⟩,fun m1 _ i1 s1 ⟨hm,h1,h2⟩=>fun f3=>aq (fun c1=>af (by subst NM;exact⟨⟨h1.1,by show i1<((26:Nat):Int);omega⟩,by omega⟩) fun s4=>af (by subst NM;have h9:=W26.Cm Jp (i:=i1.toNat) (by omega);rwa [W26.td]at h9) fun s5 m3 Ke f6=>allEq<| ⟨_,(by rw [ax (by omega)];omega),rfl,(by rw [ax (by omega)];omega),(by rw [Mem.pj (W26.gn f) (by omega),← h2,W26.td];subst NM;assumption)⟩) fun c1=>au h rfl (ab (uO0 (by rw [h2,List.take_of_length_le];rw [W26.gn];omega)) rfl) rfl⟩)
def ig:Ctr Un:=⟨[.one (.obj 0 0),.enc 5],[],[.ob 1 [(1,1,0)],.ob 0 []],[1],fun o r E rm m K=>E.n=m.S∧¬o.k=4∧K ⟨(.agg #[(.int .i64 (opK o)),(.int .u32 (opA o)),(.slice none 0 0)]),none,[.ob 0 m],[],[]⟩⟩
def zd(o:LOp)(r:Nat→Nat)(E:Pd)(rm:Nat→Nat)(m:Mem)(Q:Ou Un→Prop):Prop:=
 Pd.Ok E→
 Mem.Wf m→
 ∀(gv:Nat),
 ∀(Jj:Nat),
 ∀x9:Bool,x9=((o.k:Int)==2)→
 split x9 (
  Q ⟨(.agg #[(.int .i64 1),(.int .u32 o.c),(.slice none 0 0)]),none,[.ob 0 m],[],[]⟩) (
  ∀Li:Bool,Li=((o.k:Int)==3)→
  split Li (
   Q ⟨(.agg #[(.int .i64 2),(.int .u32 o.c),(.slice none 0 0)]),none,[.ob 0 m],[],[]⟩) (
   ∀Kl:Bool,Kl=((o.k:Int)==4)→
   split Kl (
    split (m.has false (i64.wrap o.d)) (
     ∀(A:Option Addr),
     ∀(m1:Mem),m1=m→
     Mem.Wf m1→
     ∀(l:List U32),l=(m.words false (i64.wrap o.d).toNat)→
     (some (.slice A l.length 1024):Option Value)=some (.slice A ((m.words false (i64.wrap o.d).toNat).length) 1024)∧
     Q ⟨(.agg #[(.int .i64 3),(.int .u32 o.c),(.slice A ((m.words false (i64.wrap o.d).toNat).length) 1024)]),(some (.ag [none,none,none])),[.ob 0 m1],[],[]⟩) (
     ∀(m1:Mem),m1=m→
     Mem.Wf m1→
     Q ⟨(.agg #[(.int .i64 3),(.int .u32 o.c),(.slice none 0 0)]),none,[.ob 0 m1],[],[]⟩)) (
    Q ⟨(.agg #[(.int .i64 4),(.int .u32 o.b),(.slice none 0 0)]),none,[.ob 0 m],[],[]⟩)))
theorem ze:Vc2 Un prog (bc [(14,aJ),(69,jQ)]) [9,14,19] Tryz.f22 (.r' (.two (.r' (.two (.r' (.r' (.r' (.r' (.r' (.two (.two (.node [] none [] [(3,[2])] .leaf .leaf) .leaf) .leaf)))))) .leaf)) .leaf)) [] ig=(∀(o:LOp) r (E:Pd) rm (m:Mem),∀Q,(ig.body o r E rm m Q)→zd o r E rm m Q):=by kernel_rfl
section
attribute [local grind=] opK opA
theorem zc:LV Un prog 22 ig:=verify Tryz.func22 aa (tb:= [(14,aJ),(69,jQ)]) ⟨bO,uo,trivial⟩ (by kernel_rfl) (ze.mpr fun o r E rm m Q h=>by
 obtain⟨Jl,Jp,h⟩:=h
 exact fun f1 f2 gv Jj=>allEq<| aB (fun c1=>au h (congrArg (fun l=>Value.agg (List.toArray l)) (ab (cr (by grind)) (ab (bQ (by grind)) (ab rfl rfl)))) rfl rfl) fun c1=>allEq<| aB (fun c2=>au h (congrArg (fun l=>Value.agg (List.toArray l)) (ab (cr (by grind)) (ab (bQ (by grind)) (ab rfl rfl)))) rfl rfl) fun c2=>allEq<| aB (fun c3=>(by exfalso;grind)) fun c3=>au h (congrArg (fun l=>Value.agg (List.toArray l)) (ab (cr (by grind)) (ab (bQ (by grind)) (ab rfl rfl)))) rfl rfl)
end
def ij:Ctr Un:=⟨[.one (.obj 0 0),.enc 5],[],[.ob 1 [(1,1,0)],.ob 0 []],[1],fun o r E rm m K=>E.n=m.S∧o.k=4∧LOp.Ok o∧m.has false o.d=true∧∀(A:Option Addr),K ⟨(.agg #[(.int .i64 3),(.int .u32 o.c),(.slice A ((m.words false o.d.toNat).length) 1024)]),(some (.ag [none,none,(some (.sl 2 0))])),[.ob 0 m],[(.lst 1 true 29 A 1024 (m.words false o.d.toNat))],[]⟩⟩
def zg(o:LOp)(r:Nat→Nat)(E:Pd)(rm:Nat→Nat)(m:Mem)(Q:Ou Un→Prop):Prop:=
 Pd.Ok E→
 Mem.Wf m→
 ∀(gv:Nat),
 ∀(Jj:Nat),
 ∀x9:Bool,x9=((o.k:Int)==2)→
 split x9 (
  Q ⟨(.agg #[(.int .i64 1),(.int .u32 o.c),(.slice none 0 0)]),none,[.ob 0 m],[],[]⟩) (
  ∀Li:Bool,Li=((o.k:Int)==3)→
  split Li (
   Q ⟨(.agg #[(.int .i64 2),(.int .u32 o.c),(.slice none 0 0)]),none,[.ob 0 m],[],[]⟩) (
   ∀Kl:Bool,Kl=((o.k:Int)==4)→
   split Kl (
    split (m.has false (i64.wrap o.d)) (
     ∀(A:Option Addr),
     ∀(m1:Mem),m1=m→
     Mem.Wf m1→
     ∀(l:List U32),l=(m.words false (i64.wrap o.d).toNat)→
     (some (.slice A l.length 1024):Option Value)=some (.slice A ((m.words false (i64.wrap o.d).toNat).length) 1024)∧
     Q ⟨(.agg #[(.int .i64 3),(.int .u32 o.c),(.slice A ((m.words false (i64.wrap o.d).toNat).length) 1024)]),(some (.ag [none,none,(some (.sl 2 0))])),[.ob 0 m1],[(.lst 1 true 29 A 1024 l)],[]⟩) (
     ∀(m1:Mem),m1=m→
     Mem.Wf m1→
     Q ⟨(.agg #[(.int .i64 3),(.int .u32 o.c),(.slice none 0 0)]),none,[.ob 0 m1],[],[]⟩)) (
    Q ⟨(.agg #[(.int .i64 4),(.int .u32 o.b),(.slice none 0 0)]),none,[.ob 0 m],[],[]⟩)))
theorem zh:Vc2 Un prog (bc [(14,aJ),(69,jQ)]) [9,14,19] Tryz.f22 (.r' (.two (.r' (.two (.r' (.r' (.r' (.r' (.r' (.two (.two (.node [] none [] [(3,[2])] .leaf .leaf) .leaf) .leaf)))))) .leaf)) .leaf)) [1000000,4] ij=(∀(o:LOp) r (E:Pd) rm (m:Mem),∀Q,(ij.body o r E rm m Q)→zg o r E rm m Q):=by kernel_rfl
theorem zf:LV Un prog 22 ij:=verify Tryz.func22 aa (tb:= [(14,aJ),(69,jQ)]) ⟨bO,uo,trivial⟩ (by kernel_rfl) (zh.mpr fun o r E rm m Q h=>by
 obtain⟨Jl,Jp,JD,NI,h⟩:=h
 exact fun f1 f2=>(by(have OB:i64.wrap o.d=o.d:=ax (by have:=JD.2.2.2;omega));rw [OB];exact fun gv Jj=>allEq<| aB (fun c1=>(by exfalso;grind)) fun c1=>allEq<| aB (fun c2=>(by exfalso;grind)) fun c2=>allEq<| aB (fun c3=>ae (fun c4 A m1 Jg f3 l Lh=>af (by(subst_vars;rfl)) fun s4=>au (h A) (congrArg (fun l=>Value.agg (List.toArray l)) (ab rfl (ab rfl (ab (by grind) rfl)))) (ab (uO0 (by grind)) rfl) (ab (congrArg (Res.lst (U:=Un) 1 true 29 _ _) (by grind)) rfl)) fun c4=>(by exfalso;grind)) fun c3=>(by exfalso;grind)))
def kK:Ctr Un:=⟨[.agg [.int .i64,.int .i64]],[],[],[],fun s i K=>split (okM s i) (∀(rP:Nat→Nat)(rN:Nat→Nat),K ⟨(.tuple #[(.pointer (some (Addr.mk (rP 0) 0 none))),(.bool true)]),(some (.t [(some (.obj 0 0 0)),none])),[],[(.ob 1 rP ((DB.new (Mem.fresh s.toNat i.toNat)).pd)),(.ob 0 rN ((Mem.fresh s.toNat i.toNat).dD s.toNat))],[(.l 0 1,.p (.obj 1 0 0))]⟩) (K ⟨(.tuple #[(.pointer none),(.bool true)]),(some (.t [none,none])),[],[],[]⟩)⟩
def xq(s:Int)(i:Int)(Q:Ou Un→Prop):Prop:=
 ∀(gv:Nat),
 split (okM s i) (
  ∀(rN:Nat→Nat),
  ∀(m:Mem),m=(Mem.fresh s.toNat i.toNat)→
  Mem.Wf m→
  ∃J:Bool→Prop,(
   split (decide (s≥1)) (
    split (decide (s≤64)) (
     split (decide (i≥1)) (
      ∀may:Bool,may=(decide ((i:Int)≤64))→
      J may) (
      ∀may:Bool,may=false→
      J may)) (
     ∀may:Bool,may=false→
     J may)) (
    ∀may:Bool,may=false→
    J may))∧∀(Ka:Nat→Value)(may:Bool),J may→
  split (!may) (
   ∃J1:Option Addr→Bool→Prop,(
    J1 none false)∧∀(J8:Nat→Value)(x2:Option Addr)(x3:Bool),J1 x2 x3→
   Q ⟨(.tuple #[(.pointer x2),(.bool x3)]),(some (.t [none,none])),[],[],[]⟩) (
   ∃J1:Bool→Prop,(
    J1 false)∧∀(J8:Nat→Value)(MX:Bool),J1 MX→
   split MX (
    Q ⟨(.tuple #[(.pointer none),(.bool false)]),(some (.t [none,none])),[],[],[]⟩) (
    1≤m.S∧
    ∀(M1:Nat→Nat),
    ∀(m1:Mem),m1=(m.dD m.S)→
    Mem.Wf m1→
    ∀(E:Pd),E=(DB.new m).pd→
    Pd.Ok E→
    Q ⟨(.tuple #[(.pointer (some (Addr.mk (M1 0) 0 none))),(.bool true)]),(some (.t [(some (.obj 0 0 0)),none])),[],[(.ob 1 M1 E),(.ob 0 rN m1)],[(.l 0 1,.p (.obj 1 0 0))]⟩))) (
  ∃J:Bool→Prop,(
   split (decide (s≥1)) (
    split (decide (s≤64)) (
     split (decide (i≥1)) (
      ∀may:Bool,may=(decide ((i:Int)≤64))→
      J may) (
      ∀may:Bool,may=false→
      J may)) (
     ∀may:Bool,may=false→
     J may)) (
    ∀may:Bool,may=false→
    J may))∧∀(Ka:Nat→Value)(may:Bool),J may→
  split (!may) (
   ∃J1:Option Addr→Bool→Prop,(
    J1 none true)∧∀(J8:Nat→Value)(x2:Option Addr)(x3:Bool),J1 x2 x3→
   Q ⟨(.tuple #[(.pointer x2),(.bool x3)]),(some (.t [none,none])),[],[],[]⟩) (
   ∃J1:Bool→Prop,(
    J1 true)∧∀(J8:Nat→Value)(MX:Bool),J1 MX→
   split MX (
    Q ⟨(.tuple #[(.pointer none),(.bool false)]),(some (.t [none,none])),[],[],[]⟩) (
    False)))
theorem xr:Vc2 Un prog (bc [(27,ur),(29,rb)]) [6] Tryz.f16 (.r' (.r' (.two (.node [] (some ⟨[(6,(.one .bool))],[],[6]++upN 16 18,[]⟩) [] [] .leaf .leaf) (.two (.r' (.two (.two (.node [] (some ⟨[(2,(.one .ptr)),(3,(.one .bool))],[],[2,3]++upN 36 6,[]⟩) [] [] .leaf .leaf) .leaf) .leaf)) (.two (.two (.node [] (some ⟨[(47,(.one .bool))],[],upN 42 6,[]⟩) [] [] .leaf .leaf) .leaf) .leaf))))) [1000000,2,1] kK=(∀s i,∀Q,(kK.body s i Q)→xq s i Q):=by kernel_rfl
theorem xp:LV Un prog 16 kK:=verify Tryz.func16 aa (tb:= [(27,ur),(29,rb)]) ⟨Gd,EI,trivial⟩ (by kernel_rfl) (xr.mpr fun s i Q h gv=>ae (fun c1=>(by have hm:=zU c1;exact fun rN m VD f1=>gA ((decide ((s:Int)≥1)) && ((decide ((s:Int)≤64)) && ((decide ((i:Int)≥1)) && (decide ((i:Int)≤64))))) (ae (fun c2=>ae (fun c3=>ae (fun c4=>allEq<| (by grind)) fun c4=>allEq<| (by grind)) fun c3=>allEq<| (by grind)) fun c2=>allEq<| (by grind))<| cQ (fun c5=>(by exfalso;simp at c5;omega)) fun c5=>gA false ((by grind))<| kY<| af (by subst_vars;show 1≤s.toNat;omega) fun s2 M1 m1 Jg f3 E OO f4=>au ((bK h ‹_›) M1 rN) rfl rfl (ab (rO1 (by subst_vars;rfl)) (ab (rO0 (by subst_vars;rfl)) rfl)))) fun c1=>(by have hm:=zV c1;exact gA ((decide ((s:Int)≥1)) && ((decide ((s:Int)≤64)) && ((decide ((i:Int)≥1)) && (decide ((i:Int)≤64))))) (ae (fun c6=>ae (fun c7=>ae (fun c8=>allEq<| (by grind)) fun c8=>allEq<| (by grind)) fun c7=>allEq<| (by grind)) fun c6=>allEq<| (by grind))<| cQ (fun c9=>dup2<| au (bL h ‹_›) (congrArg (fun l=>Value.tuple (List.toArray l)) (ab rfl (ab (eQb (by grind)) rfl))) rfl rfl) fun c9=>(by exfalso;simp at c9;omega)))
def jT:Ctr Un:=⟨[.one (.obj 0 0),.enc 5],[(2,5)],[.ob 1 [(1,1,0)],.ob 0 [],.ob 5 []],[0,1],fun o r E rm m rk kk K=>E.n=m.S∧LOp.Ok o∧¬o.k=4∧DB.Good (E.on m)∧(E.on m).bh o=0∧(1≤o.k∧o.k≤5)∧K ⟨(.bool true),none,[.ob 1 ((DB.call kk (E.on m) o).pd),.ob 0 ((DB.call kk (E.on m) o).mem)],[],[]⟩⟩
def uA(o:LOp)(r:Nat→Nat)(E:Pd)(rm:Nat→Nat)(m:Mem)(rk:Nat→Nat)(kk:List Int)(Q:Ou Un→Prop):Prop:=
 Pd.Ok E→
 Mem.Wf m→
 ∀(gv:Nat),
 ∀s:Int,s=(i64.wrap o.a)→
 ∀p:Int,p=(i64.wrap o.b)→
 split (o.k==1) (
  E.n=m.S∧
  ∀(E1:Pd),E1=((E.on m).aM s p).pd→
  Pd.Ok E1→
  ∀(m1:Mem),m1=((E.on m).aM s p).mem→
  Mem.Wf m1→
  E1.n=m1.S∧
  W26.Ok (W26.mk (Dg.svL Dg.new))∧
  ∀(m2:Mem),m2=(m1.wrs s 11 (W26.ws (W26.mk (Dg.svL Dg.new))))→
  Mem.Wf m2→
  Q ⟨(.bool (((E.on m).aO s p)==0)),none,[.ob 1 E1,.ob 0 m2],[],[]⟩) (
  (0≤o.c∧o.c<4294967296)∧
  ∀(Jj:Nat),
  ∀ok:Bool,ok=true→
  ∃J:Bool→Pd→Mem→Int→Bool→Bool→Prop,(
   ∀SU:Bool,SU=((o.k:Int)==2)→
   split SU (
    E.n=m.S∧
    ∀(E1:Pd),E1=((E.on m).take p 2 s).pd→
    Pd.Ok E1→
    ∀(m1:Mem),m1=((E.on m).take p 2 s).mem→
    Mem.Wf m1→
    ∀Jk:Bool,Jk=((((E.on m).aZ p 2 s):Int)==0)→
    (0≤o.c∧o.c<4294967296)∧
    ∀(m2:Mem),m2=(m1.write true p 0 o.c)→
    Mem.Wf m2→
    J Jk E1 m2 (bD o.c) (paW o.c) (paX o.c)) (
    ∀Mq:Bool,Mq=((o.k:Int)==3)→
    split Mq (
     ∃J1:Bool→Pd→Mem→Prop,(
      E.n=m.S∧
      ∀(E1:Pd),E1=((E.on m).take p 4 s).pd→
      Pd.Ok E1→
      ∀(m1:Mem),m1=((E.on m).take p 4 s).mem→
      Mem.Wf m1→
      split (((E.on m).aZ p 4 s)==0) (
       E1.n=m1.S∧
       ∀(E2:Pd),E2=((E1.on m1).add s (i64.wrap o.c) p).pd→
       Pd.Ok E2→
       ∀(m2:Mem),m2=((E1.on m1).add s (i64.wrap o.c) p).mem→
       Mem.Wf m2→
       ∀Jk:Bool,Jk=((((E1.on m1).hH s (i64.wrap o.c) p):Int)==0)→
       J1 Jk E2 m2) (
       ∀Jk:Bool,Jk=false→
       J1 Jk E1 m1))∧∀(J8:Nat→Value)(Jk:Bool)(s0:Pd)(s1:Mem),J1 Jk s0 s1→
     Pd.Ok s0→
     Mem.Wf s1→
     J Jk s0 s1 (bD o.c) (paW o.c) (paX o.c)) (
     ∀Nu:Bool,Nu=((o.k:Int)==4)→
     split Nu (
      ∃J1:Bool→Pd→Mem→Prop,(
       split ((fW o.c)==0) (
        E.n=m.S∧
        ∀(E1:Pd),E1=((E.on m).take p 5 s).pd→
        Pd.Ok E1→
        ∀(m1:Mem),m1=((E.on m).take p 5 s).mem→
        Mem.Wf m1→
        ∀Jk:Bool,Jk=((((E.on m).aZ p 5 s):Int)==0)→
        J1 Jk E1 m1) (
        ∀Jk:Bool,Jk=false→
        J1 Jk E m))∧∀(J8:Nat→Value)(Jk:Bool)(s0:Pd)(s1:Mem),J1 Jk s0 s1→
      Pd.Ok s0→
      Mem.Wf s1→
      ∃J2:Bool→Mem→Prop,(
       split Jk (
        ∀(m1:Mem),m1=(s1.copy true p false (i64.wrap o.d))→
        Mem.Wf m1→
        ∀J4:Bool,J4=(((s1.ku true p false (i64.wrap o.d)):Int)==0)→
        J2 J4 m1) (
        ∀J4:Bool,J4=false→
        J2 J4 s1))∧∀(Nj:Nat→Value)(J4:Bool)(JO:Mem),J2 J4 JO→
      Mem.Wf JO→
      ∃J3:Bool→Pd→Mem→Prop,(
       split J4 (
        s0.n=JO.S∧
        (0≤(bD o.c)∧(bD o.c)<4294967296)∧
        ∀(E1:Pd),E1=((s0.on JO).put s (bD o.c) (Mp.mk true p (paW o.c) (paX o.c))).pd→
        Pd.Ok E1→
        ∀(m1:Mem),m1=((s0.on JO).put s (bD o.c) (Mp.mk true p (paW o.c) (paX o.c))).mem→
        Mem.Wf m1→
        ∀LZ:Bool,LZ=((((s0.on JO).dW s (bD o.c) (Mp.mk true p (paW o.c) (paX o.c))):Int)==0)→
        J3 LZ E1 m1) (
        ∀LZ:Bool,LZ=false→
        J3 LZ s0 JO))∧∀(J9:Nat→Value)(LZ:Bool)(Oz:Pd)(MQ:Mem),J3 LZ Oz MQ→
      Pd.Ok Oz→
      Mem.Wf MQ→
      J LZ Oz MQ (bD o.c) (paW o.c) (paX o.c)) (
      ∀Ov:Bool,Ov=((o.k:Int)==5)→
      split Ov (
       (0≤o.b∧o.b<4294967296)∧
       ∃J1:Bool→Prop,(
        split ((fW o.b)==0) (
         split (!(paX o.b)) (
          ∀Jk:Bool,Jk=(decide ((i64.wrap o.c:Int)<(m.I:Int)))→
          J1 Jk) (
          ∀Jk:Bool,Jk=false→
          J1 Jk)) (
         ∀Jk:Bool,Jk=false→
         J1 Jk))∧∀(J8:Nat→Value)(Jk:Bool),J1 Jk→
       ∃J2:Bool→Pd→Mem→Prop,(
        split Jk (
         E.n=m.S∧
         (0≤(bD o.b)∧(bD o.b)<4294967296)∧
         ∀(E1:Pd),E1=((E.on m).put s (bD o.b) (Mp.mk false (i64.wrap o.c) (paW o.b) false)).pd→
         Pd.Ok E1→
         ∀(m1:Mem),m1=((E.on m).put s (bD o.b) (Mp.mk false (i64.wrap o.c) (paW o.b) false)).mem→
         Mem.Wf m1→
         ∀J4:Bool,J4=((((E.on m).dW s (bD o.b) (Mp.mk false (i64.wrap o.c) (paW o.b) false)):Int)==0)→
         J2 J4 E1 m1) (
         ∀J4:Bool,J4=false→
         J2 J4 E m))∧∀(Nj:Nat→Value)(J4:Bool)(s0:Pd)(s1:Mem),J2 J4 s0 s1→
       Pd.Ok s0→
       Mem.Wf s1→
       J J4 s0 s1 (bD o.b) (paW o.b) (paX o.b)) (
       J ok E m (bD o.c) (paW o.c) (paX o.c))))))∧∀(J8:Nat→Value)(Jk:Bool)(s0:Pd)(s1:Mem) Qn (Qm:Bool)(Ql:Bool),J Jk s0 s1 Qn Qm Ql→
  Pd.Ok s0→
  Mem.Wf s1→
  (s0.n=s1.S∧
   ∀(x:W26),
   x=W26.mk (s1.dgW s)→
   (s0.n=s1.S∧
    ¬o.k=4∧
    ∀(m1:Mem),m1=s1→
    Mem.Wf m1→
    (W26.Ok (W26.mk (W26.n x))∧
     (0≤(opA o)∧(opA o)<4294967296)∧
     ((opK o)=1∨(opK o)=2∨(opK o)=4)∧
     split (decide ((Dg.ao (W26.n (W26.mk (W26.n x))))=0)) (
      ∀(Ju:Nat),
      ∀(s2:List U32),s2=(W26.n (W26.mk []))→
      (s2.length=26)∧
      ∀(s3:List U32),s3=(Dg.svL ((Dg.load (W26.n (W26.mk (W26.n x)))).add kk (opW (opK o) (opA o) [])))→
      (s3.length=26)∧
      s0.n=m1.S∧
      W26.Ok (W26.mk (W26.n (W26.mk s3)))∧
      ∀(m2:Mem),m2=(m1.wrs s 11 (W26.ws (W26.mk (W26.n (W26.mk s3)))))→
      Mem.Wf m2→
      ∃J1:Bool→Prop,(
       split Jk (
        J1 true) (
        J1 false))∧∀(J9:Nat→Value)(x4:Bool),J1 x4→
      Q ⟨(.bool x4),none,[.ob 1 s0,.ob 0 m2],[],[]⟩) (
      ∀(Ju:Nat),
      ∀(s2:List U32),s2=(W26.n (W26.mk []))→
      (s2.length=26)∧
      ∀(s3:List U32),s3=(W26.n (W26.mk []))→
      (s3.length=26)∧
      s0.n=m1.S∧
      W26.Ok (W26.mk (W26.n (W26.mk s3)))∧
      ∀(m2:Mem),m2=(m1.wrs s 11 (W26.ws (W26.mk (W26.n (W26.mk s3)))))→
      Mem.Wf m2→
      ∃J1:Bool→Prop,(
       split Jk (
        J1 ((Dg.ao (W26.n (W26.mk (W26.n x))))==0)) (
        J1 false))∧∀(J9:Nat→Value)(x4:Bool),J1 x4→
      Q ⟨(.bool x4),none,[.ob 1 s0,.ob 0 m2],[],[]⟩))∧
    (∀(Ju:Nat),
     ∀(s2:List U32),s2=(W26.n (W26.mk []))→
     W26.Ok (W26.mk (W26.n x))∧
     (0≤(opA o)∧(opA o)<4294967296)∧
     ((opK o)=1∨(opK o)=2∨(opK o)=4)∧
     split (decide ((Dg.ao (W26.n (W26.mk (W26.n x))))=0)) (
      (s2.length=26)∧
      ∀(s3:List U32),s3=(Dg.svL ((Dg.load (W26.n (W26.mk (W26.n x)))).add kk (opW (opK o) (opA o) [])))→
      (s3.length=26)∧
      s0.n=m1.S∧
      W26.Ok (W26.mk (W26.n (W26.mk s3)))∧
      ∀(m2:Mem),m2=(m1.wrs s 11 (W26.ws (W26.mk (W26.n (W26.mk s3)))))→
      Mem.Wf m2→
      ∃J1:Bool→Prop,(
       split Jk (
        J1 true) (
        J1 false))∧∀(J9:Nat→Value)(x4:Bool),J1 x4→
      Q ⟨(.bool x4),none,[.ob 1 s0,.ob 0 m2],[],[]⟩) (
      (s2.length=26)∧
      ∀(s3:List U32),s3=(W26.n (W26.mk []))→
      (s3.length=26)∧
      s0.n=m1.S∧
      W26.Ok (W26.mk (W26.n (W26.mk s3)))∧
      ∀(m2:Mem),m2=(m1.wrs s 11 (W26.ws (W26.mk (W26.n (W26.mk s3)))))→
      Mem.Wf m2→
      ∃J1:Bool→Prop,(
       split Jk (
        J1 ((Dg.ao (W26.n (W26.mk (W26.n x))))==0)) (
        J1 false))∧∀(J9:Nat→Value)(x4:Bool),J1 x4→
      Q ⟨(.bool x4),none,[.ob 1 s0,.ob 0 m2],[],[]⟩)))∧
   (∀(Ju:Nat),
    ∀(s2:List U32),s2=(W26.n (W26.mk []))→
    s0.n=s1.S∧
    ¬o.k=4∧
    ∀(m1:Mem),m1=s1→
    Mem.Wf m1→
    W26.Ok (W26.mk (W26.n x))∧
    (0≤(opA o)∧(opA o)<4294967296)∧
    ((opK o)=1∨(opK o)=2∨(opK o)=4)∧
    split (decide ((Dg.ao (W26.n (W26.mk (W26.n x))))=0)) (
     (s2.length=26)∧
     ∀(s3:List U32),s3=(Dg.svL ((Dg.load (W26.n (W26.mk (W26.n x)))).add kk (opW (opK o) (opA o) [])))→
     (s3.length=26)∧
     s0.n=m1.S∧
     W26.Ok (W26.mk (W26.n (W26.mk s3)))∧
     ∀(m2:Mem),m2=(m1.wrs s 11 (W26.ws (W26.mk (W26.n (W26.mk s3)))))→
     Mem.Wf m2→
     ∃J1:Bool→Prop,(
      split Jk (
       J1 true) (
       J1 false))∧∀(J9:Nat→Value)(x4:Bool),J1 x4→
     Q ⟨(.bool x4),none,[.ob 1 s0,.ob 0 m2],[],[]⟩) (
     (s2.length=26)∧
     ∀(s3:List U32),s3=(W26.n (W26.mk []))→
     (s3.length=26)∧
     s0.n=m1.S∧
     W26.Ok (W26.mk (W26.n (W26.mk s3)))∧
     ∀(m2:Mem),m2=(m1.wrs s 11 (W26.ws (W26.mk (W26.n (W26.mk s3)))))→
     Mem.Wf m2→
     ∃J1:Bool→Prop,(
      split Jk (
       J1 ((Dg.ao (W26.n (W26.mk (W26.n x))))==0)) (
       J1 false))∧∀(J9:Nat→Value)(x4:Bool),J1 x4→
     Q ⟨(.bool x4),none,[.ob 1 s0,.ob 0 m2],[],[]⟩)))∧
  (∀(Ju:Nat),
   ∀(s2:List U32),s2=(W26.n (W26.mk []))→
   s0.n=s1.S∧
   ∀(x:W26),
   x=W26.mk (s1.dgW s)→
   s0.n=s1.S∧
   ¬o.k=4∧
   ∀(m1:Mem),m1=s1→
   Mem.Wf m1→
   W26.Ok (W26.mk (W26.n x))∧
   (0≤(opA o)∧(opA o)<4294967296)∧
   ((opK o)=1∨(opK o)=2∨(opK o)=4)∧
   split (decide ((Dg.ao (W26.n (W26.mk (W26.n x))))=0)) (
    (s2.length=26)∧
    ∀(s3:List U32),s3=(Dg.svL ((Dg.load (W26.n (W26.mk (W26.n x)))).add kk (opW (opK o) (opA o) [])))→
    (s3.length=26)∧
    s0.n=m1.S∧
    W26.Ok (W26.mk (W26.n (W26.mk s3)))∧
    ∀(m2:Mem),m2=(m1.wrs s 11 (W26.ws (W26.mk (W26.n (W26.mk s3)))))→
    Mem.Wf m2→
    ∃J1:Bool→Prop,(
     split Jk (
      J1 true) (
      J1 false))∧∀(J9:Nat→Value)(x4:Bool),J1 x4→
    Q ⟨(.bool x4),none,[.ob 1 s0,.ob 0 m2],[],[]⟩) (
    (s2.length=26)∧
    ∀(s3:List U32),s3=(W26.n (W26.mk []))→
    (s3.length=26)∧
    s0.n=m1.S∧
    W26.Ok (W26.mk (W26.n (W26.mk s3)))∧
    ∀(m2:Mem),m2=(m1.wrs s 11 (W26.ws (W26.mk (W26.n (W26.mk s3)))))→
    Mem.Wf m2→
    ∃J1:Bool→Prop,(
     split Jk (
      J1 ((Dg.ao (W26.n (W26.mk (W26.n x))))==0)) (
      J1 false))∧∀(J9:Nat→Value)(x4:Bool),J1 x4→
    Q ⟨(.bool x4),none,[.ob 1 s0,.ob 0 m2],[],[]⟩)))
theorem uB:Vc2 Un prog (bc [(60,dB),(62,fv),(61,il),(63,fy),(64,fA),(14,aJ),(42,dq),(65,cU),(66,jR),(67,ib),(55,er),(24,et),(22,ig),(68,eO)]) [5,6,10,40,54,71,111] Tryz.f20 (.r' (.r' (.r' (.r' (.r' (.two (.r' (.node [] (some ⟨[(10,(.one .bool))],[],[9,10]++upN 40 111,[(0,(.ob 1)),(1,(.ob 0)),(4,(.blk [(.v (.int .u32)),(.v .bool),(.v .bool)]))]⟩) [] [] (.r' (.two (.r' (.node [] none [] [(5,[3])] .leaf .leaf)) (.r' (.two (.node [] (some ⟨[(10,(.one .bool))],[],[10]++upN 56 15,[(0,(.ob 1)),(1,(.ob 0))]⟩) [] [] .leaf .leaf) (.r' (.two (.two (.node [] (some ⟨[(10,(.one .bool))],[],[10]++upN 73 9,[(0,(.ob 1)),(1,(.ob 0))]⟩) [] [] .leaf .leaf) (.two (.node [] (some ⟨[(10,(.one .bool))],[],[10]++upN 82 13,[(1,(.ob 0))]⟩) [] [(7,[3])] .leaf .leaf) (.node [] (some ⟨[(10,(.one .bool))],[],[10]++upN 95 16,[(0,(.ob 1)),(1,(.ob 0))]⟩) [] [] .leaf .leaf))) (.r' (.two (.r' (.two (.node [] (some ⟨[(10,(.one .bool))],[],[10]++upN 119 16,[]⟩) [] [(4,[4]),(9,[3])] .leaf .leaf) (.node [] (some ⟨[(10,(.one .bool))],[],[10]++upN 135 16,[(0,(.ob 1)),(1,(.ob 0))]⟩) [] [] .leaf .leaf))) .leaf)))))))) .leaf)) (.two (.node [] none [] [(4,[3])] .leaf .leaf) (.r' (.two (.node [] (some ⟨[(4,(.one .bool))],[],[4]++upN 165 5,[]⟩) [] [] .leaf .leaf) .leaf))))))))) [] jT=(∀(o:LOp) r (E:Pd) rm (m:Mem) rk (kk:List Int),∀Q,(jT.body o r E rm m rk kk Q)→uA o r E rm m rk kk Q):=by kernel_rfl
theorem uz:LV Un prog 20 jT:=verify Tryz.func20 aa (tb:= [(60,dB),(62,fv),(61,il),(63,fy),(64,fA),(14,aJ),(42,dq),(65,cU),(66,jR),(67,ib),(55,er),(24,et),(22,ig),(68,eO)]) ⟨jW,qM,xo,qR,nm,bO,jn,kE,uv,ug,kF,oC,zc,qN,trivial⟩ (by kernel_rfl) (uB.mpr fun o r E rm m rk kk Q h=>by
 obtain⟨Jl,Jp,JD,NI,Lr,Wr,h⟩:=h
 exact fun f1 f2 gv s NM p VC=>aB (fun c1=>(by(have hs:=NM.trans (ax (by have:=Jp.1;omega):i64.wrap o.a=o.a));(have hp:=VC.trans (ax (by have:=Jp.2.1;omega):i64.wrap o.b=o.b));(have Md:i64.wrap o.c=o.c:=ax (by have:=Jp.2.2.1;omega));(have OB:i64.wrap o.d=o.d:=ax (by have:=Jp.2.2.2;omega));subst hs;subst hp;(have hd:=DB.hand NI (by rw [Pd.ru _ _ Jl];exact f1.dz) f2.2.2 Jp Lr);(have RC:(E.on m).bW o.a o.b=0:=by have:=Lr;unfold DB.bh at this;rwa [if_pos c1]at this);exact af (Jl) fun e3 E1 Jy f4 m1 Jg f5=>af (by(rw [Jy,Jg];exact DB.pdS _)) fun e6=>af (by show dm _;rw [W26.ry (by rfl)];exact Dg.gp Dg.km) fun e7 m2 Jw f8=>au h (eQb (by rw [hd.1 c1];rfl)) (ab (uO1 (by rw [Jy,DB.call,if_pos c1,DB.bx,if_pos RC,DB.cK (Mem.hY ..)])) (ab (uO0 (by rw [Jw,Jg,DB.GH,DB.call,if_pos c1,DB.bx,if_pos RC];rfl)) rfl)) rfl)) fun c1=>(by(have hs:=NM.trans (ax (by have:=Jp.1;omega):i64.wrap o.a=o.a));(have hp:=VC.trans (ax (by have:=Jp.2.1;omega):i64.wrap o.b=o.b));(have Md:i64.wrap o.c=o.c:=ax (by have:=Jp.2.2.1;omega));(have OB:i64.wrap o.d=o.d:=ax (by have:=Jp.2.2.2;omega));subst hs;subst hp;(have hd:=DB.hand NI (by rw [Pd.ru _ _ Jl];exact f1.dz) f2.2.2 Jp Lr);exact af (by exact Jp.2.2.1) fun e9 Jj=>allEq<| ⟨fun Jk s0 s1 Qn Qm Ql=>(Jk=true)∧(s0.on s1=(E.on m).pre o)∧(s0.n=s1.S),allEq<| aB (fun c2=>af (Jl) fun VG E1 Jy f11 m1 Jg f12=>allEq<| af (by exact Jp.2.2.1) fun Xf m2 Jw f14=>⟨(by(rw [hd.2.1 c2];rfl)),(by(rw [Jy,Jw,Jg];unfold DB.pre;rw [if_pos c2];rfl)),(by(rw [Jy,Jw,Jg,Mem.bB];rfl))⟩) fun c2=>allEq<| aB (fun c3=>⟨fun Jk s0 s1=>(Jk=true)∧(s0.on s1=(E.on m).pre o)∧(s0.n=s1.S),af (Jl) fun Xd E1 Jy f16 m1 Jg f17=>aB (fun c4=>af (by(rw [Jy,Jg];exact DB.pdS _)) fun e18 E2 MK f19 m2 Jw f20=>allEq<| ⟨(by(rw [Jy,Jg,DB.iF,Md,(hd.2.2.1 c3).2];rfl)),(by(rw [MK,Jw,DB.iF,Jy,Jg,DB.iF,Md];unfold DB.pre;rw [if_neg c2,if_pos c3])),(by(rw [MK,Jw];exact DB.pdS _))⟩) fun c4=>(by exfalso;exact c4 (hd.2.2.1 c3).1),fun _ Jk s0 s1 ⟨Kg,hE,hn⟩=>fun f21 f22=>⟨‹_›,‹_›,‹_›⟩⟩) fun c3=>allEq<| aB (fun c5=>(by exfalso;exact JD (by simpa using c5))) fun c5=>allEq<| aB (fun c6=>af (by exact Jp.2.1) fun e23=>⟨fun Jk=>(Jk=true),aB (fun c7=>cQ (fun c8=>allEq<| (by rw [Md];exact decide_eq_true (hd.2.2.2.2 c6).2.2.1)) fun c8=>(by exfalso;rw [(hd.2.2.2.2 c6).2.1]at c8;simp at c8)) fun c7=>(by exfalso;exact c7 (hd.2.2.2.2 c6).1),fun _ Jk Wv=>⟨fun J4 s0 s1=>(J4=true)∧(s0.on s1=(E.on m).pre o)∧(s0.n=s1.S),ae (fun c9=>af (Jl) fun e24=>af (by exact ja Jp.2.1) fun e25 E1 Jy f26 m1 Jg f27=>allEq<| ⟨(by(rw [Md,(hd.2.2.2.2 c6).2.2.2];rfl)),(by(rw [Jy,Jg,DB.iF,Md];unfold DB.pre;rw [if_neg c2,if_neg c3,if_neg c5])),(by(rw [Jy,Jg];exact DB.pdS _))⟩) fun c9=>(by exfalso;rw [Wv]at c9;simp at c9),fun _ J4 s0 s1 ⟨Kg,hE,hn⟩=>fun f28 f29=>⟨‹_›,‹_›,‹_›⟩⟩⟩) fun c6=>(by exfalso;omega),fun _ Jk s0 s1 Qn Qm Ql ⟨Kg,hE,hn⟩=>(by(have hl:Dg.ao (s1.dgW o.a)=0:=by rw [show s1=((E.on m).pre o).mem from congrArg DB.mem hE];exact DB.vg NI c1 Lr);(have OJ:opK o=1∨opK o=2∨opK o=4:=by unfold opK;split;omega;split<;>omega);(have RF:0≤opA o∧opA o<4294967296:=by unfold opA;have:=Jp;unfold LOp.Ok at this;split;omega;split<;>omega);exact fun f30 f31=>⟨af (hn) fun e32 x f33=>(by(have hm:=DB.oQ (kk:=kk) (m:=s1) (s:=o.a) (k:=opK o) (a:=opA o) (l:= []) ‹Mem.Wf s1› hl RF (by omega) DB.j5);(have hx:W26.n x=s1.dgW o.a:=by rw [‹x=_›];exact W26.ry (Mem.cq _ _));(have KS:W26.n (W26.mk (W26.n x))=s1.dgW o.a:=by rw [hx];exact W26.nn (Mem.cq _ _));exact⟨af (hn) fun e34=>af (JD) fun e35 m1 Jg f36=>⟨af (by show dm _;rw [KS];exact Mem.dO ‹Mem.Wf s1› _) fun e37=>af (by exact RF) fun e38=>af (OJ) fun e39=>aq (fun MW Ju s2 JF=>af (by(rw [JF];rfl)) fun e40 s3 JB=>af (by(rw [JB];rfl)) fun e41=>af (by(rw [Jg];exact hn)) fun e42=>af (by rw [JB];exact W26.jZ rfl (Dg.gp (by rw [KS];exact hm.2))) fun e43 m2 Jw f44=>⟨fun x4=>(x4=true),ae (fun Ni=>(by rfl)) fun Ni=>(by exfalso;(rw [Kg]at Ni;simp at Ni)),fun _ x4 M4=>au h (eQb (M4.symm)) (ab (uO1 (by rw [DB.gh c1 JD Lr,DB.cK (f:=fun m=>Mem.msd kk m o.a (opK o) (opA o) []) (Mem.fB ..),← hE,Pd.bJ _ _ hn])) (ab (uO0 (by rw [Jw,Jg,JB,KS,hm.1,DB.gh c1 JD Lr];show((E.on m).pre o).mem.msd kk o.a (opK o) (opA o) []=_;rw [← hE];rfl)) rfl)) rfl⟩) fun MW=>(by exfalso;exact MW (by rw [KS];exact hl)),fun Ju s2 JF=>af (by show dm _;rw [KS];exact Mem.dO ‹Mem.Wf s1› _) fun e45=>af (by exact RF) fun e46=>af (OJ) fun e47=>aq (fun OR=>af (by(rw [JF];rfl)) fun e48 s3 JB=>af (by(rw [JB];rfl)) fun e49=>af (by(rw [Jg];exact hn)) fun e50=>af (by rw [JB];exact W26.jZ rfl (Dg.gp (by rw [KS];exact hm.2))) fun e51 m2 Jw f52=>⟨fun x4=>(x4=true),ae (fun Nt=>(by rfl)) fun Nt=>(by exfalso;(rw [Kg]at Nt;simp at Nt)),fun _ x4 M4=>au h (eQb (M4.symm)) (ab (uO1 (by rw [DB.gh c1 JD Lr,DB.cK (f:=fun m=>Mem.msd kk m o.a (opK o) (opA o) []) (Mem.fB ..),← hE,Pd.bJ _ _ hn])) (ab (uO0 (by rw [Jw,Jg,JB,KS,hm.1,DB.gh c1 JD Lr];show((E.on m).pre o).mem.msd kk o.a (opK o) (opA o) []=_;rw [← hE];rfl)) rfl)) rfl⟩) fun OR=>(by exfalso;exact OR (by rw [KS];exact hl))⟩,fun Ju s2 JF=>af (hn) fun e53=>af (JD) fun e54 m1 Jg f55=>af (by show dm _;rw [KS];exact Mem.dO ‹Mem.Wf s1› _) fun e56=>af (by exact RF) fun e57=>af (OJ) fun e58=>aq (fun Rl=>af (by(rw [JF];rfl)) fun e59 s3 JB=>af (by(rw [JB];rfl)) fun e60=>af (by(rw [Jg];exact hn)) fun e61=>af (by rw [JB];exact W26.jZ rfl (Dg.gp (by rw [KS];exact hm.2))) fun e62 m2 Jw f63=>⟨fun x4=>(x4=true),ae (fun Rk=>(by rfl)) fun Rk=>(by exfalso;(rw [Kg]at Rk;simp at Rk)),fun _ x4 M4=>au h (eQb (M4.symm)) (ab (uO1 (by rw [DB.gh c1 JD Lr,DB.cK (f:=fun m=>Mem.msd kk m o.a (opK o) (opA o) []) (Mem.fB ..),← hE,Pd.bJ _ _ hn])) (ab (uO0 (by rw [Jw,Jg,JB,KS,hm.1,DB.gh c1 JD Lr];show((E.on m).pre o).mem.msd kk o.a (opK o) (opA o) []=_;rw [← hE];rfl)) rfl)) rfl⟩) fun Rl=>(by exfalso;exact Rl (by rw [KS];exact hl))⟩),fun Ju s2 JF=>af (hn) fun Xc x f65=>(by(have hm:=DB.oQ (kk:=kk) (m:=s1) (s:=o.a) (k:=opK o) (a:=opA o) (l:= []) ‹Mem.Wf s1› hl RF (by omega) DB.j5);(have hx:W26.n x=s1.dgW o.a:=by rw [‹x=_›];exact W26.ry (Mem.cq _ _));(have KS:W26.n (W26.mk (W26.n x))=s1.dgW o.a:=by rw [hx];exact W26.nn (Mem.cq _ _));exact af (hn) fun e66=>af (JD) fun e67 m1 Jg f68=>af (by show dm _;rw [KS];exact Mem.dO ‹Mem.Wf s1› _) fun e69=>af (by exact RF) fun e70=>af (OJ) fun e71=>aq (fun c16=>af (by(rw [JF];rfl)) fun e72 s3 JB=>af (by(rw [JB];rfl)) fun e73=>af (by(rw [Jg];exact hn)) fun e74=>af (by rw [JB];exact W26.jZ rfl (Dg.gp (by rw [KS];exact hm.2))) fun e75 m2 Jw f76=>⟨fun x4=>(x4=true),ae (fun Xi=>(by rfl)) fun Xi=>(by exfalso;(rw [Kg]at Xi;simp at Xi)),fun _ x4 M4=>au h (eQb (M4.symm)) (ab (uO1 (by rw [DB.gh c1 JD Lr,DB.cK (f:=fun m=>Mem.msd kk m o.a (opK o) (opA o) []) (Mem.fB ..),← hE,Pd.bJ _ _ hn])) (ab (uO0 (by rw [Jw,Jg,JB,KS,hm.1,DB.gh c1 JD Lr];show((E.on m).pre o).mem.msd kk o.a (opK o) (opA o) []=_;rw [← hE];rfl)) rfl)) rfl⟩) fun c16=>(by exfalso;exact c16 (by rw [KS];exact hl)))⟩)⟩))
def jU:Ctr Un:=⟨[.one (.obj 0 0),.enc 5],[(2,5)],[.ob 1 [(1,1,0)],.ob 0 [],.ob 5 []],[0,1],fun o r E rm m rk kk K=>E.n=m.S∧LOp.Ok o∧o.k=4∧DB.Good (E.on m)∧(E.on m).bh o=0∧(1≤o.k∧o.k≤5)∧K ⟨(.bool true),none,[.ob 1 ((DB.call kk (E.on m) o).pd),.ob 0 ((DB.call kk (E.on m) o).mem)],[],[]⟩⟩
def uD(o:LOp)(r:Nat→Nat)(E:Pd)(rm:Nat→Nat)(m:Mem)(rk:Nat→Nat)(kk:List Int)(Q:Ou Un→Prop):Prop:=
 Pd.Ok E→
 Mem.Wf m→
 ∀(gv:Nat),
 ∀s:Int,s=(i64.wrap o.a)→
 ∀p:Int,p=(i64.wrap o.b)→
 split (o.k==1) (
  E.n=m.S∧
  ∀(E1:Pd),E1=((E.on m).aM s p).pd→
  Pd.Ok E1→
  ∀(m1:Mem),m1=((E.on m).aM s p).mem→
  Mem.Wf m1→
  E1.n=m1.S∧
  W26.Ok (W26.mk (Dg.svL Dg.new))∧
  ∀(m2:Mem),m2=(m1.wrs s 11 (W26.ws (W26.mk (Dg.svL Dg.new))))→
  Mem.Wf m2→
  Q ⟨(.bool (((E.on m).aO s p)==0)),none,[.ob 1 E1,.ob 0 m2],[],[]⟩) (
  (0≤o.c∧o.c<4294967296)∧
  ∀(Jj:Nat),
  ∀ok:Bool,ok=true→
  ∃J:Bool→Pd→Mem→Int→Bool→Bool→Prop,(
   ∀SU:Bool,SU=((o.k:Int)==2)→
   split SU (
    E.n=m.S∧
    ∀(E1:Pd),E1=((E.on m).take p 2 s).pd→
    Pd.Ok E1→
    ∀(m1:Mem),m1=((E.on m).take p 2 s).mem→
    Mem.Wf m1→
    ∀Jk:Bool,Jk=((((E.on m).aZ p 2 s):Int)==0)→
    (0≤o.c∧o.c<4294967296)∧
    ∀(m2:Mem),m2=(m1.write true p 0 o.c)→
    Mem.Wf m2→
    J Jk E1 m2 (bD o.c) (paW o.c) (paX o.c)) (
    ∀Mq:Bool,Mq=((o.k:Int)==3)→
    split Mq (
     ∃J1:Bool→Pd→Mem→Prop,(
      E.n=m.S∧
      ∀(E1:Pd),E1=((E.on m).take p 4 s).pd→
      Pd.Ok E1→
      ∀(m1:Mem),m1=((E.on m).take p 4 s).mem→
      Mem.Wf m1→
      split (((E.on m).aZ p 4 s)==0) (
       E1.n=m1.S∧
       ∀(E2:Pd),E2=((E1.on m1).add s (i64.wrap o.c) p).pd→
       Pd.Ok E2→
       ∀(m2:Mem),m2=((E1.on m1).add s (i64.wrap o.c) p).mem→
       Mem.Wf m2→
       ∀Jk:Bool,Jk=((((E1.on m1).hH s (i64.wrap o.c) p):Int)==0)→
       J1 Jk E2 m2) (
       ∀Jk:Bool,Jk=false→
       J1 Jk E1 m1))∧∀(J8:Nat→Value)(Jk:Bool)(s0:Pd)(s1:Mem),J1 Jk s0 s1→
     Pd.Ok s0→
     Mem.Wf s1→
     J Jk s0 s1 (bD o.c) (paW o.c) (paX o.c)) (
     ∀Nu:Bool,Nu=((o.k:Int)==4)→
     split Nu (
      ∃J1:Bool→Pd→Mem→Prop,(
       split ((fW o.c)==0) (
        E.n=m.S∧
        ∀(E1:Pd),E1=((E.on m).take p 5 s).pd→
        Pd.Ok E1→
        ∀(m1:Mem),m1=((E.on m).take p 5 s).mem→
        Mem.Wf m1→
        ∀Jk:Bool,Jk=((((E.on m).aZ p 5 s):Int)==0)→
        J1 Jk E1 m1) (
        ∀Jk:Bool,Jk=false→
        J1 Jk E m))∧∀(J8:Nat→Value)(Jk:Bool)(s0:Pd)(s1:Mem),J1 Jk s0 s1→
      Pd.Ok s0→
      Mem.Wf s1→
      ∃J2:Bool→Mem→Prop,(
       split Jk (
        ∀(m1:Mem),m1=(s1.copy true p false (i64.wrap o.d))→
        Mem.Wf m1→
        ∀J4:Bool,J4=(((s1.ku true p false (i64.wrap o.d)):Int)==0)→
        J2 J4 m1) (
        ∀J4:Bool,J4=false→
        J2 J4 s1))∧∀(Nj:Nat→Value)(J4:Bool)(JO:Mem),J2 J4 JO→
      Mem.Wf JO→
      ∃J3:Bool→Pd→Mem→Prop,(
       split J4 (
        s0.n=JO.S∧
        (0≤(bD o.c)∧(bD o.c)<4294967296)∧
        ∀(E1:Pd),E1=((s0.on JO).put s (bD o.c) (Mp.mk true p (paW o.c) (paX o.c))).pd→
        Pd.Ok E1→
        ∀(m1:Mem),m1=((s0.on JO).put s (bD o.c) (Mp.mk true p (paW o.c) (paX o.c))).mem→
        Mem.Wf m1→
        ∀LZ:Bool,LZ=((((s0.on JO).dW s (bD o.c) (Mp.mk true p (paW o.c) (paX o.c))):Int)==0)→
        J3 LZ E1 m1) (
        ∀LZ:Bool,LZ=false→
        J3 LZ s0 JO))∧∀(J9:Nat→Value)(LZ:Bool)(Oz:Pd)(MQ:Mem),J3 LZ Oz MQ→
      Pd.Ok Oz→
      Mem.Wf MQ→
      J LZ Oz MQ (bD o.c) (paW o.c) (paX o.c)) (
      ∀Ov:Bool,Ov=((o.k:Int)==5)→
      split Ov (
       (0≤o.b∧o.b<4294967296)∧
       ∃J1:Bool→Prop,(
        split ((fW o.b)==0) (
         split (!(paX o.b)) (
          ∀Jk:Bool,Jk=(decide ((i64.wrap o.c:Int)<(m.I:Int)))→
          J1 Jk) (
          ∀Jk:Bool,Jk=false→
          J1 Jk)) (
         ∀Jk:Bool,Jk=false→
         J1 Jk))∧∀(J8:Nat→Value)(Jk:Bool),J1 Jk→
       ∃J2:Bool→Pd→Mem→Prop,(
        split Jk (
         E.n=m.S∧
         (0≤(bD o.b)∧(bD o.b)<4294967296)∧
         ∀(E1:Pd),E1=((E.on m).put s (bD o.b) (Mp.mk false (i64.wrap o.c) (paW o.b) false)).pd→
         Pd.Ok E1→
         ∀(m1:Mem),m1=((E.on m).put s (bD o.b) (Mp.mk false (i64.wrap o.c) (paW o.b) false)).mem→
         Mem.Wf m1→
         ∀J4:Bool,J4=((((E.on m).dW s (bD o.b) (Mp.mk false (i64.wrap o.c) (paW o.b) false)):Int)==0)→
         J2 J4 E1 m1) (
         ∀J4:Bool,J4=false→
         J2 J4 E m))∧∀(Nj:Nat→Value)(J4:Bool)(s0:Pd)(s1:Mem),J2 J4 s0 s1→
       Pd.Ok s0→
       Mem.Wf s1→
       J J4 s0 s1 (bD o.b) (paW o.b) (paX o.b)) (
       J ok E m (bD o.c) (paW o.c) (paX o.c))))))∧∀(J8:Nat→Value)(Jk:Bool)(s0:Pd)(s1:Mem) Qn (Qm:Bool)(Ql:Bool),J Jk s0 s1 Qn Qm Ql→
  Pd.Ok s0→
  Mem.Wf s1→
  (s0.n=s1.S∧
   ∀(x:W26),
   x=W26.mk (s1.dgW s)→
   (s0.n=s1.S∧
    o.k=4∧
    LOp.Ok o∧
    s1.has false o.d=true∧
    ∀(A:Option Addr),
    ∀(m1:Mem),m1=s1→
    Mem.Wf m1→
    ∀(l:List U32),l=(s1.words false o.d.toNat)→
    (W26.Ok (W26.mk (W26.n x))∧
     (0≤o.c∧o.c<4294967296)∧
     (3:Int)=3∧
     l.length=1024∧
     dm l∧
     split (decide ((Dg.ao (W26.n (W26.mk (W26.n x))))=0)) (
      ∀(Ju:Nat),
      ∀(s2:List U32),s2=(W26.n (W26.mk []))→
      (s2.length=26)∧
      ∀(s3:List U32),s3=(Dg.svL ((Dg.load (W26.n (W26.mk (W26.n x)))).add kk (opW 3 o.c l)))→
      (s3.length=26)∧
      s0.n=m1.S∧
      W26.Ok (W26.mk (W26.n (W26.mk s3)))∧
      ∀(m2:Mem),m2=(m1.wrs s 11 (W26.ws (W26.mk (W26.n (W26.mk s3)))))→
      Mem.Wf m2→
      ∃J1:Bool→Prop,(
       split Jk (
        J1 true) (
        J1 false))∧∀(J9:Nat→Value)(x4:Bool),J1 x4→
      Q ⟨(.bool x4),none,[.ob 1 s0,.ob 0 m2],[],[]⟩) (
      ∀(Ju:Nat),
      ∀(s2:List U32),s2=(W26.n (W26.mk []))→
      (s2.length=26)∧
      ∀(s3:List U32),s3=(W26.n (W26.mk []))→
      (s3.length=26)∧
      s0.n=m1.S∧
      W26.Ok (W26.mk (W26.n (W26.mk s3)))∧
      ∀(m2:Mem),m2=(m1.wrs s 11 (W26.ws (W26.mk (W26.n (W26.mk s3)))))→
      Mem.Wf m2→
      ∃J1:Bool→Prop,(
       split Jk (
        J1 ((Dg.ao (W26.n (W26.mk (W26.n x))))==0)) (
        J1 false))∧∀(J9:Nat→Value)(x4:Bool),J1 x4→
      Q ⟨(.bool x4),none,[.ob 1 s0,.ob 0 m2],[],[]⟩))∧
    (∀(Ju:Nat),
     ∀(s2:List U32),s2=(W26.n (W26.mk []))→
     W26.Ok (W26.mk (W26.n x))∧
     (0≤o.c∧o.c<4294967296)∧
     (3:Int)=3∧
     l.length=1024∧
     dm l∧
     split (decide ((Dg.ao (W26.n (W26.mk (W26.n x))))=0)) (
      (s2.length=26)∧
      ∀(s3:List U32),s3=(Dg.svL ((Dg.load (W26.n (W26.mk (W26.n x)))).add kk (opW 3 o.c l)))→
      (s3.length=26)∧
      s0.n=m1.S∧
      W26.Ok (W26.mk (W26.n (W26.mk s3)))∧
      ∀(m2:Mem),m2=(m1.wrs s 11 (W26.ws (W26.mk (W26.n (W26.mk s3)))))→
      Mem.Wf m2→
      ∃J1:Bool→Prop,(
       split Jk (
        J1 true) (
        J1 false))∧∀(J9:Nat→Value)(x4:Bool),J1 x4→
      Q ⟨(.bool x4),none,[.ob 1 s0,.ob 0 m2],[],[]⟩) (
      (s2.length=26)∧
      ∀(s3:List U32),s3=(W26.n (W26.mk []))→
      (s3.length=26)∧
      s0.n=m1.S∧
      W26.Ok (W26.mk (W26.n (W26.mk s3)))∧
      ∀(m2:Mem),m2=(m1.wrs s 11 (W26.ws (W26.mk (W26.n (W26.mk s3)))))→
      Mem.Wf m2→
      ∃J1:Bool→Prop,(
       split Jk (
        J1 ((Dg.ao (W26.n (W26.mk (W26.n x))))==0)) (
        J1 false))∧∀(J9:Nat→Value)(x4:Bool),J1 x4→
      Q ⟨(.bool x4),none,[.ob 1 s0,.ob 0 m2],[],[]⟩)))∧
   (∀(Ju:Nat),
    ∀(s2:List U32),s2=(W26.n (W26.mk []))→
    s0.n=s1.S∧
    o.k=4∧
    LOp.Ok o∧
    s1.has false o.d=true∧
    ∀(A:Option Addr),
    ∀(m1:Mem),m1=s1→
    Mem.Wf m1→
    ∀(l:List U32),l=(s1.words false o.d.toNat)→
    W26.Ok (W26.mk (W26.n x))∧
    (0≤o.c∧o.c<4294967296)∧
    (3:Int)=3∧
    l.length=1024∧
    dm l∧
    split (decide ((Dg.ao (W26.n (W26.mk (W26.n x))))=0)) (
     (s2.length=26)∧
     ∀(s3:List U32),s3=(Dg.svL ((Dg.load (W26.n (W26.mk (W26.n x)))).add kk (opW 3 o.c l)))→
     (s3.length=26)∧
     s0.n=m1.S∧
     W26.Ok (W26.mk (W26.n (W26.mk s3)))∧
     ∀(m2:Mem),m2=(m1.wrs s 11 (W26.ws (W26.mk (W26.n (W26.mk s3)))))→
     Mem.Wf m2→
     ∃J1:Bool→Prop,(
      split Jk (
       J1 true) (
       J1 false))∧∀(J9:Nat→Value)(x4:Bool),J1 x4→
     Q ⟨(.bool x4),none,[.ob 1 s0,.ob 0 m2],[],[]⟩) (
     (s2.length=26)∧
     ∀(s3:List U32),s3=(W26.n (W26.mk []))→
     (s3.length=26)∧
     s0.n=m1.S∧
     W26.Ok (W26.mk (W26.n (W26.mk s3)))∧
     ∀(m2:Mem),m2=(m1.wrs s 11 (W26.ws (W26.mk (W26.n (W26.mk s3)))))→
     Mem.Wf m2→
     ∃J1:Bool→Prop,(
      split Jk (
       J1 ((Dg.ao (W26.n (W26.mk (W26.n x))))==0)) (
       J1 false))∧∀(J9:Nat→Value)(x4:Bool),J1 x4→
     Q ⟨(.bool x4),none,[.ob 1 s0,.ob 0 m2],[],[]⟩)))∧
  (∀(Ju:Nat),
   ∀(s2:List U32),s2=(W26.n (W26.mk []))→
   s0.n=s1.S∧
   ∀(x:W26),
   x=W26.mk (s1.dgW s)→
   s0.n=s1.S∧
   o.k=4∧
   LOp.Ok o∧
   s1.has false o.d=true∧
   ∀(A:Option Addr),
   ∀(m1:Mem),m1=s1→
   Mem.Wf m1→
   ∀(l:List U32),l=(s1.words false o.d.toNat)→
   W26.Ok (W26.mk (W26.n x))∧
   (0≤o.c∧o.c<4294967296)∧
   (3:Int)=3∧
   l.length=1024∧
   dm l∧
   split (decide ((Dg.ao (W26.n (W26.mk (W26.n x))))=0)) (
    (s2.length=26)∧
    ∀(s3:List U32),s3=(Dg.svL ((Dg.load (W26.n (W26.mk (W26.n x)))).add kk (opW 3 o.c l)))→
    (s3.length=26)∧
    s0.n=m1.S∧
    W26.Ok (W26.mk (W26.n (W26.mk s3)))∧
    ∀(m2:Mem),m2=(m1.wrs s 11 (W26.ws (W26.mk (W26.n (W26.mk s3)))))→
    Mem.Wf m2→
    ∃J1:Bool→Prop,(
     split Jk (
      J1 true) (
      J1 false))∧∀(J9:Nat→Value)(x4:Bool),J1 x4→
    Q ⟨(.bool x4),none,[.ob 1 s0,.ob 0 m2],[],[]⟩) (
    (s2.length=26)∧
    ∀(s3:List U32),s3=(W26.n (W26.mk []))→
    (s3.length=26)∧
    s0.n=m1.S∧
    W26.Ok (W26.mk (W26.n (W26.mk s3)))∧
    ∀(m2:Mem),m2=(m1.wrs s 11 (W26.ws (W26.mk (W26.n (W26.mk s3)))))→
    Mem.Wf m2→
    ∃J1:Bool→Prop,(
     split Jk (
      J1 ((Dg.ao (W26.n (W26.mk (W26.n x))))==0)) (
      J1 false))∧∀(J9:Nat→Value)(x4:Bool),J1 x4→
    Q ⟨(.bool x4),none,[.ob 1 s0,.ob 0 m2],[],[]⟩)))
theorem uE:Vc2 Un prog (bc [(60,dB),(62,fv),(61,il),(63,fy),(64,fA),(14,aJ),(42,dq),(65,cU),(66,jR),(67,ib),(55,er),(24,et),(22,ij),(68,ia)]) [5,6,10,40,54,71,111] Tryz.f20 (.r' (.r' (.r' (.r' (.r' (.two (.r' (.node [] (some ⟨[(10,(.one .bool))],[],[9,10]++upN 40 111,[(0,(.ob 1)),(1,(.ob 0)),(4,(.blk [(.v (.int .u32)),(.v .bool),(.v .bool)]))]⟩) [] [] (.r' (.two (.r' (.node [] none [] [(5,[3])] .leaf .leaf)) (.r' (.two (.node [] (some ⟨[(10,(.one .bool))],[],[10]++upN 56 15,[(0,(.ob 1)),(1,(.ob 0))]⟩) [] [] .leaf .leaf) (.r' (.two (.two (.node [] (some ⟨[(10,(.one .bool))],[],[10]++upN 73 9,[(0,(.ob 1)),(1,(.ob 0))]⟩) [] [] .leaf .leaf) (.two (.node [] (some ⟨[(10,(.one .bool))],[],[10]++upN 82 13,[(1,(.ob 0))]⟩) [] [(7,[3])] .leaf .leaf) (.node [] (some ⟨[(10,(.one .bool))],[],[10]++upN 95 16,[(0,(.ob 1)),(1,(.ob 0))]⟩) [] [] .leaf .leaf))) (.r' (.two (.r' (.two (.node [] (some ⟨[(10,(.one .bool))],[],[10]++upN 119 16,[]⟩) [] [(4,[4]),(9,[3])] .leaf .leaf) (.node [] (some ⟨[(10,(.one .bool))],[],[10]++upN 135 16,[(0,(.ob 1)),(1,(.ob 0))]⟩) [] [] .leaf .leaf))) .leaf)))))))) .leaf)) (.two (.node [] none [] [(4,[3])] .leaf .leaf) (.r' (.two (.node [] (some ⟨[(4,(.one .bool))],[],[4]++upN 165 5,[]⟩) [] [] .leaf .leaf) .leaf))))))))) [] jU=(∀(o:LOp) r (E:Pd) rm (m:Mem) rk (kk:List Int),∀Q,(jU.body o r E rm m rk kk Q)→uD o r E rm m rk kk Q):=by kernel_rfl
theorem uC:LV Un prog 20 jU:=verify Tryz.func20 aa (tb:= [(60,dB),(62,fv),(61,il),(63,fy),(64,fA),(14,aJ),(42,dq),(65,cU),(66,jR),(67,ib),(55,er),(24,et),(22,ij),(68,ia)]) ⟨jW,qM,xo,qR,nm,bO,jn,kE,uv,ug,kF,oC,zf,qO,trivial⟩ (by kernel_rfl) (uE.mpr fun o r E rm m rk kk Q h=>by
 obtain⟨Jl,Jp,JD,NI,Lr,Wr,h⟩:=h
 exact fun f1 f2 gv s NM p VC=>aB (fun c1=>(by exfalso;omega)) fun c1=>(by(have hs:=NM.trans (ax (by have:=Jp.1;omega):i64.wrap o.a=o.a));(have hp:=VC.trans (ax (by have:=Jp.2.1;omega):i64.wrap o.b=o.b));(have Md:i64.wrap o.c=o.c:=ax (by have:=Jp.2.2.1;omega));(have OB:i64.wrap o.d=o.d:=ax (by have:=Jp.2.2.2;omega));subst hs;subst hp;(have hd:=DB.hand NI (by rw [Pd.ru _ _ Jl];exact f1.dz) f2.2.2 Jp Lr);exact af (by exact Jp.2.2.1) fun e3 Jj=>allEq<| ⟨fun Jk s0 s1 Qn Qm Ql=>(Jk=true)∧(s0.on s1=(E.on m).pre o)∧(s0.n=s1.S),allEq<| aB (fun c2=>(by exfalso;omega)) fun c2=>allEq<| aB (fun c3=>(by exfalso;omega)) fun c3=>allEq<| aB (fun c4=>⟨fun Jk s0 s1=>(Jk=true)∧(s0.on s1=((E.on m).take o.b 5 o.a))∧(s0.n=s1.S),aB (fun c5=>af (Jl) fun e4 E1 Jy f5 m1 Jg f6=>allEq<| ⟨(by rw [(hd.2.2.2.1 JD).2.1];rfl),(by rw [Jy,Jg,DB.iF]),(by rw [Jy,Jg];exact DB.pdS _)⟩) fun c5=>(by exfalso;exact c5 (hd.2.2.2.1 JD).1),fun _ Jk s0 s1 ⟨g1,g2,g3⟩=>fun f7 f8=>⟨fun J4 JO=>(J4=true)∧(s0.on JO=((E.on m).take o.b 5 o.a).aQ (·.copy true o.b false o.d))∧(s0.n=JO.S),ae (fun c6 m1 Jg f9=>allEq<| ⟨(by rw [OB,show s1=m from(congrArg DB.mem g2).trans (DB.bH ..),show m.ku true o.b false o.d=0 from(hd.2.2.2.1 JD).2.2.1];rfl),(by rw [Jg,OB,← g2];rfl),(by rw [Jg,Mem.lX];exact g3)⟩) fun c6=>(by exfalso;rw [g1]at c6;cases c6),fun _ J4 JO ⟨k1,k2,k3⟩=>fun f10=>⟨fun LZ Oz MQ=>(LZ=true)∧(Oz.on MQ=(E.on m).pre o)∧(Oz.n=MQ.S),ae (fun c7=>af (k3) fun VF=>af (by exact ja Jp.2.2.1) fun Xg E1 Jy f13 m1 Jg f14=>allEq<| ⟨(by rw [k2,(hd.2.2.2.1 JD).2.2.2];rfl),(by rw [Jy,Jg,DB.iF,k2];unfold DB.pre;rw [if_neg c2,if_neg c3,if_pos JD];rfl),(by rw [Jy,Jg];exact DB.pdS _)⟩) fun c7=>(by exfalso;rw [k1]at c7;cases c7),fun _ LZ Oz MQ ⟨Kg,hE,hn⟩=>fun f15 f16=>⟨‹_›,‹_›,‹_›⟩⟩⟩⟩) fun c4=>(by exfalso;exact c4 JD),fun _ Jk s0 s1 Qn Qm Ql ⟨Kg,hE,hn⟩=>(by(have hl:Dg.ao (s1.dgW o.a)=0:=by rw [show s1=((E.on m).pre o).mem from congrArg DB.mem hE];exact DB.vg NI c1 Lr);have Pw:=DB.Bp (kk:=kk) JD Jp Lr;(have hh:s1.has false o.d=true:=by rw [show s1=((E.on m).pre o).mem from congrArg DB.mem hE];exact Pw.2);exact fun f17 f18=>⟨af (hn) fun e19 x f20=>(by(have hm:=DB.oQ (kk:=kk) (m:=s1) (s:=o.a) (k:=3) (a:=o.c) (l:=s1.words false o.d.toNat) ‹Mem.Wf s1› hl Jp.2.2.1 (by omega) (Mem.fT ‹Mem.Wf s1› _ _));(have hx:W26.n x=s1.dgW o.a:=by rw [‹x=_›];exact W26.ry (Mem.cq _ _));(have KS:W26.n (W26.mk (W26.n x))=s1.dgW o.a:=by rw [hx];exact W26.nn (Mem.cq _ _));exact⟨af (hn) fun e21=>af (JD) fun e22=>af (Jp) fun e23=>af (hh) fun e24 A m1 Jg f25 l Lh=>⟨af (by show dm _;rw [KS];exact Mem.dO ‹Mem.Wf s1› _) fun e26=>af (by exact Jp.2.2.1) fun e27=>af (by rfl) fun e28=>af (by rw [Lh];exact Mem.cC _ _ _) fun e29=>af (by rw [Lh];exact Mem.fT ‹Mem.Wf s1› _ _) fun e30=>aq (fun c8 Ju s2 JF=>af (by(rw [JF];rfl)) fun e31 s3 JB=>af (by(rw [JB];rfl)) fun e32=>af (by rw [Jg];exact hn) fun e33=>af (by rw [JB];exact W26.jZ rfl (Dg.gp (by rw [KS,Lh];exact hm.2))) fun e34 m2 Jw f35=>⟨fun x4=>(x4=true),ae (fun c9=>(by rfl)) fun c9=>(by exfalso;(rw [Kg]at c9;simp at c9)),fun _ x4 M4=>au h (eQb (M4.symm)) (ab (uO1 (by rw [Pw.1,DB.cK (f:=fun q=>Mem.msd kk q o.a 3 o.c (((E.on m).pre o).mem.words false o.d.toNat)) (Mem.fB ..),← hE,Pd.bJ _ _ hn])) (ab (uO0 (by rw [Jw,Jg,JB,KS,Lh,hm.1,Pw.1];show((E.on m).pre o).mem.msd kk o.a 3 o.c (((E.on m).pre o).mem.words false o.d.toNat)=_;rw [← hE];rfl)) rfl)) rfl⟩) fun c8=>(by exfalso;exact c8 (by rw [KS];exact hl)),fun Ju s2 JF=>af (by show dm _;rw [KS];exact Mem.dO ‹Mem.Wf s1› _) fun e36=>af (by exact Jp.2.2.1) fun e37=>af (by rfl) fun e38=>af (by rw [Lh];exact Mem.cC _ _ _) fun e39=>af (by rw [Lh];exact Mem.fT ‹Mem.Wf s1› _ _) fun e40=>aq (fun MW=>af (by(rw [JF];rfl)) fun e41 s3 JB=>af (by(rw [JB];rfl)) fun e42=>af (by rw [Jg];exact hn) fun e43=>af (by rw [JB];exact W26.jZ rfl (Dg.gp (by rw [KS,Lh];exact hm.2))) fun e44 m2 Jw f45=>⟨fun x4=>(x4=true),ae (fun Ni=>(by rfl)) fun Ni=>(by exfalso;(rw [Kg]at Ni;simp at Ni)),fun _ x4 M4=>au h (eQb (M4.symm)) (ab (uO1 (by rw [Pw.1,DB.cK (f:=fun q=>Mem.msd kk q o.a 3 o.c (((E.on m).pre o).mem.words false o.d.toNat)) (Mem.fB ..),← hE,Pd.bJ _ _ hn])) (ab (uO0 (by rw [Jw,Jg,JB,KS,Lh,hm.1,Pw.1];show((E.on m).pre o).mem.msd kk o.a 3 o.c (((E.on m).pre o).mem.words false o.d.toNat)=_;rw [← hE];rfl)) rfl)) rfl⟩) fun MW=>(by exfalso;exact MW (by rw [KS];exact hl))⟩,fun Ju s2 JF=>af (hn) fun e46=>af (JD) fun e47=>af (Jp) fun e48=>af (hh) fun e49 A m1 Jg f50 l Lh=>af (by show dm _;rw [KS];exact Mem.dO ‹Mem.Wf s1› _) fun e51=>af (by exact Jp.2.2.1) fun e52=>af (by rfl) fun e53=>af (by rw [Lh];exact Mem.cC _ _ _) fun e54=>af (by rw [Lh];exact Mem.fT ‹Mem.Wf s1› _ _) fun e55=>aq (fun OR=>af (by(rw [JF];rfl)) fun e56 s3 JB=>af (by(rw [JB];rfl)) fun e57=>af (by rw [Jg];exact hn) fun e58=>af (by rw [JB];exact W26.jZ rfl (Dg.gp (by rw [KS,Lh];exact hm.2))) fun e59 m2 Jw f60=>⟨fun x4=>(x4=true),ae (fun Nt=>(by rfl)) fun Nt=>(by exfalso;(rw [Kg]at Nt;simp at Nt)),fun _ x4 M4=>au h (eQb (M4.symm)) (ab (uO1 (by rw [Pw.1,DB.cK (f:=fun q=>Mem.msd kk q o.a 3 o.c (((E.on m).pre o).mem.words false o.d.toNat)) (Mem.fB ..),← hE,Pd.bJ _ _ hn])) (ab (uO0 (by rw [Jw,Jg,JB,KS,Lh,hm.1,Pw.1];show((E.on m).pre o).mem.msd kk o.a 3 o.c (((E.on m).pre o).mem.words false o.d.toNat)=_;rw [← hE];rfl)) rfl)) rfl⟩) fun OR=>(by exfalso;exact OR (by rw [KS];exact hl))⟩),fun Ju s2 JF=>af (hn) fun e61 x f62=>(by(have hm:=DB.oQ (kk:=kk) (m:=s1) (s:=o.a) (k:=3) (a:=o.c) (l:=s1.words false o.d.toNat) ‹Mem.Wf s1› hl Jp.2.2.1 (by omega) (Mem.fT ‹Mem.Wf s1› _ _));(have hx:W26.n x=s1.dgW o.a:=by rw [‹x=_›];exact W26.ry (Mem.cq _ _));(have KS:W26.n (W26.mk (W26.n x))=s1.dgW o.a:=by rw [hx];exact W26.nn (Mem.cq _ _));exact af (hn) fun e63=>af (JD) fun Xc=>af (Jp) fun e65=>af (hh) fun e66 A m1 Jg f67 l Lh=>af (by show dm _;rw [KS];exact Mem.dO ‹Mem.Wf s1› _) fun e68=>af (by exact Jp.2.2.1) fun e69=>af (by rfl) fun e70=>af (by rw [Lh];exact Mem.cC _ _ _) fun e71=>af (by rw [Lh];exact Mem.fT ‹Mem.Wf s1› _ _) fun e72=>aq (fun Rl=>af (by(rw [JF];rfl)) fun e73 s3 JB=>af (by(rw [JB];rfl)) fun e74=>af (by rw [Jg];exact hn) fun e75=>af (by rw [JB];exact W26.jZ rfl (Dg.gp (by rw [KS,Lh];exact hm.2))) fun e76 m2 Jw f77=>⟨fun x4=>(x4=true),ae (fun Rk=>(by rfl)) fun Rk=>(by exfalso;(rw [Kg]at Rk;simp at Rk)),fun _ x4 M4=>au h (eQb (M4.symm)) (ab (uO1 (by rw [Pw.1,DB.cK (f:=fun q=>Mem.msd kk q o.a 3 o.c (((E.on m).pre o).mem.words false o.d.toNat)) (Mem.fB ..),← hE,Pd.bJ _ _ hn])) (ab (uO0 (by rw [Jw,Jg,JB,KS,Lh,hm.1,Pw.1];show((E.on m).pre o).mem.msd kk o.a 3 o.c (((E.on m).pre o).mem.words false o.d.toNat)=_;rw [← hE];rfl)) rfl)) rfl⟩) fun Rl=>(by exfalso;exact Rl (by rw [KS];exact hl)))⟩)⟩))
def kM:Ctr Un:=⟨[.one (.obj 0 0),.enc 5],[(2,5)],[.ob 1 [(1,1,0)],.ob 0 [],.ob 5 []],[0,1],fun o r E rm m rk kk K=>E.n=m.S∧LOp.Ok o∧DB.Good (E.on m)∧(E.on m).bh o=0∧(1≤o.k∧o.k≤5)∧K ⟨(.bool true),none,[.ob 1 ((DB.call kk (E.on m) o).pd),.ob 0 ((DB.call kk (E.on m) o).mem)],[],[]⟩⟩
theorem xy:LV Un prog 20 kM:=by
 show ∀(o:LOp)(r:Nat→Nat)(E:Pd)(rm:Nat→Nat)(m:Mem)(rk:Nat→Nat)(kk:List Int),∀Q:Ou Un→Prop,(E.n=m.S∧LOp.Ok o∧DB.Good (E.on m)∧(E.on m).bh o=0∧(1≤o.k∧o.k≤5)∧Q ⟨(.bool true),none,[.ob 1 ((DB.call kk (E.on m) o).pd),.ob 0 ((DB.call kk (E.on m) o).mem)],[],[]⟩)→∀(X:Nat→Nat→Prop)(w:World),Sat (U:=Un) [(.ob 1 r E),(.ob 0 rm m),(.ob 5 rk kk)] X w→av (U:=Un) [(.ob 1 r E),(.ob 0 rm m),(.ob 5 rk kk)] fr0 [(.l 0 1,.p (.obj 1 0 0))]→Calls prog 20 #[(.pointer (some (Addr.mk (r 0) 0 none))),(.agg #[(.int .i64 o.k),(.int .u32 o.a),(.int .u32 o.b),(.int .u32 o.c),(.int .u32 o.d)])] w (aT (U:=Un) [(.ob 1 r E),(.ob 0 rm m),(.ob 5 rk kk)] [0,1] X w Q)
 intro o r E rm m rk kk Q hQ X w hs hl
 obtain⟨h0,h1,h3,h4,h5,hQ⟩:=hQ
 by_cases hk:o.k=4
 ·exact uC o r E rm m rk kk Q ⟨h0,h1,hk,h3,h4,h5,hQ⟩ X w hs hl
 ·exact uz o r E rm m rk kk Q ⟨h0,h1,hk,h3,h4,h5,hQ⟩ X w hs hl
def l0:Ctr Un:=⟨[.agg [.int .i64,.int .i64]],[],[],[],fun s i K=>split (okM s i) (∀(r:Nat→Nat)(s1:Sv),s1.D=DB.new (Mem.fresh s.toNat i.toNat)→K ⟨(.tuple #[(.pointer (some (Addr.mk (Sv.pD s1) 0 none))),(.bool true)]),(some (.t [none,none])),[],[(.ob 9 r s1)],[]⟩) (K ⟨(.tuple #[(.pointer none),(.bool true)]),(some (.t [none,none])),[],[],[]⟩)⟩
theorem zi:LV Un prog 16 l0:=by
 show ∀(s:Int)(i:Int),∀Q:Ou Un→Prop,(split (okM s i) (∀(r:Nat→Nat)(s1:Sv),s1.D=DB.new (Mem.fresh s.toNat i.toNat)→Q ⟨(.tuple #[(.pointer (some (Addr.mk (Sv.pD s1) 0 none))),(.bool true)]),(some (.t [none,none])),[],[(.ob 9 r s1)],[]⟩) (Q ⟨(.tuple #[(.pointer none),(.bool true)]),(some (.t [none,none])),[],[],[]⟩))→∀(X:Nat→Nat→Prop)(w:World),Sat (U:=Un) [] X w→av (U:=Un) [] fr0 []→Calls prog 16 #[(.agg #[(.int .i64 s),(.int .i64 i)])] w (aT (U:=Un) [] [] X w Q)
 intro s i Q hQ X w hs hl
 refine(xp s i (fun o=>(okM s i=true∧∃(rP rN:Nat→Nat),o=⟨(.tuple #[(.pointer (some (Addr.mk (rP 0) 0 none))),(.bool true)]),(some (.t [(some (.obj 0 0 0)),none])),[],[(.ob 1 rP ((DB.new (Mem.fresh s.toNat i.toNat)).pd)),(.ob 0 rN ((Mem.fresh s.toNat i.toNat).dD s.toNat))],[(.l 0 1,.p (.obj 1 0 0))]⟩)∨(okM s i=false∧o=⟨(.tuple #[(.pointer none),(.bool true)]),(some (.t [none,none])),[],[],[]⟩)) (ae (fun h rP rN=>.inl ⟨h,rP,rN,rfl⟩) (fun h=>.inr ⟨h,rfl⟩)) X w hs hl).mono ?_
 rintro e w' ⟨out,rs',X',rfl,⟨hm,rP,rN,rfl⟩ | ⟨hm,rfl⟩,JS,hp⟩
 ·obtain rfl: []=rs':=Option.some.inj JS
  have l1:rP 1=rN 0:=by
   obtain⟨t,r,s',h1,h2⟩:=hp.kc (.l 0 1) (.p (.obj 1 0 0)) (by simp) (by simp)
   have h1:some (Res.ob (U:=Un) 1 rP (DB.new (Mem.fresh s.toNat i.toNat)).pd)=some (.ob t r s'):=h1
   cases h1
   have h2:some (Value.pointer (some ⟨rN 0,0,none⟩))=some (.pointer (some ⟨rP 1,0,none⟩)):=h2
   simpa using h2.symm
  have hQ:=bK hQ hm (fun _=>0) ⟨DB.new (Mem.fresh s.toNat i.toNat),rP 0,rN 0⟩ rfl
  exact aT.sb (Z:=fun k=>X' 0 k∨X' 1 k) (kc:= []) hs (qv hp.ch) (show RS (U:=Un) (fun k=>X' 0 k∨X' 1 k) w' (.ob 9 (fun _=>0) (⟨DB.new (Mem.fresh s.toNat i.toNat),rP 0,rN 0⟩:Sv))from Cv (r:=fun _=>0) (hp.sat.res 0 _ rfl) (hp.sat.res 1 _ rfl) (hp.sat.dis 0 1 (show 0<2 by decide) (show 1<2 by decide) (by omega)) l1 rfl) (fun k hk=>hk.elim (hp.new 0 (by simp) (by simp) k) (hp.new 1 (by simp) (by simp) k)) hQ (KnO.tup _ (by simp)) (fun _ _ h=>by cases h)
 ·exact⟨_,_,_,rfl,bL hQ hm,JS,hp⟩
def iQ:Ctr Un:=⟨[.one (.obj 1 0),.one (.any)],[(0,9)],[.ob 9 [],.ob 1 [(1,2,0)],.ob 0 []],[],fun pv r s r2 E rm m K=>Value.pointer (some (Addr.mk (Sv.pD s) 0 none))=pv∧E.n=m.S∧E.on m=s.D∧K ⟨(.bool true),none,[],[],[]⟩⟩
theorem rI:LV Un prog 19 iQ:=by
 show ∀(pv:Value)(r:Nat→Nat)(s:Sv)(r2:Nat→Nat)(E:Pd)(rm:Nat→Nat)(m:Mem),∀Q:Ou Un→Prop,(Value.pointer (some (Addr.mk (Sv.pD s) 0 none))=pv∧E.n=m.S∧E.on m=s.D∧Q ⟨(.bool true),none,[],[],[]⟩)→∀(X:Nat→Nat→Prop)(w:World),Sat (U:=Un) [(.ob 9 r s),(.ob 1 r2 E),(.ob 0 rm m)] X w→av (U:=Un) [(.ob 9 r s),(.ob 1 r2 E),(.ob 0 rm m)] fr0 [(.l 1 1,.p (.obj 2 0 0))]→Calls prog 19 #[(.pointer (some (Addr.mk (r2 0) 0 none))),pv] w (aT (U:=Un) [(.ob 9 r s),(.ob 1 r2 E),(.ob 0 rm m)] [] X w Q)
 intro pv r s r2 E rm m Q hQ X w hs hl
 obtain⟨Po,hn,hD,hQ⟩:=hQ
 subst Po
 obtain⟨r1,rm1,X1,KH,Lu,e,_,_⟩:=kX hs
 rw [e.1]
 refine(qW r1 s.D.pd rm1 s.D.mem r2 E rm m (fun o=>o=_) ⟨rfl,hn,hD.symm,rfl⟩ X1 w KH ?_).mono ?_
 ·intro key k hk
  rcases List.mem_cons.1 hk with h9 | hk
  ·cases h9;exact Lu _ _ (List.mem_cons_self ..)
  ·cases List.mem_singleton.1 hk
   obtain⟨t,r',s',h1,h2⟩:=hl (.l 1 1) (.p (.obj 2 0 0)) (List.mem_cons_self ..)
   have h1:some (Res.ob (U:=Un) 1 r2 E)=some (.ob t r' s'):=h1
   cases h1
   exact⟨_,_,_,rfl,h2⟩
 rintro e2 w' ⟨out,rs',X',rfl,rfl,JS,hp⟩
 exact aT.pu hs (qv hp.ch) hQ trivial
def iL:Ctr Un:=⟨[.agg [.int .i64,.int .i64],.one (.sl 0)],[(1,5)],[.lst 5 false 31,.ob 5 []],[],fun s i A c l rk kk K=>((∀o∈l,LOp.Ok o))∧l.length≤140737488355328∧K ⟨(.bool true),none,[],[],[]⟩⟩
def ng(s:Int)(i:Int)(A:Option Addr)(c:Nat)(l:List LOp)(rk:Nat→Nat)(kk:List Int)(Q:Ou Un→Prop):Prop:=
 ∀(gv:Nat),
 split (okM s i) (
  ∀(r:Nat→Nat)(s1:Sv),
  s1.D=DB.new (Mem.fresh s.toNat i.toNat)→
  ∀(s2:Sv),s2=s1→
  Sv.Ok s2→
  ∃J:Bool→Prop,(
   J false)∧∀(Ka:Nat→Value)(Kw:Bool),J Kw→
  split Kw (
   Q ⟨(.bool false),none,[],[],[]⟩) (
   ∀i1:Int,i1=0→
   ∃I:Nat→Option Addr→Int→Sv→Prop,(∃m,I m (some (Addr.mk (Sv.pD s1) 0 none)) i1 s2)∧∀(m:Nat)(J8:Nat→Value)(d:Option Addr)(i2:Int)(s3:Sv),I m d i2 s3→
   Sv.Ok s3→
   split (decide (i2<(l.length:Int))) (
    (0≤i2∧i2<(l.length:Int))∧
    ∀(Ju:Nat),
    ∃J1:Bool→Prop,(
     split (decide ((l.getD i2.toNat (LOp.mk 0 0 0 0 0)).k<1)) (
      J1 true) (
      J1 (decide ((l.getD i2.toNat (LOp.mk 0 0 0 0 0)).k>5))))∧∀(J9:Nat→Value)(Nk:Bool),J1 Nk→
    split Nk (
     Value.pointer (some (Addr.mk (Sv.pD s3) 0 none))=(.pointer d)∧
     LOp.Ok (l.getD i2.toNat (LOp.mk 0 0 0 0 0))∧
     ∀(s4:Sv),s4= {s3 with D:=s3.D.beside (l.getD i2.toNat (LOp.mk 0 0 0 0 0))}→
     Sv.Ok s4→
     Value.pointer (some (Addr.mk (Sv.pD s4) 0 none))=(.pointer d)∧
     ∀(JO:Sv),
     JO.D=s4.D→
     ∀(s5:Sv),s5=JO→
     Sv.Ok s5→
     ∀i3:Int,i3=(i64.wrap (i2+1))→
     ∃m1,m1<m∧I m1 (some (Addr.mk (Sv.pD JO) 0 none)) i3 s5) (
     Value.pointer (some (Addr.mk (Sv.pD s3) 0 none))=(.pointer d)∧
     ∀(rN:Nat→Nat)(rM:Nat→Nat),
     ∀(E:Pd),E=s3.D.pd→
     Pd.Ok E→
     ∀(m2:Mem),m2=s3.D.mem→
     Mem.Wf m2→
     E.n=m2.S∧
     ∀(NX:Nat),
     Value.pointer (some (Addr.mk (Sv.pD s3) 0 none))=(.pointer d)∧
     LOp.Ok (l.getD i2.toNat (LOp.mk 0 0 0 0 0))∧
     ∀(s4:Sv),s4= {s3 with D:=DB.call kk s3.D (l.getD i2.toNat (LOp.mk 0 0 0 0 0))}→
     Sv.Ok s4→
     split ((s3.D.bh (l.getD i2.toNat (LOp.mk 0 0 0 0 0))) !=0) (
      Value.pointer (some (Addr.mk (Sv.pD s4) 0 none))=(.pointer d)∧
      E.n=m2.S∧
      E.on m2=s4.D∧
      ∀i3:Int,i3=(i64.wrap (i2+1))→
      ∃m1,m1<m∧I m1 d i3 s4) (
      ∃J2:Bool→Pd→Mem→Prop,(
       split (((E.on m2).aS (i64.wrap ((l.getD i2.toNat (LOp.mk 0 0 0 0 0)).a))) !=0) (
        J2 true E m2) (
        split ((l.getD i2.toNat (LOp.mk 0 0 0 0 0)).k !=1) (
         split (((E.on m2).entry (i64.wrap ((l.getD i2.toNat (LOp.mk 0 0 0 0 0)).a))).typ !=1) (
          J2 true E m2) (
          split (((E.on m2).entry (i64.wrap ((l.getD i2.toNat (LOp.mk 0 0 0 0 0)).a))).state !=1) (
           J2 true E m2) (
           E.n=m2.S∧
           LOp.Ok (l.getD i2.toNat (LOp.mk 0 0 0 0 0))∧
           DB.Good (E.on m2)∧
           (E.on m2).bh (l.getD i2.toNat (LOp.mk 0 0 0 0 0))=0∧
           (1≤(l.getD i2.toNat (LOp.mk 0 0 0 0 0)).k∧(l.getD i2.toNat (LOp.mk 0 0 0 0 0)).k≤5)∧
           ∀(E1:Pd),E1=(DB.call kk (E.on m2) (l.getD i2.toNat (LOp.mk 0 0 0 0 0))).pd→
           Pd.Ok E1→
           ∀(m3:Mem),m3=(DB.call kk (E.on m2) (l.getD i2.toNat (LOp.mk 0 0 0 0 0))).mem→
           Mem.Wf m3→
           Value.pointer (some (Addr.mk (Sv.pD s4) 0 none))=(.pointer d)∧
           E1.n=m3.S∧
           E1.on m3=s4.D∧
           J2 false E1 m3))) (
         E.n=m2.S∧
         LOp.Ok (l.getD i2.toNat (LOp.mk 0 0 0 0 0))∧
         DB.Good (E.on m2)∧
         (E.on m2).bh (l.getD i2.toNat (LOp.mk 0 0 0 0 0))=0∧
         (1≤(l.getD i2.toNat (LOp.mk 0 0 0 0 0)).k∧(l.getD i2.toNat (LOp.mk 0 0 0 0 0)).k≤5)∧
         ∀(E1:Pd),E1=(DB.call kk (E.on m2) (l.getD i2.toNat (LOp.mk 0 0 0 0 0))).pd→
         Pd.Ok E1→
         ∀(m3:Mem),m3=(DB.call kk (E.on m2) (l.getD i2.toNat (LOp.mk 0 0 0 0 0))).mem→
         Mem.Wf m3→
         Value.pointer (some (Addr.mk (Sv.pD s4) 0 none))=(.pointer d)∧
         E1.n=m3.S∧
         E1.on m3=s4.D∧
         J2 false E1 m3)))∧∀(_gv6:Nat→Value)(Rn:Bool)(s5:Pd)(s6:Mem),J2 Rn s5 s6→
      Pd.Ok s5→
      Mem.Wf s6→
      split Rn (
       Q ⟨(.bool false),none,[],[],[]⟩) (
       ∀i3:Int,i3=(i64.wrap (i2+1))→
       ∃m1,m1<m∧I m1 d i3 s4)))) (
    Q ⟨(.bool true),none,[],[],[]⟩))) (
  ∃J:Bool→Prop,(
   J false)∧∀(Ka:Nat→Value)(Kw:Bool),J Kw→
  split Kw (
   Q ⟨(.bool false),none,[],[],[]⟩) (
   Q ⟨(.bool true),none,[],[],[]⟩))
theorem nh:Vc2 Un prog (bc [(16,l0),(8,jo),(11,jV),(13,kG),(17,n6),(18,cB),(9,jS),(19,iQ),(20,kM)]) [7] Tryz.f4 (.r' (.r' (.two (.two (.node [] (some ⟨[(22,(.one .bool))],[],upN 17 6,[]⟩) [] [] .leaf .leaf) .leaf) (.r' (.two (.r' (.two (.node [] (some ⟨[(5,(.one .ptr)),(7,(.one (.int .i64)))],[],[4,5]++upN 7 5++upN 25 71,[(3,(.ob 9))]⟩) [] [] (.r' (.two (.two (.r' (.two (.two (.node [] (some ⟨[(42,(.one .bool))],[],upN 35 8,[]⟩) [] [] .leaf .leaf) .leaf) (.r' (.r' (.r' (.two (.node [] (some ⟨[(95,(.one .bool))],[],upN 67 29,[(5,(.ob 1)),(6,(.ob 0))]⟩) [] [] .leaf .leaf) .leaf)))))) .leaf) .leaf)) .leaf) .leaf)) .leaf))))) [] iL=(∀s i A c (l:List LOp) rk (kk:List Int),∀Q,(((∀o∈l,LOp.Ok o))∧l.length≤140737488355328∧Q ⟨(.bool true),none,[],[],[]⟩)→ng s i A c l rk kk Q):=by kernel_rfl
theorem nf:LV Un prog 4 iL:=verify Tryz.func4 aa (tb:= [(16,l0),(8,jo),(11,jV),(13,kG),(17,n6),(18,cB),(9,jS),(19,iQ),(20,kM)]) ⟨zi,BQ,uF,xe,B8,gm,uy,rI,xy,trivial⟩ (by kernel_rfl) (nh.mpr fun s i A c l rk kk Q h=>by
 obtain⟨Jl,Jp,h⟩:=h
 exact fun gv=>ae (fun c1 r s1 f1 s2 JF f2=>⟨fun Kw=>(Kw=false),(by rfl),fun _ Kw hx=>ae (fun c2=>(by exfalso;have h9:Kw=false:=hx;rw [h9]at c2;cases c2)) fun c2=>allEq<| ⟨fun m d i2 s3=>(m=((l.length:Int) - i2).toNat)∧(0≤i2∧i2≤(l.length:Int))∧(d=some (Addr.mk (Sv.pD s3) 0 none))∧(DB.Good s3.D),⟨_,rfl,(by omega),(by rw [JF]),(by rw [JF,‹s1.D=_›];exact DB.C6 _)⟩,fun m _ d i2 s3 ⟨hm,hi,hd,hG⟩=>fun f3=>aq (fun c3=>af (by omega) fun e4 Ju=>⟨fun Nk=>(Nk=decide ((l.getD i2.toNat (LOp.mk 0 0 0 0 0)).k<1∨(l.getD i2.toNat (LOp.mk 0 0 0 0 0)).k>5)),aq (fun c4=>(by exact(decide_eq_true (.inl c4)).symm)) fun c4=>(by exact decide_eq_decide.2 ⟨.inr,fun h=>h.resolve_left c4⟩),fun _ Nk Ul=>ae (fun c5=>af (by rw [hd]) fun e5=>af (Jl _ (jG (by omega))) fun e6 s4 K4 f7=>af (by rw [hd,K4]) fun e8 JO f9 s5 Vc f10=>allEq<| ⟨_,(by rw [ax (by omega)];omega),rfl,(by rw [ax (by omega)];omega),(by(rw [Vc];done)),(by(rw [Vc,‹JO.D=s4.D›,K4];exact DB.vY hG))⟩) fun c5=>(by(have hk:1≤(l.getD i2.toNat (LOp.mk 0 0 0 0 0)).k∧(l.getD i2.toNat (LOp.mk 0 0 0 0 0)).k≤5:=by rw [c5]at Ul;have:=of_decide_eq_false Ul.symm;omega);(have ho:=Jl _ (jG (d:=LOp.mk 0 0 0 0 0) (show i2.toNat<l.length by omega)));(have Up:i64.wrap (l.getD i2.toNat (LOp.mk 0 0 0 0 0)).a=(l.getD i2.toNat (LOp.mk 0 0 0 0 0)).a:=ax (by have:=ho.1;omega));exact af (by rw [hd]) fun VF rN rM E OO f12 m2 Jw f13=>af (by rw [OO,Jw];exact DB.pdS _) fun Xe NX=>af (by rw [hd]) fun Xd=>af (Jl _ (jG (by omega))) fun Vj s4 K4 f17=>aK (fun c6=>af (by rw [hd,K4]) fun e18=>af (by rw [OO,Jw];exact DB.pdS _) fun e19=>af (by rw [OO,Jw,DB.iF,K4];exact(DB.FG c6).symm) fun e20=>allEq<| ⟨_,(by rw [ax (by omega)];omega),rfl,(by rw [ax (by omega)];omega),(by(rw [K4];exact hd)),(by(rw [K4];exact DB.sw (Jl _ (jG (by omega))) hG (‹Sv.Ok s3› :Sv.Ok s3).wf))⟩) fun c6=>(by(have QY:=DB.yH (d:=s3.D) (o:=(l.getD i2.toNat (LOp.mk 0 0 0 0 0))) (by omega));(have Pv:E.on m2=s3.D:=by rw [OO,Jw,DB.iF]);exact⟨fun Rn s5 s6=>(Rn=false),aK (fun c7=>(by exfalso;rw [Pv,Up]at c7;exact c7 QY.1)) fun c7=>aK (fun c8=>aK (fun c9=>(by exfalso;rw [Pv,Up]at c9;exact c9 (QY.2 (by omega)).1)) fun c9=>aK (fun MW=>(by exfalso;rw [Pv,Up]at MW;exact MW (QY.2 (by omega)).2)) fun MW=>af (by rw [OO,Jw];exact DB.pdS _) fun e21=>af (Jl _ (jG (by omega))) fun e22=>af (by rw [Pv];exact hG) fun e23=>af (by rw [Pv];omega) fun e24=>af (hk) fun e25 E1 Jy f26 m3 Ke f27=>af (by rw [hd,K4]) fun e28=>af (by rw [Jy,Ke];exact DB.pdS _) fun e29=>af (by rw [Jy,Ke,DB.iF,Pv,K4]) fun e30=>(by rfl)) fun c8=>af (by rw [OO,Jw];exact DB.pdS _) fun e31=>af (Jl _ (jG (by omega))) fun e32=>af (by rw [Pv];exact hG) fun e33=>af (by rw [Pv];omega) fun e34=>af (hk) fun e35 E1 Jy f36 m3 Ke f37=>af (by rw [hd,K4]) fun e38=>af (by rw [Jy,Ke];exact DB.pdS _) fun e39=>af (by rw [Jy,Ke,DB.iF,Pv,K4]) fun e40=>(by rfl),fun _ Rn s5 s6 Wg f41 f42=>ae (fun Ni=>(by exfalso;have h9:Rn=false:=Wg;rw [h9]at Ni;cases Ni)) fun Ni=>allEq<| ⟨_,(by rw [ax (by omega)];omega),rfl,(by rw [ax (by omega)];omega),(by(rw [K4];exact hd)),(by(rw [K4];exact DB.sw (Jl _ (jG (by omega))) hG (‹Sv.Ok s3› :Sv.Ok s3).wf))⟩⟩))⟩) fun c3=>mG h (by grind)⟩⟩) fun c1=>⟨fun Kw=>(Kw=false),(by rfl),fun _ Kw hx=>ae (fun OR=>(by exfalso;have h9:Kw=false:=hx;rw [h9]at OR;cases OR)) fun OR=>mG h (by grind)⟩)
end
end Go.Proofs.YtinhphjfnedhgaaGreatDoor
namespace Go.Proofs.YtinhphjfnedhgaaGreatDoor
open Go.Proofs.Tryz (prog)
open Go Go.RowKit V Go.ChangeShapes Go.WideShapes Go.ChangeAt
open Go.IntKind (i64 u32 u64)
open Enc (enc)
theorem Fo:ownKnob prog.godebug=none:=by kernel_rfl
theorem oq:laidOutB prog=true:=by kernel_rfl
theorem Fp:prog.bytesOf 31=24:=by kernel_rfl
theorem G8:prog.cellsOf 31=5:=by kernel_rfl
theorem yu:prog.cellsOf 3=1:=by kernel_rfl
theorem qj:prog.cellsOf 29=1:=by kernel_rfl
def IV:DataW Unit→List Int
 | .agg l=>l.filterMap fun d=>match d with
  | .lit (.int _ x)=>some x
  | _=>none
 | _=>[]
def kR:List Int:=IV Rows.laid_warden_sha_rounds
theorem Ft:Rows.laid_warden_sha_rounds (H:=Unit)= .agg (kR.map fun x=>.lit (.int .u32 x)):=by kernel_rfl
theorem Dm:kR.length=64:=by kernel_rfl
theorem z5:prog.globalNamed "warden/sha.rounds" =some 0:=by kernel_rfl
theorem Ff {W:World}(h:laidMetH prog Rows.buildRefusesRow.laid W):ln W 0 kR:=by
 rw [MakeChecks.laidMetH_plain _ _ _ (by kernel_rfl)]at h
 obtain⟨ps,⟨g0,t0,Qk,f0,p0,q0,Vz,Wl,hv0,hd0,hq0,e0⟩,_,hc⟩:=h
 obtain rfl:=Option.some.inj (z5.symm.trans Vz)
 obtain rfl:=Option.some.inj ((show(prog.globals[0]?).map (·.type)=some 287 by kernel_rfl).symm.trans Wl)
 rw [Ft]at hd0
 have c0:=AW Tryz.underlying287 Tryz.underlying29 qj hd0 (by kernel_rfl)
 obtain⟨Qk⟩:=Qk
 simp only at c0
 subst c0
 have s0:∀x:Nat,MemPlace.row ⟨0,0,none⟩ (kR.map (Value.int .u32)).toArray.size ⊆ ps:=fun _=>by rw [e0];intro y hy;simp only [List.mem_append];exact .inl (.inl hy)
 have z0:0<(kR.map (Value.int .u32)).toArray.size:=by simp [Dm]
 exact⟨Dm,CX z5 hv0 z0 (s0 0) hc⟩
theorem DC(os:Os)(args:Array Value):laidMetH prog Rows.buildRefusesRow.laid ((World.doorLaid prog 400 os).forCall (fun _ _=>0) ⟨#[],args,[]⟩).memory:=
 laidMetH_of_parts3 (fuel:=8) (laidMet_of_run' 8 (by kernel_rfl) (by kernel_rfl)) (by kernel_rfl) (by kernel_rfl)
set_option maxRecDepth 100000 in
theorem yr(os:Os)(started:os.Started)(H:Type)(enc:TypeId×Value→H):
 ReturnsInHanded {} Tryz.checked os 4 .any (fun w args=>(Rows.buildRefusesSpec.pre enc prog Tryz.f4 [] false w args∧laidMetH prog Rows.buildRefusesRow.laid w)∧sizedMet enc prog Tryz.f4 (OpenSpec.ofChange Rows.buildRefusesSpec) false w args)
  (Rows.buildRefusesSpec.post enc prog Tryz.f4 false true false false):=by
 refine returnsInHanded_of_change_and (C:=Tryz.checked) (X:=fun w _=>laidMetH prog Rows.buildRefusesRow.laid w) (fun _ _ _ hh h=>h.of_heap hh) Fo started (by kernel_rfl) Tryz.func4
  (ChangeSpec.witness_shaped (enc:=enc) (C:=Tryz.checked) (os:=os) (X:=fun w _=>laidMetH prog Rows.buildRefusesRow.laid w) false (World.doorLaid prog 400 os) #[.agg #[.int .i64 1,.int .i64 1],.slice none 0 0] 8 rfl (World.shaped_of_RefB (by kernel_rfl) (by kernel_rfl)) (by kernel_rfl) (by kernel_rfl) (by kernel_rfl) (DC os _)) ?_
 intro W base args ds gs before PZ hW _ Uu hL _
 have JR:(DataW.weightsEach prog (Tryz.f4.params.toList++Rows.buildRefusesSpec.plain.varTypes prog) (ds++gs)).all (· ≤reachBytes)=true:=Uu
 clear Uu
 have QE:∀(j:Nat) t v,Tryz.f4.params[j]? =some t→args[j]? =some v→Value.okWide prog W .any base t v:=PZ
 have W7:=hW
 obtain⟨p,q,hA0,hV,rfl,_,_⟩:=hW
 have hA:DataW.TrodAll enc prog W 0 (fun _=>true) true Tryz.f4.params.toList args.toList ds p:=hA0
 rw [Tryz.params4]at hA QE JR
 obtain⟨v0,v1,d0,d1,p0,p1,rfl,rfl,rfl,h0,h1⟩:=trodAll_two hA
 obtain⟨rfl,rfl⟩:=trodVars_none hV
 obtain⟨x0,x1,rfl⟩:=CY Tryz.underlying23 ⟨rfl,rfl⟩ ⟨yu,yu⟩ Tryz.underlying3 Tryz.underlying3 (by kernel_rfl) (QE 0 23 v0 rfl rfl) h0
 obtain⟨A,n,c,l,rfl,hr,hw,WS,hs⟩:=CZ Tryz.underlying24 Tryz.underlying31 G8 ⟨rfl,rfl,rfl,rfl,rfl⟩ ⟨yu,qj,qj,qj,qj⟩ Tryz.underlying3 Tryz.underlying29 Tryz.underlying29 Tryz.underlying29 Tryz.underlying29 (QE 1 24 v1 rfl rfl) h1
 clear hA0 PZ
 simp only [List.append_nil]at W7
 have JM:∀x∈p0++p1,x.block<W.heap.size:=fun x hx=>by simpa using W7.lt x hx
 have QM:=hr.len
 subst QM
 have b0:c*24≤140737488351232:=by
  rcases hs with rfl | ⟨el,sp,rfl,hlen⟩
  ·omega
  ·have:=sized_slice JR (j:=1) (t:=24) (e:=31) rfl rfl Tryz.underlying24
   rw [Fp,hlen]at this
   simpa [reachBytes]using this
 have hR1:=Ff hL
 have ne:∀g cs T,(∀v∈cs.toList,∀x,v≠ .int .i64 x)→Blk W g cs T→¬(0<l.length∧∃p,A=some p∧g=p.block):=fun g cs T Kq hb ⟨h0,p,hp,hg⟩=>by
  obtain⟨x,hx⟩:=WS p hp h0
  exact Kq _ (cell_of hb (by rw [V.block_add];exact hg.symm) hx) x rfl
 have n1:∀g,(∃T,Blk W g (bu kR) T)→¬(0<l.length∧∃p,A=some p∧g=p.block):=fun g ⟨T,hb⟩=>ne g _ T (fun v hv x e=>by
  subst e
  have hv:Value.int .i64 x∈kR.map (Value.int .u32):=hv
  obtain⟨y,_,hy⟩:=List.mem_map.1 hv
  cases hy) hb
 let X:Nat→Nat→Prop:=fun i=>if i=0 then fun k=>0<l.length∧∃p,A=some p∧k=p.block else fun k=>k=0
 have hsat:Sat (U:=Un) [.lst 5 false 31 A c l,.ob 5 (fun _=>0) kR] X W:=⟨fun i r LW=>by
  match i with
  | 0=>simp only [nth,Option.some.injEq]at LW;subst LW;exact hr
  | 1=>simp only [nth,Option.some.injEq]at LW;subst LW;exact(⟨fun k=>⟨fun h=>h,fun h=>h⟩,hR1⟩:(∀k,k=0↔X 1 k)∧ln W 0 kR)
  | i+2=>simp [nth]at LW,fun i j hi hj Kh k k1 k2=>by
  have hi:i<2:=hi
  have hj:j<2:=hj
  have a0:∀k,X 1 k→k=0:=fun _ h=>h
  have m1:¬X 0 0:=n1 _ hR1.blk
  match i,hi,j,hj with
  | 0,_,0,_ | 1,_,1,_=>exact Kh rfl
  | 0,_,1,_=>rw [a0 k k2]at k1;exact m1 k1
  | 1,_,0,_=>rw [a0 k k1]at k2;exact m1 k2⟩
 have Q1:l.length≤c:=hr.cap
 have NV:l.length≤140737488355328:=by omega
 refine(nf x0 x1 A c l (fun _=>0) kR (fun o=>o=_) ⟨hw,NV,rfl⟩ X W hsat (fun _ _ h=>by cases h)).mono ?_
 rintro e W' ⟨out,rs',X',rfl,rfl,JS,hp⟩
 have Mg:Pu W W':=hp.ch.mono fun k ⟨j,hj,_⟩=>by cases hj
 have hn:Below W.heap.size W W':=⟨Mg.kept.os,Mg.kept.tape,Mg.kept.output,Mg.kept.size,fun k hk=>Mg.kept.block k ⟨hk,fun h=>h⟩⟩
 refine⟨_,rfl,_,_,_,[],p0++p1,[],W7,trodAll_mk1 (shut_bool Tryz.underlying4 _),?_,rfl,hn.frame _,fun h=>by cases h⟩
 exact trodAll_mk2 (Below.trod oq (by kernel_rfl) (of_decide_eq_true (by kernel_rfl)) h0 hn (fun x hx=>JM x (List.mem_append_left _ hx)))
  (Below.trod oq (by kernel_rfl) (of_decide_eq_true (by kernel_rfl)) h1 hn (fun x hx=>JM x (List.mem_append_right _ hx)))
theorem nT:Rows.BuildRefusesSaid:=
 OpenClaim.holds_of_wide 4 Tryz.f4 rfl rfl rfl rfl rfl rfl rfl ⟨rfl,rfl,rfl,rfl,rfl⟩ rfl rfl rfl rfl rfl (by kernel_rfl) Tryz.func4 (by kernel_rfl)
  (of_decide_eq_true (by kernel_rfl)) (by unfold Func.isWrapper;(rw [if_neg (by decide+kernel)];exact⟨rfl,rfl⟩))
  (fun os started H enc _=>yr os started H enc)
end Go.Proofs.YtinhphjfnedhgaaGreatDoor
namespace Go.Proofs.YtinhphjfnedhgaaGreatDoor
open Go.Proofs.Tryz (prog)
open Go
theorem buildRefuses_card:Rows.BuildRefusesCardSaid:=
 Claim7.holds_tied_plain_at .later [] [.data] true (true, "4005ff82abade87380ae656bae1277cdf77dd5fa8f92b5447bbfc42810012e7b") true
  nT (fun _ h=>by cases h) (by kernel_rfl) (fun _ h=>by cases h) buildRefuses_row_tie rfl ⟨rfl,rfl⟩ (by kernel_rfl) rfl
  (fun f fn hf P9=>by
   obtain rfl:f=4:=Option.some.inj ((show prog.funcNamed "warden/wardenlaw17.BuildRefuses" =some 4 by kernel_rfl).symm.trans hf) |>.symm
   obtain rfl:fn=Tryz.f4:=(Option.some.inj (Tryz.func4.symm.trans P9)).symm
   exact⟨by kernel_rfl,fun j t ht=>by
    rw [Tryz.params4]at ht
    have h3:t=23∨t=24:=by
     rcases j with _ | _ | j
     ·left;simpa using ht.symm
     ·right;simpa using ht.symm
     ·simp at ht
    rcases h3 with rfl | rfl
    ·exact(show prog.wantsStandIn 23=false by kernel_rfl)
    ·exact(show prog.wantsStandIn 24=false by kernel_rfl)⟩)
  (by kernel_rfl)
#print axioms buildRefuses_card
end Go.Proofs.YtinhphjfnedhgaaGreatDoor
