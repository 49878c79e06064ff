/- BuildMeasures returns true for every input, and each argument reads behind the call as it read before; what the listed variable reads as is tied to the program's text; no condition. -/
import Derived.Test.YtinhphjfnedhgaaGreatDoorY4
import Derived.KernelRfl
set_option linter.unusedVariables false
set_option linter.unusedSimpArgs false
namespace Go.Proofs.YtinhphjfnedhgaaGreatDoor
open Go.Proofs.Tryz (prog)
open Go Go.RowKit V
open Go.IntKind (i64 u32 u64)
section
section
variable {U:Uni}
theorem aS.two {rs:List (Res U)} {X:Nat→Nat→Prop} {w w':World} {Q:Ou U→Prop} {v:Value} {k:Option Kn} {Z1 Z2:Nat→Prop} {r1 r2:Res U} {kc:List (Key×Kn)}(hs:Sat rs X w)(q:Pu w w')(h1:RS Z1 w' r1)(h2:RS Z2 w' r2)(Ud:∀k,Z1 k→w.heap.size≤k)(Wh:∀k,Z2 k→w.heap.size≤k)(hd:∀k,Z1 k→¬Z2 k)(hQ:Q ⟨v,k,[],[r1,r2],kc⟩)(hk:KnO (rs++ [r1,r2]) v k)
 (VP:∀key k,(key,k)∈kc→fm (rs++ [r1,r2]) fr0 key k):aS rs [] X w Q (.returned v) w':=by
 have n1:nth (rs++ [r1,r2]) rs.length=some r1:=by rw [bu,if_neg (by omega),Nat.sub_self];rfl
 have n2:nth (rs++ [r1,r2]) (rs.length+1)=some r2:=by rw [bu,if_neg (by omega),show rs.length+1 - rs.length=1 by omega];rfl
 let X':Nat→Nat→Prop:=fun i=>if i=rs.length then Z1 else if i=rs.length+1 then Z2 else X i
 have e1:X' rs.length=Z1:=if_pos rfl
 have e2:X' (rs.length+1)=Z2:=by show(if _ then _ else if _ then _ else _)=_;rw [if_neg (by omega),if_pos rfl]
 have e0:∀i,i<rs.length→X' i=X i:=fun i hi=>by show(if _ then _ else if _ then _ else _)=_;rw [if_neg (by omega),if_neg (by omega)]
 have new:∀i,rs.length≤i→i<rs.length+2→∀k,X' i k→w.heap.size≤k:=fun i ha hb k hk=>by
  rcases(show i=rs.length∨i=rs.length+1 by omega)with e | e
  ·subst e;rw [e1]at hk;exact Ud k hk
  ·subst e;rw [e2]at hk;exact Wh k hk
 refine⟨⟨v,k,[],[r1,r2],kc⟩,rs,X',fi hk,hQ,by simp [bO],⟨⟨fun i r hr=>?_,fun i j hi hj NJ k OA NT=>?_⟩,q.mono (fun _ h=>h.elim),fun i hi _=>e0 i hi,fun i hi=>(by cases hi),fun i ha hb=>new i ha (by simpa using hb),.inr hk,fun key k hm _=>VP key k hm⟩⟩
 ·have hl:=bc hr
  simp only [List.length_append,List.length_cons,List.length_nil]at hl
  by_cases hi:i<rs.length
  ·rw [bu,if_pos hi]at hr
   rw [e0 i hi]
   exact(hs.res i r hr).ch q (by simp)
  ·rcases(show i=rs.length∨i=rs.length+1 by omega)with e | e
   ·subst e;rw [n1]at hr;injection hr with hr;subst hr;rw [e1];exact h1
   ·subst e;rw [n2]at hr;injection hr with hr;subst hr;rw [e2];exact h2
 ·simp only [List.length_append,List.length_cons,List.length_nil]at hi hj
  by_cases NP:i<rs.length
  ·have hl:k<w.heap.size:=hs.lt NP k (by rw [e0 i NP]at OA;exact OA)
   by_cases Pm:j<rs.length
   ·rw [e0 i NP]at OA;rw [e0 j Pm]at NT
    exact hs.dis i j NP Pm NJ k OA NT
   ·have:=new j (by omega) (by omega) k NT;omega
  ·by_cases Pm:j<rs.length
   ·have hl:k<w.heap.size:=hs.lt Pm k (by rw [e0 j Pm]at NT;exact NT)
    have:=new i (by omega) (by omega) k OA;omega
   ·rcases(show i=rs.length∧j=rs.length+1∨j=rs.length∧i=rs.length+1 by omega)with⟨ea,eb⟩ | ⟨ea,eb⟩
    ·subst ea;subst eb;rw [e1]at OA;rw [e2]at NT;exact hd k OA NT
    ·subst ea;subst eb;rw [e2]at OA;rw [e1]at NT;exact hd k NT OA
end
end
end Go.Proofs.YtinhphjfnedhgaaGreatDoor
namespace Go.Proofs.YtinhphjfnedhgaaGreatDoor
open Go.Proofs.Tryz (prog)
open Go Go.RowKit V
open Go.IntKind (i64 u32 u64)
section
set_option maxRecDepth 100000
set_option maxHeartbeats 1000000
attribute [local irreducible] Vc2 VcD
def iZ:Ctr Un:=⟨[.one (.obj 0 0)],[],[.ob 1 [(1,1,0)],.ob 0 []],[],fun r E rm m K=>E.n=m.S∧∀(rN:Nat→Nat)(rM:Nat→Nat),K ⟨(.pointer (some (Addr.mk (rN 0) 0 none))),(some (.p (.obj 2 0 0))),[],[(.ob 1 rN E),(.ob 0 rM m)],[(.l 2 1,.p (.obj 3 0 0))]⟩⟩
theorem tU:LV Un prog 17 iZ:=by
 show ∀(r:Nat→Nat)(E:Pd)(rm:Nat→Nat)(m:Mem),∀Q:Ou Un→Prop,(E.n=m.S∧∀(rN:Nat→Nat)(rM:Nat→Nat),Q ⟨(.pointer (some (Addr.mk (rN 0) 0 none))),(some (.p (.obj 2 0 0))),[],[(.ob 1 rN E),(.ob 0 rM m)],[(.l 2 1,.p (.obj 3 0 0))]⟩)→∀(X:Nat→Nat→Prop)(w:World),Sat (U:=Un) [(.ob 1 r E),(.ob 0 rm m)] X w→av (U:=Un) [(.ob 1 r E),(.ob 0 rm m)] fr0 [(.l 0 1,.p (.obj 1 0 0))]→Calls prog 17 #[(.pointer (some (Addr.mk (r 0) 0 none)))] w (aS (U:=Un) [(.ob 1 r E),(.ob 0 rm m)] [] X w Q)
 intro r E rm m Q hQ X w hs hl
 obtain⟨hn,hQ⟩:=hQ
 obtain⟨a,L,hg,hr,hD,Qg,QJ⟩:=ya hs hl hn
 refine(K8 hD).mono ?_
 rintro e w' ⟨u,rfl,L2,rfl,V2,hz,q⟩
 have VC:=V2.pd
 rw [Pd.cD E m hn]at VC
 exact aS.two (Z1:=fun k=>k=L2.g∨k=L2.a) (Z2:=L2.M.X) (k:=some (.p (.obj 2 0 0))) (kc:= [(.l 2 1,.p (.obj 3 0 0))]) hs q
  (show RS (U:=Un) _ w' (.ob 1 (fun i=>if i=0 then L2.g else L2.M.g) E)from(⟨L2.a,fun k=>Iff.rfl,VC⟩:cq 1 (fun i=>if i=0 then L2.g else L2.M.g) E (fun k=>k=L2.g∨k=L2.a) w'))
  (show RS (U:=Un) _ w' (.ob 0 (fun _=>L2.M.g) m)from(⟨L2.M,rfl,fun _=>Iff.rfl,V2.mem⟩:cq 0 (fun _=>L2.M.g) m L2.M.X w'))
  (fun k hk=>hz k (hk.imp id .inl)) (fun k hk=>hz k (.inr (.inr hk))) (fun k h1 h2=>by rcases h1 with rfl | rfl;exact V2.dis.2.1 h2;exact V2.dis.2.2 h2) (hQ (fun i=>if i=0 then L2.g else L2.M.g) (fun _=>L2.M.g)) rfl (wh ⟨_,_,_,rfl,rfl⟩)
end
section
set_option maxRecDepth 100000
set_option maxHeartbeats 1000000
attribute [local irreducible] Vc2 VcD
attribute [local grind=] Pd.eh Pd.eV Pd.km Pd.oe Pd.cD Pd.iH Pd.kj Pd.gV Pd.nU Pd.AT
attribute [local grind .] Pd.Ok.ent
attribute [local grind→] Pd.Ok.eU
end
section
set_option maxRecDepth 100000
set_option maxHeartbeats 1000000
attribute [local irreducible] Vc2 VcD
end
section
set_option maxRecDepth 100000
set_option maxHeartbeats 1000000
attribute [local irreducible] Vc2 VcD
attribute [local grind=] Pd.eh Pd.eV Pd.km Pd.oe Pd.cD Pd.iH Pd.kj Pd.gV Pd.nU Pd.AT
attribute [local grind .] Pd.Ok.ent
attribute [local grind→] Pd.Ok.eU
def lV:Ctr Un:=⟨[.one (.obj 0 0),.enc 5],[(2,5)],[.ob 1 [(1,1,0)],.ob 0 [],.ob 5 []],[0,1],fun o r E rm m rk kk K=>E.n=m.S∧LOp.Ok o∧K ⟨(.int .i64 ((E.on m).bh o)),none,[.ob 1 ((DB.call kk (E.on m) o).pd),.ob 0 ((DB.call kk (E.on m) o).mem)],[],[]⟩⟩
def Aa(o:LOp)(r:Nat→Nat)(E:Pd)(rm:Nat→Nat)(m:Mem)(rk:Nat→Nat)(kk:List Int)(Q:Ou Un→Prop):Prop:=
 Pd.Ok E→
 Mem.Wf m→
 ∀(gv:Nat),
 ∀x7:Bool,x7=((o.k:Int)==1)→
 split x7 (
  E.n=m.S∧
  (0≤o.a∧o.a<4294967296)∧
  (0≤o.b∧o.b<4294967296)∧
  ∀(E1:Pd),E1=((E.on m).bx o.a o.b).pd→
  Pd.Ok E1→
  ∀(m1:Mem),m1=((E.on m).bx o.a o.b).mem→
  Mem.Wf m1→
  Q ⟨(.int .i64 (i64.wrap ((E.on m).cn o.a o.b))),none,[.ob 1 E1,.ob 0 m1],[],[]⟩) (
  ∀NV:Bool,NV=((o.k:Int)==2)→
  split NV (
   E.n=m.S∧
   (0≤o.a∧o.a<4294967296)∧
   (0≤o.b∧o.b<4294967296)∧
   (0≤o.c∧o.c<4294967296)∧
   ∀(E1:Pd),E1=(DB.bC kk (E.on m) o.a o.b o.c).pd→
   Pd.Ok E1→
   ∀(m1:Mem),m1=(DB.bC kk (E.on m) o.a o.b o.c).mem→
   Mem.Wf m1→
   Q ⟨(.int .i64 (i64.wrap ((E.on m).bM o.a o.b))),none,[.ob 1 E1,.ob 0 m1],[],[]⟩) (
   ∀SL:Bool,SL=((o.k:Int)==3)→
   split SL (
    E.n=m.S∧
    (0≤o.a∧o.a<4294967296)∧
    (0≤o.b∧o.b<4294967296)∧
    (0≤o.c∧o.c<4294967296)∧
    ∀(E1:Pd),E1=(DB.dt kk (E.on m) o.a o.b o.c).pd→
    Pd.Ok E1→
    ∀(m1:Mem),m1=(DB.dt kk (E.on m) o.a o.b o.c).mem→
    Mem.Wf m1→
    Q ⟨(.int .i64 (i64.wrap ((E.on m).cN o.a o.b o.c))),none,[.ob 1 E1,.ob 0 m1],[],[]⟩) (
    ∀x38:Bool,x38=((o.k:Int)==4)→
    split x38 (
     E.n=m.S∧
     (0≤o.a∧o.a<4294967296)∧
     (0≤o.b∧o.b<4294967296)∧
     (0≤o.c∧o.c<4294967296)∧
     (0≤o.d∧o.d<4294967296)∧
     ∀(E1:Pd),E1=(DB.ez kk (E.on m) o.a o.b o.c o.d).pd→
     Pd.Ok E1→
     ∀(m1:Mem),m1=(DB.ez kk (E.on m) o.a o.b o.c o.d).mem→
     Mem.Wf m1→
     Q ⟨(.int .i64 (i64.wrap ((E.on m).cH o.a o.b o.c o.d))),none,[.ob 1 E1,.ob 0 m1],[],[]⟩) (
     E.n=m.S∧
     (0≤o.a∧o.a<4294967296)∧
     (0≤o.b∧o.b<4294967296)∧
     (0≤o.c∧o.c<4294967296)∧
     ∀(E1:Pd),E1=(DB.du kk (E.on m) o.a o.b o.c).pd→
     Pd.Ok E1→
     ∀(m1:Mem),m1=(DB.du kk (E.on m) o.a o.b o.c).mem→
     Mem.Wf m1→
     Q ⟨(.int .i64 (i64.wrap ((E.on m).cY o.a o.b o.c))),none,[.ob 1 E1,.ob 0 m1],[],[]⟩))))
theorem Ab:Vc2 Un prog (bw [(31,gi),(32,ft),(34,j4),(35,l4),(36,j5)]) [7,16,27,38] Tryz.f9 .leaf [] lV=(∀(o:LOp) r (E:Pd) rm (m:Mem) rk (kk:List Int),∀Q,(lV.body o r E rm m rk kk Q)→Aa o r E rm m rk kk Q):=by kernel_rfl
theorem z9:LV Un prog 9 lV:=verify Tryz.func9 aa (tb:= [(31,gi),(32,ft),(34,j4),(35,l4),(36,j5)]) ⟨vE,tV,Fq,Ij,Fx,trivial⟩ (by kernel_rfl) (Ab.mpr fun o r E rm m rk kk Q h=>by
 obtain⟨Ni,NI,h⟩:=h
 exact fun f1 f2=>(by obtain⟨ho1,P9,ho3,ho4⟩:=NI;have hsm:=DB.Ja (E.on m) o;(have Tj:i64.wrap ((E.on m).bh o)=(E.on m).bh o:=aA (by omega));unfold DB.bh at Tj;exact fun gv=>allEq<| aK (fun c1=>ao ‹_› fun s3=>ao ‹_› fun s4=>ao ‹_› fun s5 E1 OH f6 m1 NB f7=>aB h (cG (by unfold DB.bh;rw [if_pos ‹_›]at Tj ⊢;exact Tj.symm)) (ab (uO1 (by(rw [DB.call,if_pos ‹_›];subst_vars;rfl))) (ab (uO0 (by(rw [DB.call,if_pos ‹_›];subst_vars;rfl))) rfl)) rfl) fun c1=>allEq<| aK (fun c2=>ao ‹_› fun s8=>ao ‹_› fun s9=>ao ‹_› fun ZI=>ao ‹_› fun N6 E1 OH f12 m1 NB f13=>aB h (cG (by unfold DB.bh;rw [if_neg ‹_›,if_pos ‹_›]at Tj ⊢;exact Tj.symm)) (ab (uO1 (by(rw [DB.call,if_neg ‹_›,if_pos ‹_›];subst_vars;rfl))) (ab (uO0 (by(rw [DB.call,if_neg ‹_›,if_pos ‹_›];subst_vars;rfl))) rfl)) rfl) fun c2=>allEq<| aK (fun c3=>ao ‹_› fun s14=>ao ‹_› fun ZH=>ao ‹_› fun s16=>ao ‹_› fun s17 E1 OH f18 m1 NB f19=>aB h (cG (by unfold DB.bh;rw [if_neg ‹_›,if_neg ‹_›,if_pos ‹_›]at Tj ⊢;exact Tj.symm)) (ab (uO1 (by(rw [DB.call,if_neg ‹_›,if_neg ‹_›,if_pos ‹_›];subst_vars;rfl))) (ab (uO0 (by(rw [DB.call,if_neg ‹_›,if_neg ‹_›,if_pos ‹_›];subst_vars;rfl))) rfl)) rfl) fun c3=>allEq<| aK (fun c4=>ao ‹_› fun s20=>ao ‹_› fun QZ=>ao ‹_› fun s22=>ao ‹_› fun s23=>ao ‹_› fun s24 E1 OH f25 m1 NB f26=>aB h (cG (by unfold DB.bh;rw [if_neg ‹_›,if_neg ‹_›,if_neg ‹_›,if_pos ‹_›]at Tj ⊢;exact Tj.symm)) (ab (uO1 (by(rw [DB.call,if_neg ‹_›,if_neg ‹_›,if_neg ‹_›,if_pos ‹_›];subst_vars;rfl))) (ab (uO0 (by(rw [DB.call,if_neg ‹_›,if_neg ‹_›,if_neg ‹_›,if_pos ‹_›];subst_vars;rfl))) rfl)) rfl) fun c4=>ao ‹_› fun s27=>ao ‹_› fun s28=>ao ‹_› fun s29=>ao ‹_› fun s30 E1 OH f31 m1 NB f32=>aB h (cG (by unfold DB.bh;rw [if_neg ‹_›,if_neg ‹_›,if_neg ‹_›,if_neg ‹_›]at Tj ⊢;exact Tj.symm)) (ab (uO1 (by(rw [DB.call,if_neg ‹_›,if_neg ‹_›,if_neg ‹_›,if_neg ‹_›];subst_vars;rfl))) (ab (uO0 (by(rw [DB.call,if_neg ‹_›,if_neg ‹_›,if_neg ‹_›,if_neg ‹_›];subst_vars;rfl))) rfl)) rfl))
def jZ:Ctr Un:=⟨[.one (.obj 0 0),.one (.int .i64)],[],[.ob 1 [(1,1,0)],.ob 0 []],[],fun p r E rm m K=>E.n=m.S∧K ⟨(.bool ((E.on m).mG p)),none,[],[],[]⟩⟩
def E8(p:Int)(r:Nat→Nat)(E:Pd)(rm:Nat→Nat)(m:Mem)(Q:Ou Un→Prop):Prop:=
 Pd.Ok E→
 Mem.Wf m→
 E.n=m.S∧
 ∀(gv:Nat),
 E.n=m.S∧
 ∀(Nc:Nat),
 ∃J:Bool→Prop,(
  split (((E.on m).aR p)==0) (
   split (((E.on m).aR (((E.on m).entry p).owner))==0) (
    split (((E.on m).entry p).typ !=0) (
     split (((E.on m).entry (((E.on m).entry p).owner)).state==3) (
      split (((E.on m).entry p).typ !=1) (
       J true) (
       J (((E.on m).entry p).refs==0))) (
      J false)) (
     J false)) (
    J false)) (
   J false))∧∀(Oq:Nat→Value)(x4:Bool),J x4→
 Q ⟨(.bool x4),none,[],[],[]⟩
theorem E9:Vc2 Un prog (bw [(18,dj)]) [] Tryz.f44 (.r' (.r' (.r' (.two (.node [] (some ⟨[(4,(.one .bool))],[],[4]++upN 22 26,[]⟩) [] [] .leaf .leaf) .leaf)))) [] jZ=(∀p r (E:Pd) rm (m:Mem),∀Q,(jZ.body p r E rm m Q)→E8 p r E rm m Q):=by kernel_rfl
section
attribute [local grind=] DB.mG DB.entry DB.aR
theorem E7:LV Un prog 44 jZ:=verify Tryz.func44 aa (tb:= [(18,dj)]) ⟨gI,trivial⟩ (by kernel_rfl) (E9.mpr fun p r E rm m Q h=>by
 obtain⟨Ni,h⟩:=h
 exact fun f1 f2=>ao ‹_› fun s3 gv=>ao ‹_› fun s4 Nc=>gh (((((E.on m).aR p):Int)==0) && (((((E.on m).aR (((E.on m).entry p).owner)):Int)==0) && (((((E.on m).entry p).typ:Int) !=0) && (((((E.on m).entry (((E.on m).entry p).owner)).state:Int)==3) && (((((E.on m).entry p).typ:Int) !=1) || ((((E.on m).entry p).refs:Int)==0)))))) (ae (fun c1=>ae (fun c2=>ae (fun c3=>ae (fun c4=>ae (fun c5=>(by grind)) fun c5=>(by grind)) fun c4=>(by grind)) fun c3=>(by grind)) fun c2=>(by grind)) fun c1=>(by grind))<| CY h (by grind))
end
def lW:Ctr Un:=⟨[.one (.obj 0 0),.enc 5],[],[.ob 1 [(1,1,0)],.ob 0 []],[0,1],fun o r E rm m K=>E.n=m.S∧LOp.Ok o∧K ⟨(.tuple #[]),(some (.t [])),[.ob 1 (((E.on m).beside o).pd),.ob 0 (((E.on m).beside o).mem)],[],[]⟩⟩
def Ad(o:LOp)(r:Nat→Nat)(E:Pd)(rm:Nat→Nat)(m:Mem)(Q:Ou Un→Prop):Prop:=
 Pd.Ok E→
 Mem.Wf m→
 ∀(gv:Nat),
 ∀x9:Bool,x9=((o.k:Int)==6)→
 split x9 (
  (0≤o.c∧o.c<4294967296)∧
  ∀(m1:Mem),m1=(m.write false (i64.wrap o.a) (i64.wrap ((o.b:Int).tmod 1024)) o.c)→
  Mem.Wf m1→
  Q ⟨(.tuple #[]),(some (.t [])),[.ob 1 E,.ob 0 m1],[],[]⟩) (
  ∀Re:Bool,Re=((o.k:Int)==7)→
  split Re (
   E.n=m.S∧
   ∀(Nc:Nat),
   ∃J:Bool→Prop,(
    split (((E.on m).aR (i64.wrap o.a))==0) (
     split (((E.on m).entry (i64.wrap o.a)).typ==1) (
      J (((E.on m).entry (i64.wrap o.a)).state==1)) (
      J false)) (
     J false))∧∀(Oq:Nat→Value)(RG:Bool),J RG→
   split RG (
    ∀i:Int,i=0→
    ∃I:Nat→Int→Mem→Prop,(∃m1,I m1 i m)∧∀(m1:Nat)(Us:Nat→Value)(i1:Int)(s1:Mem),I m1 i1 s1→
    Mem.Wf s1→
    split (decide (i1<26)) (
     (0≤(0:Int)∧(0:Int)<4294967296)∧
     ∀(m3:Mem),m3=(s1.write true (i64.wrap o.a) (i64.wrap (11+i1)) 0)→
     Mem.Wf m3→
     ∀i2:Int,i2=(i64.wrap (i1+1))→
     ∃m2,m2<m1∧I m2 i2 m3) (
     E.n=s1.S∧
     ∀(E1:Pd),E1=((E.on s1).setState (i64.wrap o.a) 2).pd→
     Pd.Ok E1→
     ∀(m3:Mem),m3=((E.on s1).setState (i64.wrap o.a) 2).mem→
     Mem.Wf m3→
     Q ⟨(.tuple #[]),(some (.t [])),[.ob 1 E1,.ob 0 m3],[],[]⟩)) (
    Q ⟨(.tuple #[]),(some (.t [])),[.ob 1 E,.ob 0 m],[],[]⟩)) (
   ∀x64:Bool,x64=((o.k:Int)==8)→
   split x64 (
    E.n=m.S∧
    ∀(E1:Pd),E1=((E.on m).setState (i64.wrap o.a) 3).pd→
    Pd.Ok E1→
    ∀(m1:Mem),m1=((E.on m).setState (i64.wrap o.a) 3).mem→
    Mem.Wf m1→
    Q ⟨(.tuple #[]),(some (.t [])),[.ob 1 E1,.ob 0 m1],[],[]⟩) (
    ∀Vh:Bool,Vh=((o.k:Int)==9)→
    split Vh (
     E.n=m.S∧
     split ((E.on m).mG (i64.wrap o.a)) (
      E.n=m.S∧
      ∀(E1:Pd),E1=((E.on m).dB (i64.wrap o.a)).pd→
      Pd.Ok E1→
      ∀(m1:Mem),m1=((E.on m).dB (i64.wrap o.a)).mem→
      Mem.Wf m1→
      Q ⟨(.tuple #[]),(some (.t [])),[.ob 1 E1,.ob 0 m1],[],[]⟩) (
      Q ⟨(.tuple #[]),(some (.t [])),[.ob 1 E,.ob 0 m],[],[]⟩)) (
     Q ⟨(.tuple #[]),(some (.t [])),[.ob 1 E,.ob 0 m],[],[]⟩))))
theorem Ae:Vc2 Un prog (bw [(14,bf),(42,iT),(18,dj),(43,lY),(44,jZ),(45,xn)]) [6,9,24,64,71] Tryz.f11 (.r' (.r' (.two (.r' (.two (.node [] none [] [(3,[2]),(7,[2]),(11,[2])] .leaf .leaf) (.r' (.two (.r' (.two (.node [] (some ⟨[(45,(.one .bool))],[],upN 34 12,[]⟩) [] [] .leaf .leaf) (.two (.two (.r' (.two (.node [] (some ⟨[(6,(.one (.int .i64)))],[],[6]++upN 46 13,[(1,(.ob 0))]⟩) [] [] (.r' (.two (.two (.node [] none [] [(3,[2])] .leaf .leaf) .leaf) .leaf)) .leaf) .leaf)) .leaf) .leaf))) .leaf)))) .leaf))) [] lW=(∀(o:LOp) r (E:Pd) rm (m:Mem),∀Q,(lW.body o r E rm m Q)→Ad o r E rm m Q):=by kernel_rfl
theorem Ac:LV Un prog 11 lW:=verify Tryz.func11 aa (tb:= [(14,bf),(42,iT),(18,dj),(43,lY),(44,jZ),(45,xn)]) ⟨cO,tJ,gI,Ai,E7,JW,trivial⟩ (by kernel_rfl) (Ae.mpr fun o r E rm m Q h=>by
 obtain⟨Ni,NI,h⟩:=h
 exact fun f1 f2=>(by obtain⟨ho1,P9,ho3,ho4⟩:=NI;(have Vs:i64.wrap o.a=o.a:=aA (by omega));(have hwb:i64.wrap (Int.tmod o.b 1024)=o.b % 1024:=by rw [Int.tmod_eq_emod_of_nonneg P9.1,aA (by omega)]);simp only [Vs,hwb];exact fun gv=>allEq<| aK (fun c1=>ao ‹_› fun s3 m1 NB f4=>aB h rfl (ab (uO1 (by rw [DB.beside,if_pos ‹_›];subst_vars;(rw [DB.jH (by simp only [Mem.aV,Mem.fP])];exact Pd.cD _ _ Ni))) (ab (uO0 (by rw [DB.beside,if_pos ‹_›];subst_vars;rfl)) rfl)) rfl) fun c1=>allEq<| aK (fun c2=>ao ‹_› fun s5 Nc=>⟨fun RG=>(RG=(E.on m).jk o.a),aK (fun c3=>aK (fun c4=>(by simp_all [DB.jk,DB.entry,DB.aR])) fun c4=>(by simp_all [DB.jk,DB.entry,DB.aR])) fun c3=>(by simp_all [DB.jk,DB.entry,DB.aR]),fun _ RG hx=>ae (fun c5=>allEq<| ⟨fun m1 i1 s1=>(m1=(26 - i1).toNat)∧(0≤i1∧i1≤26)∧(s1=m.wrs o.a 11 ((List.replicate 26 (0:Int)).take i1.toNat)),⟨_,rfl,(by omega),(by rfl)⟩,fun m1 _ i1 s1 ⟨hm,h1,h2⟩=>fun f6=>aq (fun c6=>ao (by omega) fun s7 m3 OP f8=>allEq<| ⟨_,(by rw [aA (by omega)];omega),rfl,(by rw [aA (by omega)];omega),(by rw [F6 (by omega),← h2];assumption)⟩) fun c6=>ao (by rw [h2,Mem.fP];exact Ni) fun s9 E1 OH f10 m3 OP f11=>aB h rfl (ab (uO1 (by rw [DB.beside,if_neg ‹_›,if_pos ‹_›,if_pos (by rw [← hx];assumption)];(have h9:s1=m.wrs o.a 11 (List.replicate 26 0):=by rw [h2,List.take_of_length_le];show 26≤i1.toNat;omega);subst h9;subst_vars;rfl)) (ab (uO0 (by rw [DB.beside,if_neg ‹_›,if_pos ‹_›,if_pos (by rw [← hx];assumption)];(have h9:s1=m.wrs o.a 11 (List.replicate 26 0):=by rw [h2,List.take_of_length_le];show 26≤i1.toNat;omega);subst h9;subst_vars;rfl)) rfl)) rfl⟩) fun c5=>aB h rfl (ab (uO1 (by rw [DB.beside,if_neg ‹_›,if_pos ‹_›,if_neg (fun e=>Bool.noConfusion ((hx.trans e).symm.trans (by assumption:RG=false)))];subst_vars;exact Pd.cD _ _ Ni)) (ab (uO0 (by rw [DB.beside,if_neg ‹_›,if_pos ‹_›,if_neg (fun e=>Bool.noConfusion ((hx.trans e).symm.trans (by assumption:RG=false)))];subst_vars;rfl)) rfl)) rfl⟩) fun c2=>allEq<| aK (fun c7=>ao ‹_› fun Ua E1 OH f13 m1 NB f14=>aB h rfl (ab (uO1 (by rw [DB.beside,if_neg ‹_›,if_neg ‹_›,if_pos ‹_›];subst_vars;rfl)) (ab (uO0 (by rw [DB.beside,if_neg ‹_›,if_neg ‹_›,if_pos ‹_›];subst_vars;rfl)) rfl)) rfl) fun c7=>allEq<| aK (fun c8=>ao ‹_› fun ZH=>ae (fun c9=>ao ‹_› fun s16 E1 OH f17 m1 NB f18=>aB h rfl (ab (uO1 (by rw [DB.beside,if_neg ‹_›,if_neg ‹_›,if_neg ‹_›,if_pos ‹_›,if_pos ‹_›];subst_vars;rfl)) (ab (uO0 (by rw [DB.beside,if_neg ‹_›,if_neg ‹_›,if_neg ‹_›,if_pos ‹_›,if_pos ‹_›];subst_vars;rfl)) rfl)) rfl) fun c9=>aB h rfl (ab (uO1 (by rw [DB.beside,if_neg ‹_›,if_neg ‹_›,if_neg ‹_›,if_pos ‹_›,if_neg (by simp [*])];subst_vars;exact Pd.cD _ _ Ni)) (ab (uO0 (by rw [DB.beside,if_neg ‹_›,if_neg ‹_›,if_neg ‹_›,if_pos ‹_›,if_neg (by simp [*])];subst_vars;rfl)) rfl)) rfl) fun c8=>aB h rfl (ab (uO1 (by rw [DB.beside,if_neg ‹_›,if_neg ‹_›,if_neg ‹_›,if_neg ‹_›];subst_vars;exact Pd.cD _ _ Ni)) (ab (uO0 (by rw [DB.beside,if_neg ‹_›,if_neg ‹_›,if_neg ‹_›,if_neg ‹_›];subst_vars;rfl)) rfl)) rfl))
end
section
set_option maxRecDepth 100000
set_option maxHeartbeats 1000000
attribute [local irreducible] Vc2 VcD
def wZ:Ctr Un:=⟨[.one (.int .i64),.one (.int .i64)],[],[],[],fun s i K=>split (okM s i) (∀(rN:Nat→Nat),K ⟨(.tuple #[(.pointer (some (Addr.mk (rN 0) 0 none))),(.int .i64 0)]),(some (.t [(some (.obj 0 0 0)),none])),[],[(.ob 0 rN (Mem.fresh s.toNat i.toNat))],[]⟩) (K ⟨(.tuple #[(.pointer none),(.int .i64 1)]),(some (.t [none,none])),[],[],[]⟩)⟩
theorem JN:LV Un prog 27 wZ:=by
 show ∀(s:Int)(i:Int),∀Q:Ou Un→Prop,(split (okM s i) (∀(rN:Nat→Nat),Q ⟨(.tuple #[(.pointer (some (Addr.mk (rN 0) 0 none))),(.int .i64 0)]),(some (.t [(some (.obj 0 0 0)),none])),[],[(.ob 0 rN (Mem.fresh s.toNat i.toNat))],[]⟩) (Q ⟨(.tuple #[(.pointer none),(.int .i64 1)]),(some (.t [none,none])),[],[],[]⟩))→∀(X:Nat→Nat→Prop)(w:World),Sat (U:=Un) [] X w→av (U:=Un) [] fr0 []→Calls prog 27 #[(.int .i64 s),(.int .i64 i)] w (aS (U:=Un) [] [] X w Q)
 intro s i Q hQ X w hs hl
 cases hm:okM s i
 ·refine(IU hm).mono ?_
  rintro e w' ⟨rfl,rfl⟩
  exact aS.pu hs (Ch.refl _ _) (bV hQ hm) (KnO.tup _ (by simp))
 ·obtain⟨h1,h2⟩:=CR hm
  exact HX s i Q ⟨⟨h1,h2⟩,fun rN=>bU hQ hm rN⟩ X w hs hl
end
section
set_option maxRecDepth 100000
set_option maxHeartbeats 1000000
attribute [local irreducible] Vc2 VcD
def iU:Ctr Un:=⟨[.one (.obj 0 0)],[],[.ob 0 []],[],fun rm m K=>∀(rN:Nat→Nat),K ⟨(.pointer (some (Addr.mk (rN 0) 0 none))),(some (.p (.obj 1 0 0))),[],[(.ob 0 rN m)],[]⟩⟩
theorem tM:LV Un prog 51 iU:=by
 show ∀(rm:Nat→Nat)(m:Mem),∀Q:Ou Un→Prop,(∀(rN:Nat→Nat),Q ⟨(.pointer (some (Addr.mk (rN 0) 0 none))),(some (.p (.obj 1 0 0))),[],[(.ob 0 rN m)],[]⟩)→∀(X:Nat→Nat→Prop)(w:World),Sat (U:=Un) [(.ob 0 rm m)] X w→av (U:=Un) [(.ob 0 rm m)] fr0 []→Calls prog 51 #[(.pointer (some (Addr.mk (rm 0) 0 none)))] w (aS (U:=Un) [(.ob 0 rm m)] [] X w Q)
 intro rm m Q hQ X w hs hl
 obtain⟨L,hg,hM,hX⟩:=mF hs
 rw [hg]
 refine(AZ hM).mono ?_
 rintro e w' ⟨u,rfl,L',rfl,hM',hz,q⟩
 exact aS.sD (Z:=L'.X) hs q (show RS (U:=Un) L'.X w' (.ob 0 (fun _=>L'.g) m)from(⟨L',rfl,fun _=>Iff.rfl,hM'⟩:cq 0 (fun _=>L'.g) m L'.X w')) hz (hQ (fun _=>L'.g)) rfl (fun _ _ h=>by cases h)
def iY:Ctr Un:=⟨[.one (.obj 0 0),.one (.sl 1)],[(2,1)],[.ob 0 [],.lst 1 false 29,.ob 1 []],[],fun rm m A c l r E K=>l=(E.on m).words.map U32.mk∧E.n=m.S∧∀(rN:Nat→Nat),K ⟨(.tuple #[(.pointer (some (Addr.mk (rN 0) 0 none))),(.int .i64 0)]),(some (.t [(some (.obj 3 0 0)),none])),[],[(.ob 1 rN E)],[(.l 3 1,.p (.obj 0 0 0))]⟩⟩
theorem tR:LV Un prog 50 iY:=by
 show ∀(rm:Nat→Nat)(m:Mem)(A:Option Addr)(c:Nat)(l:List U32)(r:Nat→Nat)(E:Pd),∀Q:Ou Un→Prop,(l=(E.on m).words.map U32.mk∧E.n=m.S∧∀(rN:Nat→Nat),Q ⟨(.tuple #[(.pointer (some (Addr.mk (rN 0) 0 none))),(.int .i64 0)]),(some (.t [(some (.obj 3 0 0)),none])),[],[(.ob 1 rN E)],[(.l 3 1,.p (.obj 0 0 0))]⟩)→∀(X:Nat→Nat→Prop)(w:World),Sat (U:=Un) [(.ob 0 rm m),(.lst 1 false 29 A c l),(.ob 1 r E)] X w→av (U:=Un) [(.ob 0 rm m),(.lst 1 false 29 A c l),(.ob 1 r E)] fr0 []→Calls prog 50 #[(.pointer (some (Addr.mk (rm 0) 0 none))),(.slice A l.length c)] w (aS (U:=Un) [(.ob 0 rm m),(.lst 1 false 29 A c l),(.ob 1 r E)] [] X w Q)
 intro rm m A c l r E Q hQ X w hs hl
 obtain⟨hl0,hn,hQ⟩:=hQ
 obtain⟨L,hg,hX,hM⟩:=(hs.res 0 _ rfl:cq 0 rm m (X 0) w)
 have hr:Rd w (X 1) A l.length c l:=hs.res 1 _ rfl
 have hE:E.Ok:=Hy (t:=1) (r:=r) (s:=E) (hs.res 2 _ rfl)
 have NN:∀p,p<(E.on m).S→p<E.n:=fun p hp=>by rw [hn];exact hp
 have hD:(E.on m).Ok:=⟨fun p hp=>⟨(hE.ent p (NN p hp)).1,by have h8:=(hE.ent p (NN p hp)).2;rw [hn]at h8;exact h8⟩,hE.ax⟩
 have hw:dP l:=by rw [hl0];exact DB.DI hD
 rw [hg]
 refine(Mh hM hr hw).mono ?_
 rintro e w' ⟨u,rfl,p,rfl,Oz,hbad,q⟩
 have hlw:=DB.A8 hD
 rw [← hl0]at hlw
 obtain⟨he,hb,Uj⟩:=hlw
 obtain⟨g,a,rfl,hDB,Wu,ha1⟩:=Oz he
 have VC:PdP w' g a L.g E:=PdP.congr hDB.pd hn hb.symm (fun p hp=>(Uj p hp).symm)
 have he:DB.aw m l=0:=he
 rw [he]
 exact aS.sD (Z:=fun k=>k=g∨k=a) hs q (show RS (U:=Un) (fun k=>k=g∨k=a) w' (.ob 1 (fun i=>if i=0 then g else L.g) E)from(⟨a,fun k=>Iff.rfl,VC⟩:cq 1 (fun i=>if i=0 then g else L.g) E (fun k=>k=g∨k=a) w')) (fun k hk=>by rcases hk with rfl | rfl;exact Wu;exact ha1) (hQ (fun i=>if i=0 then g else L.g)) (KnO.pair rfl) (wh ⟨_,_,_,rfl,show some (Value.pointer (some ⟨rm 0,0,none⟩))=some (.pointer (some ⟨L.g,0,none⟩))by rw [hg]⟩)
def lS:Ctr Un:=⟨[.one (.obj 0 0),.enc 5],[],[.ob 1 [(1,1,0)],.ob 0 []],[],fun o r E rm m K=>E.n=m.S∧o.k=10∧∀(rN:Nat→Nat)(rM:Nat→Nat),K ⟨(.pointer (some (Addr.mk (rN 0) 0 none))),(some (.p (.obj 2 0 0))),[],[(.ob 1 rN E),(.ob 0 rM m)],[(.l 2 1,.p (.obj 3 0 0))]⟩⟩
def zZ(o:LOp)(r:Nat→Nat)(E:Pd)(rm:Nat→Nat)(m:Mem)(Q:Ou Un→Prop):Prop:=
 Pd.Ok E→
 Mem.Wf m→
 ∀(gv:Nat),
 ∀x9:Bool,x9=((o.k:Int)==10)→
 split x9 (
  E.n=m.S∧
  ∀(rN:Nat→Nat)(rM:Nat→Nat),
  ∀(E1:Pd),E1=E→
  Pd.Ok E1→
  ∀(m1:Mem),m1=m→
  Mem.Wf m1→
  Q ⟨(.pointer (some (Addr.mk (rN 0) 0 none))),(some (.p (.obj 2 0 0))),[],[(.ob 1 rN E1),(.ob 0 rM m1)],[(.l 2 1,.p (.obj 3 0 0))]⟩) (
  ∀PD:Bool,PD=((o.k:Int)==11)→
  split PD (
   ∀(rN:Nat→Nat),
   ∀(m1:Mem),m1=m→
   Mem.Wf m1→
   E.n=m.S∧
   ∀(A:Option Addr)(c:Nat),
   ∀(l:List U32),l=(E.on m).words.map U32.mk→
   l=(E.on m1).words.map U32.mk∧
   E.n=m1.S∧
   ∀(Rs:Nat→Nat),
   ∀(E1:Pd),E1=E→
   Pd.Ok E1→
   ∃J:Bool→Prop,(
    J true)∧∀(NR:Nat→Value)(OR:Bool),J OR→
   split OR (
    Q ⟨(.pointer (some (Addr.mk (Rs 0) 0 none))),none,[],[(.ob 0 rN m1),(.lst 1 true 29 A c l)],[]⟩) (
    Q ⟨(.pointer (some (Addr.mk (r 0) 0 none))),(some (.p (.obj 0 0 0))),[],[],[]⟩)) (
   Q ⟨(.pointer (some (Addr.mk (r 0) 0 none))),(some (.p (.obj 0 0 0))),[],[],[]⟩))
theorem z1:Vc2 Un prog (bw [(17,iZ),(14,bf),(51,iU),(52,iX),(50,iY)]) [9,13] Tryz.f13 (.r' (.two (.r' (.two (.r' (.r' (.r' (.two (.r' (.two (.node [] (some ⟨[(29,(.one .bool))],[],upN 24 6,[]⟩) [] [] .leaf .leaf) .leaf)) .leaf)))) .leaf)) .leaf)) [1000000,3,4] lS=(∀(o:LOp) r (E:Pd) rm (m:Mem),∀Q,(lS.body o r E rm m Q)→zZ o r E rm m Q):=by kernel_rfl
theorem zY:LV Un prog 13 lS:=verify Tryz.func13 aa (tb:= [(17,iZ),(14,bf),(51,iU),(52,iX),(50,iY)]) ⟨tU,cO,tM,tO,tR,trivial⟩ (by kernel_rfl) (z1.mpr fun o r E rm m Q h=>by
 obtain⟨Ni,NI,h⟩:=h
 exact fun f1 f2 gv=>allEq<| aK (fun c1=>ao ‹_› fun s3 rN rM E1 OH f4 m1 NB f5=>aB (h rN rM) rfl rfl (ab (rO1 (by grind)) (ab (rO0 (by grind)) rfl))) fun c1=>(by exfalso;exact c1 NI))
def lR:Ctr Un:=⟨[.one (.obj 0 0),.enc 5],[],[.ob 1 [(1,1,0)],.ob 0 []],[],fun o r E rm m K=>E.n=m.S∧o.k=11∧∀(rN:Nat→Nat)(rM:Nat→Nat),K ⟨(.pointer (some (Addr.mk (rN 0) 0 none))),(some (.p (.obj 2 0 0))),[],[(.ob 1 rN E),(.ob 0 rM m)],[(.l 2 1,.p (.obj 3 0 0))]⟩⟩
def zW(o:LOp)(r:Nat→Nat)(E:Pd)(rm:Nat→Nat)(m:Mem)(Q:Ou Un→Prop):Prop:=
 Pd.Ok E→
 Mem.Wf m→
 ∀(gv:Nat),
 ∀x9:Bool,x9=((o.k:Int)==10)→
 split x9 (
  E.n=m.S∧
  ∀(rN:Nat→Nat)(rM:Nat→Nat),
  ∀(E1:Pd),E1=E→
  Pd.Ok E1→
  ∀(m1:Mem),m1=m→
  Mem.Wf m1→
  False) (
  ∀PD:Bool,PD=((o.k:Int)==11)→
  split PD (
   ∀(rN:Nat→Nat),
   ∀(m1:Mem),m1=m→
   Mem.Wf m1→
   E.n=m.S∧
   ∀(A:Option Addr)(c:Nat),
   ∀(l:List U32),l=(E.on m).words.map U32.mk→
   l=(E.on m1).words.map U32.mk∧
   E.n=m1.S∧
   ∀(Rs:Nat→Nat),
   ∀(E1:Pd),E1=E→
   Pd.Ok E1→
   ∃J:Bool→Prop,(
    J true)∧∀(NR:Nat→Value)(OR:Bool),J OR→
   split OR (
    Q ⟨(.pointer (some (Addr.mk (Rs 0) 0 none))),(some (.p (.obj 2 0 0))),[],[(.ob 1 Rs E1),(.ob 0 rN m1)],[(.l 2 1,.p (.obj 3 0 0))]⟩) (
    Q ⟨(.pointer (some (Addr.mk (r 0) 0 none))),(some (.p (.obj 0 0 0))),[],[],[]⟩)) (
   Q ⟨(.pointer (some (Addr.mk (r 0) 0 none))),(some (.p (.obj 0 0 0))),[],[],[]⟩))
theorem zX:Vc2 Un prog (bw [(17,iZ),(14,bf),(51,iU),(52,iX),(50,iY)]) [9,13] Tryz.f13 (.r' (.two (.r' (.two (.r' (.r' (.r' (.two (.r' (.two (.node [] (some ⟨[(29,(.one .bool))],[],upN 24 6,[]⟩) [] [] .leaf .leaf) .leaf)) .leaf)))) .leaf)) .leaf)) [1000000,5,3] lR=(∀(o:LOp) r (E:Pd) rm (m:Mem),∀Q,(lR.body o r E rm m Q)→zW o r E rm m Q):=by kernel_rfl
theorem zV:LV Un prog 13 lR:=verify Tryz.func13 aa (tb:= [(17,iZ),(14,bf),(51,iU),(52,iX),(50,iY)]) ⟨tU,cO,tM,tO,tR,trivial⟩ (by kernel_rfl) (zX.mpr fun o r E rm m Q h=>by
 obtain⟨Ni,NI,h⟩:=h
 exact fun f1 f2 gv=>allEq<| aK (fun c1=>(by exfalso;omega)) fun c1=>allEq<| aK (fun c2 rN m1 NB f3=>ao (by subst_vars;assumption) fun s4 A c l Vb=>ao (by subst_vars;rfl) fun s5=>ao (by subst_vars;assumption) fun s6 Rs E1 OH f7=>gh true ((by grind))<| dV<| aB (h Rs rN) rfl rfl (ab (rO1 (by subst_vars;rfl)) (ab (rO0 (by subst_vars;rfl)) rfl))) fun c2=>(by exfalso;exact c2 NI))
def lQ:Ctr Un:=⟨[.one (.obj 0 0),.enc 5],[],[.ob 1 [(1,1,0)],.ob 0 []],[],fun o r E rm m K=>E.n=m.S∧(¬o.k=10∧¬o.k=11)∧K ⟨(.pointer (some (Addr.mk (r 0) 0 none))),(some (.p (.obj 0 0 0))),[],[],[]⟩⟩
def zT(o:LOp)(r:Nat→Nat)(E:Pd)(rm:Nat→Nat)(m:Mem)(Q:Ou Un→Prop):Prop:=
 Pd.Ok E→
 Mem.Wf m→
 ∀(gv:Nat),
 ∀x9:Bool,x9=((o.k:Int)==10)→
 split x9 (
  E.n=m.S∧
  ∀(rN:Nat→Nat)(rM:Nat→Nat),
  ∀(E1:Pd),E1=E→
  Pd.Ok E1→
  ∀(m1:Mem),m1=m→
  Mem.Wf m1→
  Q ⟨(.pointer (some (Addr.mk (rN 0) 0 none))),none,[],[],[]⟩) (
  ∀PD:Bool,PD=((o.k:Int)==11)→
  split PD (
   ∀(rN:Nat→Nat),
   ∀(m1:Mem),m1=m→
   Mem.Wf m1→
   E.n=m.S∧
   ∀(A:Option Addr)(c:Nat),
   ∀(l:List U32),l=(E.on m).words.map U32.mk→
   l=(E.on m1).words.map U32.mk∧
   E.n=m1.S∧
   ∀(Rs:Nat→Nat),
   ∀(E1:Pd),E1=E→
   Pd.Ok E1→
   ∃J:Bool→Prop,(
    J true)∧∀(NR:Nat→Value)(OR:Bool),J OR→
   split OR (
    Q ⟨(.pointer (some (Addr.mk (Rs 0) 0 none))),none,[],[],[]⟩) (
    Q ⟨(.pointer (some (Addr.mk (r 0) 0 none))),(some (.p (.obj 0 0 0))),[],[],[]⟩)) (
   Q ⟨(.pointer (some (Addr.mk (r 0) 0 none))),(some (.p (.obj 0 0 0))),[],[],[]⟩))
theorem zU:Vc2 Un prog (bw [(17,iZ),(14,bf),(51,iU),(52,iX),(50,iY)]) [9,13] Tryz.f13 (.r' (.two (.r' (.two (.r' (.r' (.r' (.two (.r' (.two (.node [] (some ⟨[(29,(.one .bool))],[],upN 24 6,[]⟩) [] [] .leaf .leaf) .leaf)) .leaf)))) .leaf)) .leaf)) [] lQ=(∀(o:LOp) r (E:Pd) rm (m:Mem),∀Q,(lQ.body o r E rm m Q)→zT o r E rm m Q):=by kernel_rfl
theorem zS:LV Un prog 13 lQ:=verify Tryz.func13 aa (tb:= [(17,iZ),(14,bf),(51,iU),(52,iX),(50,iY)]) ⟨tU,cO,tM,tO,tR,trivial⟩ (by kernel_rfl) (zU.mpr fun o r E rm m Q h=>by
 obtain⟨Ni,NI,h⟩:=h
 exact fun f1 f2 gv=>allEq<| aK (fun c1=>(by exfalso;exact NI.1 c1)) fun c1=>allEq<| aK (fun c2=>(by exfalso;exact NI.2 c2)) fun c2=>h)
def kJ:Ctr Un:=⟨[.one (.any),.enc 5],[(0,9),(1,5)],[.ob 9 [],.ob 5 []],[0],fun pv o r s rk kk K=>Value.pointer (some (Addr.mk (Sv.pD s) 0 none))=pv∧LOp.Ok o∧K ⟨(.int .i64 (s.D.bh o)),none,[.ob 9 ({s with D:=DB.call kk s.D o})],[],[]⟩⟩
theorem xe:LV Un prog 9 kJ:=by
 show ∀(pv:Value)(o:LOp)(r:Nat→Nat)(s:Sv)(rk:Nat→Nat)(kk:List Int),∀Q:Ou Un→Prop,(Value.pointer (some (Addr.mk (Sv.pD s) 0 none))=pv∧LOp.Ok o∧Q ⟨(.int .i64 (s.D.bh o)),none,[.ob 9 ({s with D:=DB.call kk s.D o})],[],[]⟩)→∀(X:Nat→Nat→Prop)(w:World),Sat (U:=Un) [(.ob 9 r s),(.ob 5 rk kk)] X w→av (U:=Un) [(.ob 9 r s),(.ob 5 rk kk)] fr0 []→Calls prog 9 #[pv,(.agg #[(.int .i64 o.k),(.int .u32 o.a),(.int .u32 o.b),(.int .u32 o.c),(.int .u32 o.d)])] w (aS (U:=Un) [(.ob 9 r s),(.ob 5 rk kk)] [0] X w Q)
 intro pv o r s rk kk Q hQ X w hs hl
 obtain⟨To,ho,hQ⟩:=hQ
 subst To
 refine svD (rest:= [.ob 5 rk kk]) (k1:=none) rfl (DB.call kk s.D o) [0,1] [.ob 1 (DB.call kk s.D o).pd,.ob 0 (DB.call kk s.D o).mem] (by simp) hs rfl (fun _ _=>rfl) (fun r1 rm X1 Oi OI e=>?_) hQ trivial
 rw [e.1];exact z9 o r1 s.D.pd rm s.D.mem rk kk (fun o=>o=_) ⟨rfl,ho,rfl⟩ X1 w Oi OI
def kK:Ctr Un:=⟨[.one (.any),.enc 5],[(0,9)],[.ob 9 []],[0],fun pv o r s K=>Value.pointer (some (Addr.mk (Sv.pD s) 0 none))=pv∧LOp.Ok o∧K ⟨(.tuple #[]),(some (.t [])),[.ob 9 ({s with D:=s.D.beside o})],[],[]⟩⟩
theorem xf:LV Un prog 11 kK:=by
 show ∀(pv:Value)(o:LOp)(r:Nat→Nat)(s:Sv),∀Q:Ou Un→Prop,(Value.pointer (some (Addr.mk (Sv.pD s) 0 none))=pv∧LOp.Ok o∧Q ⟨(.tuple #[]),(some (.t [])),[.ob 9 ({s with D:=s.D.beside o})],[],[]⟩)→∀(X:Nat→Nat→Prop)(w:World),Sat (U:=Un) [(.ob 9 r s)] X w→av (U:=Un) [(.ob 9 r s)] fr0 []→Calls prog 11 #[pv,(.agg #[(.int .i64 o.k),(.int .u32 o.a),(.int .u32 o.b),(.int .u32 o.c),(.int .u32 o.d)])] w (aS (U:=Un) [(.ob 9 r s)] [0] X w Q)
 intro pv o r s Q hQ X w hs hl
 obtain⟨To,ho,hQ⟩:=hQ
 subst To
 refine svD (rest:= []) (k1:=some (.t [])) rfl (s.D.beside o) [0,1] [.ob 1 (s.D.beside o).pd,.ob 0 (s.D.beside o).mem] (by simp) hs rfl (fun _ _=>rfl) (fun r1 rm X1 Oi OI e=>?_) hQ (KnO.tup _ (by simp))
 rw [e.1];exact Ac o r1 s.D.pd rm s.D.mem (fun o=>o=_) ⟨rfl,ho,rfl⟩ X1 w Oi OI
def lP:Ctr Un:=⟨[.one (.any),.enc 5],[(0,9)],[.ob 9 []],[0],fun pv o r s K=>Value.pointer (some (Addr.mk (Sv.pD s) 0 none))=pv∧∀(s1:Sv),s1.D=s.D→K ⟨(.pointer (some (Addr.mk (Sv.pD s1) 0 none))),none,[.ob 9 s1],[],[]⟩⟩
theorem zR:LV Un prog 13 lP:=by
 show ∀(pv:Value)(o:LOp)(r:Nat→Nat)(s:Sv),∀Q:Ou Un→Prop,(Value.pointer (some (Addr.mk (Sv.pD s) 0 none))=pv∧∀(s1:Sv),s1.D=s.D→Q ⟨(.pointer (some (Addr.mk (Sv.pD s1) 0 none))),none,[.ob 9 s1],[],[]⟩)→∀(X:Nat→Nat→Prop)(w:World),Sat (U:=Un) [(.ob 9 r s)] X w→av (U:=Un) [(.ob 9 r s)] fr0 []→Calls prog 13 #[pv,(.agg #[(.int .i64 o.k),(.int .u32 o.a),(.int .u32 o.b),(.int .u32 o.c),(.int .u32 o.d)])] w (aS (U:=Un) [(.ob 9 r s)] [0] X w Q)
 intro pv o r s Q hQ X w hs hl
 obtain⟨To,hQ⟩:=hQ
 subst To
 by_cases h10:o.k=10
 ·obtain⟨r1,rm,X1,Oi,OI,e,_,_⟩:=mh hs
  rw [e.1]
  have hk:=h10
  refine(zY o r1 s.D.pd rm s.D.mem (fun out=>∃(rN rM:Nat→Nat),out=⟨(.pointer (some (Addr.mk (rN 0) 0 none))),(some (.p (.obj 2 0 0))),[],[(.ob 1 rN s.D.pd),(.ob 0 rM s.D.mem)],[(.l 2 1,.p (.obj 3 0 0))]⟩) ⟨rfl,hk,fun rN rM=>⟨rN,rM,rfl⟩⟩ X1 w Oi OI).mono ?_
  rintro e w' ⟨out,rs',X',he,⟨rN,rM,rfl⟩,NF,hp⟩
  obtain rfl:svO r1 rm s.D.pd s.D.mem []=rs':=Option.some.inj NF
  have TI:rN 1=rM 0:=by
   obtain⟨t,r,s',h1,h2⟩:=hp.kc (.l 2 1) (.p (.obj 3 0 0)) (by simp) (by simp)
   have h1:some (Res.ob (U:=Un) 1 rN s.D.pd)=some (.ob t r s'):=h1
   cases h1
   have h2:some (Value.pointer (some ⟨rM 0,0,none⟩))=some (.pointer (some ⟨rN 1,0,none⟩)):=h2
   simpa using h2.symm
  exact svN (k1:=some (.p (.obj 2 0 0))) rfl hs rfl hp TI he (hQ ⟨s.D,rN 0,rM 0⟩ rfl) trivial
 by_cases h11:o.k=11
 ·obtain⟨r1,rm,X1,Oi,OI,e,_,_⟩:=mh hs
  rw [e.1]
  have hk:=h11
  refine(zV o r1 s.D.pd rm s.D.mem (fun out=>∃(rN rM:Nat→Nat),out=⟨(.pointer (some (Addr.mk (rN 0) 0 none))),(some (.p (.obj 2 0 0))),[],[(.ob 1 rN s.D.pd),(.ob 0 rM s.D.mem)],[(.l 2 1,.p (.obj 3 0 0))]⟩) ⟨rfl,hk,fun rN rM=>⟨rN,rM,rfl⟩⟩ X1 w Oi OI).mono ?_
  rintro e w' ⟨out,rs',X',he,⟨rN,rM,rfl⟩,NF,hp⟩
  obtain rfl:svO r1 rm s.D.pd s.D.mem []=rs':=Option.some.inj NF
  have TI:rN 1=rM 0:=by
   obtain⟨t,r,s',h1,h2⟩:=hp.kc (.l 2 1) (.p (.obj 3 0 0)) (by simp) (by simp)
   have h1:some (Res.ob (U:=Un) 1 rN s.D.pd)=some (.ob t r s'):=h1
   cases h1
   have h2:some (Value.pointer (some ⟨rM 0,0,none⟩))=some (.pointer (some ⟨rN 1,0,none⟩)):=h2
   simpa using h2.symm
  exact svN (k1:=some (.p (.obj 2 0 0))) rfl hs rfl hp TI he (hQ ⟨s.D,rN 0,rM 0⟩ rfl) trivial
 refine svD (rest:= []) (k1:=some (.p (.obj 0 0 0))) rfl s.D [] [] (by simp) hs rfl (fun _ _=>rfl) (fun r1 rm X1 Oi OI e=>?_) (hQ s rfl) trivial
 rw [e.1];exact zS o r1 s.D.pd rm s.D.mem (fun o=>o=_) ⟨rfl,⟨h10,h11⟩,rfl⟩ X1 w Oi OI
end
end Go.Proofs.YtinhphjfnedhgaaGreatDoor
namespace Go.Proofs.YtinhphjfnedhgaaGreatDoor
open Go.Proofs.Tryz (prog)
open Go Go.RowKit V
open Go.IntKind (i64 u32 u64)
section
namespace Mem
theorem n9 {m m':Mem} {s:Bool} {p:Int}(hh:m'.has s p=m.has s p)(h:m.has s p=true→m'.pg s p.toNat=m.pg s p.toNat)(o:Int):m'.aY s p o=m.aY s p o:=by
 unfold aY
 rw [hh]
 cases hs:m.has s p
 ·rfl
 ·rw [h hs]
theorem cx {m:Mem} {p o v x:Int}(hp:m.has true p=true)(ho:dq o=true):(m.write true p o v).aY true p x=if x=o then v else m.aY true p x:=by
 have hh:(m.write true p o v).has true p=true:=by rw [DB.cC];exact hp
 have hw:m.write true p o v=(m.put true p.toNat o.toNat v).tick 1:=by
  unfold write
  exact if_pos (show(m.has true p && dq o)=true by rw [hp,ho];rfl)
 unfold aY
 rw [hh,hp]
 simp only [Bool.true_and]
 by_cases hx:dq x=true
 ·have h1:=im hx
  have h2:=im ho
  rw [if_pos hx,if_pos hx,hw]
  show(if true=true∧p.toNat=p.toNat then(if x.toNat=o.toNat then v else m.pg true p.toNat x.toNat)else _)=_
  rw [if_pos ⟨rfl,rfl⟩]
  by_cases e:x=o
  ·subst e
   rw [if_pos rfl,if_pos rfl]
  ·rw [if_neg (by omega),if_neg e]
 ·rw [if_neg hx,if_neg hx,if_neg (by rintro rfl;exact hx ho)]
theorem jl(p:Int)(b:Bool)(q:Int):∀(l:List Int)(m:Mem)(o:Int),(m.wrs p o l).has b q=m.has b q
 | [],_,_=>rfl
 | x::l,m,o=>by rw [wrs,jl p b q l,DB.cC]
theorem jG {p:Int}:∀(l:List Int)(m:Mem)(o:Int),m.has true p=true→0≤o→o+l.length≤1024→∀x,(m.wrs p o l).aY true p x=if o≤x∧x<o+l.length then l.getD (x - o).toNat 0 else m.aY true p x
 | [],m,o,_,_,_,x=>by
  rw [if_neg (by simp only [List.length_nil];omega)];rfl
 | y::l,m,o,hp,h0,hl,x=>by
  simp only [List.length_cons]at hl ⊢
  rw [wrs,jG l (m.write true p o y) (o+1) (by rw [DB.cC];exact hp) (by omega) (by omega),cx hp (by simp [dq];omega)]
  by_cases e:x=o
  ·subst e
   rw [if_neg (by omega),if_pos rfl,if_pos (by omega),show(x - x).toNat=0 by omega];rfl
  ·by_cases h1:o+1≤x∧x<o+1+l.length
   ·rw [if_pos h1,if_pos (by omega),show(x - o).toNat=(x - (o+1)).toNat+1 by omega];rfl
   ·rw [if_neg h1,if_neg e,if_neg (by omega)]
theorem sZ {m:Mem} {p:Int} {l:List Int}(hp:m.has true p=true)(hl:l.length=26):(m.wrs p 11 l).dgW p=l.map U32.mk:=by
 apply List.ext_getElem?
 intro i
 by_cases hi:i<26
 ·rw [Dc hi,jG l m 11 hp (by omega) (by omega),if_pos (by omega),List.getElem?_map,show(11+(i:Int) - 11).toNat=i by omega,List.getD_eq_getElem?_getD,List.getElem?_eq_getElem (by omega)];rfl
 ·rw [List.getElem?_eq_none (by rw [dH];omega),List.getElem?_eq_none (by rw [List.length_map];omega)]
theorem oy {p x:Int}(h:p≠x):∀(l:List Int)(m:Mem)(o:Int),(m.wrs p o l).dgW x=m.dgW x
 | [],_,_=>rfl
 | y::l,m,o=>by rw [wrs,oy h l,fD h]
theorem Db {m:Mem} {p o v x:Int}:(m.write false p o v).dgW x=m.dgW x:=
 wy (aV ..) fun _=>iF (by rintro⟨h,_⟩;cases h)
theorem Da {kk:List Int} {m:Mem} {p x k a:Int} {l:List U32}(h:p≠x):(m.msd kk p k a l).dgW x=m.dgW x:=by
 unfold msd
 split
 ·exact oy h _ _ _
 ·rfl
theorem sY {m:Mem} {p x:Int}(h:p≠x):(m.zero true p).dgW x=m.dgW x:=by
 refine wy (qb ..) fun hs=>?_
 unfold zero
 split
 ·rename_i hp
  have h1:=ai hs
  have h2:=ai hp
  funext o
  show(if true=true∧x.toNat=p.toNat then _ else _)=_
  rw [if_neg (by omega)]
 ·rfl
theorem yh {kk:List Int} {m:Mem} {p k a:Int} {l:List U32}(hw:m.Wf)(hp:m.has true p=true)(h:Dg.aw (m.dgW p)=0)(ha:0≤a∧a<4294967296)(hk:k=1∨k=2∨k=3∨k=4)(hl:dP l):Dg.aw ((m.msd kk p k a l).dgW p)=0∧(m.msd kk p k a l).dgW p=((Dg.load (m.dgW p)).add kk (opW k a l)).save.map U32.mk:=by
 have F:=Dg.lI (K:=kk) (l:=opW k a l) (Dg.eo (jn hw p) h) (lu ha hk hl)
 have e:(m.msd kk p k a l).dgW p=((Dg.load (m.dgW p)).add kk (opW k a l)).save.map U32.mk:=by
  unfold msd
  rw [if_pos h,sZ hp (Dg.gx F.1)]
 exact⟨by rw [e];exact(Dg.ml F).1,e⟩
end Mem
theorem ku {α:Type} {l:List α} {i:Nat} {d:α}(h:i<l.length):l.getD i d∈l:=by
 rw [List.getD_eq_getElem?_getD,List.getElem?_eq_getElem h]
 exact List.getElem_mem ..
namespace DB
def Inv(d:DB):Prop:=∀x,d.aE x=0→Dg.aw (d.mem.dgW x)=0
theorem bo {d:DB} {x:Int}:d.aE x=0↔d.has x=true∧(d.at_ x).typ=1∧(d.at_ x).state=1:=by
 constructor
 ·intro h;exact fO (by omega)
 ·rintro⟨h1,h2,h3⟩
  unfold aE
  simp [h1,h2,h3]
theorem Inv.mono {d d':DB}(h:d.Inv)(hb:∀x,d'.aE x=0→(d.aE x=0∧d'.mem.dgW x=d.mem.dgW x)∨Dg.aw (d'.mem.dgW x)=0):d'.Inv:=fun x hx=>by
 rcases hb x hx with⟨h1,h2⟩ | h1
 ·rw [h2];exact h x h1
 ·exact h1
theorem IP(m:Mem):(DB.new m).Inv:=fun x hx=>by
 have:=(bo.1 hx).2.1
 cases this
theorem Iu {d:DB} {p t s q:Int}(ht:t≠1)(hq:0≤q)(hs:d.has s=true)(h:((d.take p t s).at_ q).typ=1):(d.take p t s).has q=d.has q∧(d.at_ q).typ=1∧((d.take p t s).at_ q).state=(d.at_ q).state:=by
 unfold take at h ⊢
 split
 ·rename_i he
  rw [if_pos he]at h
  have hp:d.has p=true:=by
   cases hp:d.has p
   ·unfold bY at he;simp [hp]at he
   ·rfl
  have h1:=ai hp
  have h2:=ai hs
  unfold cl more at h ⊢
  rw [bE h2.1 hq,bE h1.1 h2.1,bE h1.1 hq]at h
  rw [bE h2.1 hq,bE h1.1 h2.1,bE h1.1 hq]
  by_cases e1:q=s
  ·subst e1
   rw [if_pos rfl]at h ⊢
   by_cases e2:q=p
   ·rw [if_pos e2]at h;exact absurd h ht
   ·rw [if_neg e2]at h ⊢;exact⟨rfl,h,rfl⟩
  ·rw [if_neg e1]at h ⊢
   by_cases e2:q=p
   ·rw [if_pos e2]at h;exact absurd h ht
   ·rw [if_neg e2]at h ⊢;exact⟨rfl,h,rfl⟩
 ·rename_i he
  rw [if_neg he]at h
  exact⟨rfl,h,rfl⟩
theorem j8 {d:DB} {p t s q:Int}(ht:t≠1)(hs:d.has s=true)(h:(d.take p t s).aE q=0):d.aE q=0:=by
 obtain⟨h1,h2,h3⟩:=bo.1 h
 obtain⟨a,b,c⟩:=Iu ht (ai h1).1 hs h2
 exact bo.2 ⟨a▸h1,b,c▸h3⟩
theorem wH {d:DB} {m:Mem}(hm:m.S=d.mem.S)(x:Int):(d.aD m).aE x=d.aE x:=by
 unfold aE has
 rw [show(d.aD m).S=d.S from hm];rfl
theorem Lg(d:DB)(s i q:Int):∃m,d.add s i q=d.aD m∧m.S=d.mem.S:=by
 unfold add
 split
 ·exact⟨_,rfl,Mem.aV ..⟩
 ·exact⟨d.mem,rfl,rfl⟩
theorem KI(d:DB)(s va:Int)(M:Mp):∃m,d.put s va M=d.aD m∧m.S=d.mem.S:=by
 unfold put
 split
 ·exact⟨_,rfl,Mem.aV ..⟩
 ·exact⟨d.mem,rfl,rfl⟩
theorem de {d:DB} {f:Mem→Mem}(h:(f d.mem).S=d.mem.S)(x:Int):(d.ay f).aE x=d.aE x:=wH h x
theorem BC(d:DB)(s i q x:Int):(d.add s i q).aE x=d.aE x:=by
 obtain⟨m,h1,h2⟩:=Lg d s i q
 rw [h1];exact wH h2 x
theorem pE(d:DB)(s va:Int)(M:Mp)(x:Int):(d.put s va M).aE x=d.aE x:=by
 obtain⟨m,h1,h2⟩:=KI d s va M
 rw [h1];exact wH h2 x
theorem eB:dP []:=fun x hx=>by cases hx
theorem rG {m:Mem} {s:Bool} {p o v:Int}(h:m.Wf)(hv:0≤v∧v<4294967296):(m.write s p o v).Wf:=by
 unfold Mem.write
 split
 ·refine⟨fun s' i o'=>?_,h.2⟩
  show 0≤(if s'=s∧i=p.toNat then(if o'=o.toNat then v else m.pg s p.toNat o')else m.pg s' i o')∧(if s'=s∧i=p.toNat then(if o'=o.toNat then v else m.pg s p.toNat o')else m.pg s' i o')<4294967296
  split
  ·split
   ·exact hv
   ·exact h.1 _ _ _
  ·exact h.1 _ _ _
 ·exact h
theorem Iq {m:Mem} {s s':Bool} {p p':Int}(h:m.Wf):(m.copy s p s' p').Wf:=by
 unfold Mem.copy
 split
 ·refine⟨fun b i o'=>?_,h.2⟩
  show 0≤(if b=s∧i=p.toNat then m.pg s' p'.toNat o' else m.pg b i o')∧(if b=s∧i=p.toNat then m.pg s' p'.toNat o' else m.pg b i o')<4294967296
  split<;>exact h.1 _ _ _
 ·exact h
theorem FF {d:DB} {s va:Int} {M:Mp}(h:d.mem.Wf):(d.put s va M).mem.Wf:=by
 unfold put
 split
 ·exact rG h (CU _)
 ·exact h
theorem Kq {d:DB} {s i q:Int}(h:d.mem.Wf):(d.add s i q).mem.Wf:=by
 unfold add
 split
 ·exact rG h (sW _)
 ·exact h
structure Kept(d D:DB)(s:Int):Prop where
 wf:D.mem.Wf
 bd:∀x,D.aE x=0→d.aE x=0∧D.mem.dgW x=d.mem.dgW x
theorem Kept.inv {kk:List Int} {d D:DB} {s k a:Int} {l:List U32}(h:Kept d D s)(hI:d.Inv)(ha:0≤a∧a<4294967296)(hk:k=1∨k=2∨k=3∨k=4)(hl:dP l):(D.ay (fun m=>m.msd kk s k a l)).Inv:=by
 intro x hx
 rw [de (f:=fun m=>Mem.msd kk m s k a l) (Mem.gS ..) x]at hx
 obtain⟨h1,h2⟩:=h.bd x hx
 show Dg.aw ((D.mem.msd kk s k a l).dgW x)=0
 by_cases e:s=x
 ·subst e
  exact(Mem.yh h.wf (bo.1 hx).1 (by rw [h2];exact hI s h1) ha hk hl).1
 ·rw [Mem.Da e,h2];exact hI x h1
theorem lB {d:DB} {s p b:Int}(hw:d.mem.Wf)(hb:0≤b∧b<4294967296)(h1:¬d.aE s≠0)(h2:¬d.bj p≠0)(h3:¬d.bp p≠0):Kept d ((d.take p 2 s).ay (·.write true p 0 b)) s:=by
 have b1:=fO h1
 have f1:=dF (dW h2) h3
 refine⟨rG (by rw [aO];exact hw) hb,fun x hx=>?_⟩
 rw [de (f:=fun m=>m.write true p 0 b) (Mem.aV ..)]at hx
 have hx:=j8 (by omega) b1.1 hx
 have b2:=bo.1 hx
 refine⟨hx,?_⟩
 show((d.take p 2 s).mem.write true p 0 b).dgW x=_
 rw [Mem.fD (by rintro rfl;omega),aO]
theorem mX {d:DB} {s p i:Int}(hw:d.mem.Wf)(h1:¬d.aE s≠0)(h2:¬d.bj p≠0)(h3:¬d.bp p≠0):Kept d ((d.take p 4 s).add s i p) s:=by
 have b1:=fO h1
 have f1:=dF (dW h2) h3
 refine⟨Kq (by rw [aO];exact hw),fun x hx=>?_⟩
 rw [BC]at hx
 have hx:=j8 (by omega) b1.1 hx
 have b2:=bo.1 hx
 refine⟨hx,?_⟩
 rw [Dd,aO]
 rw [nN (ai b2.1).1 b1.1 (by rintro rfl;omega)];omega
theorem pO {d:DB} {s p w n:Int}(hw:d.mem.Wf)(h1:¬d.aE s≠0)(h2:¬d.bj p≠0)(h3:¬d.bp p≠0):Kept d (d.bz s p w n) s:=by
 have b1:=fO h1
 have f1:=dF (dW h2) h3
 refine⟨FF (Iq (by rw [aO];exact hw)),fun x hx=>?_⟩
 rw [bz,pE,de (f:=fun m=>m.copy true p false n) (Mem.iP ..)]at hx
 have hx:=j8 (by omega) b1.1 hx
 have b2:=bo.1 hx
 have e:x≠p:=by rintro rfl;omega
 refine⟨hx,?_⟩
 rw [bz,rl]
 ·show((d.take p 5 s).mem.copy true p false n).dgW x=_
  rw [Mem.yG e.symm,aO]
 ·show((d.take p 5 s).at_ x).typ≠4
  rw [nN (ai b2.1).1 b1.1 e];omega
theorem mY {d:DB} {s va:Int} {M:Mp}(hw:d.mem.Wf):Kept d (d.put s va M) s:=by
 refine⟨FF hw,fun x hx=>?_⟩
 rw [pE]at hx
 have b2:=bo.1 hx
 exact⟨hx,by rw [rl];omega⟩
theorem uG {d:DB} {s f:Int}(hI:d.Inv):(d.bx s f).Inv:=by
 unfold bx
 split
 ·rename_i he
  unfold cn at he
  have h1:¬d.bj s≠0:=by grind
  have h2:¬d.bj f≠0:=by grind
  have h3:¬s=f:=by grind
  have h4:¬d.bp s≠0:=by grind
  have h5:¬d.bp f≠0:=by grind
  have h6:¬d.ax≥64:=by grind
  have hs:=dW h1
  have hf:=dW h2
  have r1:=ai hs
  have r2:=ai hf
  have ht:d.aQ s f=0:=by rw [fe h1 h2 h3 h4 h5,if_neg h6]
  intro x hx
  rw [de (f:=fun m=>m.wrs s 11 Dg.new.save) (Mem.fP ..)]at hx
  unfold aJ at hx ⊢
  rw [if_pos ht]at hx ⊢
  obtain⟨x1,x2,x3⟩:=bo.1 hx
  show Dg.aw (((((d.mem.write true s 0 f).write true s 1 d.ax).write true s 2 0).wrs s 11 Dg.new.save).dgW x)=0
  by_cases e:x=s
  ·subst e
   rw [Mem.sZ (by rw [DB.cC,DB.cC,DB.cC];exact hs) (Dg.gx Dg.ju)]
   exact(Dg.ml Dg.ye).1
  ·have x1:d.has x=true:=by
    have:(((d.mem.write true s 0 f).write true s 1 d.ax).write true s 2 0).has true x=true:=x1
    rw [DB.cC,DB.cC,DB.cC]at this;exact this
   have x0:=ai x1
   have ea:(d.aZ s f).at_ x=((d.set s ⟨1,s,1,1,false⟩).set f ⟨3,s,0,0,false⟩).at_ x:=rfl
   rw [ea,bE r2.1 x0.1,bE r1.1 x0.1,if_neg e]at x2 x3
   by_cases ef:x=f
   ·rw [if_pos ef]at x2;cases x2
   ·rw [if_neg ef]at x2 x3
    rw [Mem.oy (Ne.symm e),Mem.fD (Ne.symm e),Mem.fD (Ne.symm e),Mem.fD (Ne.symm e)]
    exact hI x (bo.2 ⟨x1,x2,x3⟩)
 ·exact hI
theorem G9 {kk:List Int} {d:DB} {o:LOp}(ho:o.Ok)(hI:d.Inv)(hw:d.mem.Wf):(d.call kk o).Inv:=by
 obtain⟨ha,hb,hc,hd⟩:=ho
 unfold call
 split
 ·exact uG hI
 split
 ·unfold bC
  split
  ·rename_i he
   unfold bM at he
   exact(lB hw hc (by grind) (by grind) (by grind)).inv hI hc (by omega) eB
  ·exact hI
 split
 ·unfold dt
  split
  ·rename_i he
   unfold cN at he
   exact(mX hw (by grind) (by grind) (by grind)).inv hI hc (by omega) eB
  ·exact hI
 split
 ·unfold ez
  split
  ·rename_i he
   unfold cH at he
   have K:Kept d (d.bz o.a o.b o.c o.d) o.a:=pO hw (by grind) (by grind) (by grind)
   have e:(d.bz o.a o.b o.c o.d).ay (fun m=>m.msd kk o.a 3 o.c (m.words true o.b.toNat))=(d.bz o.a o.b o.c o.d).ay (fun m=>m.msd kk o.a 3 o.c ((d.bz o.a o.b o.c o.d).mem.words true o.b.toNat)):=by
    unfold ay;rfl
   rw [e]
   exact K.inv hI hc (by omega) (Mem.iu K.wf true o.b.toNat)
  ·exact hI
 ·unfold du
  split
  ·exact(mY hw).inv hI hb (by omega) eB
  ·exact hI
theorem fw {d:DB} {p s q:Int}(hs:s≠1)(h:(d.setState p s).aE q=0):d.aE q=0:=by
 obtain⟨h1,h2,h3⟩:=bo.1 h
 unfold setState at h1 h2 h3
 split at h1
 ·rename_i he
  have hp:d.has p=true:=by
   cases hp:d.has p
   ·unfold aT at he;simp [hp]at he
   ·rfl
  have q0:=ai h1
  rw [if_pos he,bE (ai hp).1 q0.1]at h2 h3
  by_cases e:q=p
  ·rw [if_pos e]at h3;exact absurd h3 hs
  ·rw [if_neg e]at h2 h3;exact bo.2 ⟨h1,h2,h3⟩
 ·rename_i he
  rw [if_neg he]at h2 h3
  exact bo.2 ⟨h1,h2,h3⟩
theorem bS(d:DB)(p s:Int):(d.setState p s).mem=d.mem:=by unfold setState;split<;>rfl
theorem mC {d:DB} {p:Int}(hp:d.jk p=true):¬(d.setState p 2).aE p=0:=by
 intro h
 unfold jk at hp
 simp only [Bool.and_eq_true,beq_iff_eq]at hp
 obtain⟨h1,h2,h3⟩:=bo.1 h
 unfold setState at h3
 rw [if_pos (by unfold aT;simp [hp.1,hp.2.1,hp.2.2]),bE (ai hp.1).1 (ai hp.1).1,if_pos rfl]at h3
 cases h3
theorem yr {d:DB} {p:Int}(hI:d.Inv):(d.dB p).Inv:=by
 unfold dB
 split
 ·rename_i he
  have hp:d.has p=true:=by
   cases hp:d.has p
   ·unfold cR at he;simp [hp]at he
   ·rfl
  have p0:=ai hp
  intro x hx
  unfold aX at hx ⊢
  rw [de (f:=fun m=>m.zero true p) (Mem.qb ..)]at hx
  obtain⟨h1,h2,h3⟩:=bo.1 hx
  have Q1:d.has x=true:=by revert h1;split<;>exact id
  have x0:=ai Q1
  have key:x≠p∧(d.at_ x).typ=1∧(d.at_ x).state=1:=by
   split at h2
   ·rename_i hc
    rw [if_pos hc]at h3
    simp only [Bool.and_eq_true,cp,dA]at hc
    have o0:=ai hc.2.1.1
    unfold more at h2 h3
    rw [bE o0.1 x0.1]at h2 h3
    by_cases e:x=(d.at_ p).owner
    ·rw [if_pos e]at h2 h3
     have h2:((d.set p .free).at_ (d.at_ p).owner).typ=1:=h2
     have h3:((d.set p .free).at_ (d.at_ p).owner).state=1:=h3
     rw [bE p0.1 o0.1]at h2 h3
     rw [← e]at h2 h3
     by_cases e2:x=p
     ·rw [if_pos e2]at h2;cases h2
     ·rw [if_neg e2]at h2 h3;exact⟨e2,h2,h3⟩
    ·rw [if_neg e,bE p0.1 x0.1]at h2 h3
     by_cases e2:x=p
     ·rw [if_pos e2]at h2;cases h2
     ·rw [if_neg e2]at h2 h3;exact⟨e2,h2,h3⟩
   ·rename_i hc
    rw [if_neg hc]at h3
    rw [bE p0.1 x0.1]at h2 h3
    by_cases e2:x=p
    ·rw [if_pos e2]at h2;cases h2
    ·rw [if_neg e2]at h2 h3;exact⟨e2,h2,h3⟩
  have hm:∀c:Bool,(ay (if c then(d.set p .free).more (d.at_ p).owner (-1)else d.set p .free) (·.zero true p)).mem=d.mem.zero true p:=by intro c;cases c<;>rfl
  rw [hm,Mem.sY (Ne.symm key.1)]
  exact hI x (bo.2 ⟨Q1,key.2.1,key.2.2⟩)
 ·exact hI
theorem Bt {d:DB} {o:LOp}(hI:d.Inv):(d.beside o).Inv:=by
 unfold beside
 split
 ·intro x hx
  rw [de (f:=fun m=>m.write false o.a (o.b % 1024) o.c) (Mem.aV ..)]at hx
  show Dg.aw ((d.mem.write false o.a (o.b % 1024) o.c).dgW x)=0
  rw [Mem.Db];exact hI x hx
 split
 ·split
  ·rename_i hb
   intro x hx
   have Sa:=fw (by omega) hx
   rw [de (f:=fun m=>m.wrs o.a 11 (List.replicate 26 0)) (Mem.fP ..)]at Sa
   by_cases e:x=o.a
   ·refine absurd (e▸hx) (mC ?_)
    unfold jk at hb ⊢
    have:(d.ay fun m=>m.wrs o.a 11 (List.replicate 26 0)).has o.a=d.has o.a:=Mem.jl o.a true o.a (List.replicate 26 0) d.mem 11
    rw [this];exact hb
   ·rw [bS]
    show Dg.aw ((d.mem.wrs o.a 11 (List.replicate 26 0)).dgW x)=0
    rw [Mem.oy (Ne.symm e)];exact hI x Sa
  ·exact hI
 split
 ·intro x hx
  rw [bS]
  exact hI x (fw (by omega) hx)
 split
 ·split
  ·exact yr hI
  ·exact hI
 ·exact hI
theorem pdS(d:DB):d.pd.n=d.mem.S:=rfl
set_option maxRecDepth 100000
def hd0:DB:=(DB.new (Mem.fresh 3 1)).pd.on ((Mem.fresh 3 1).dm 3)
def hd1:DB:=hd0.bx 0 1
theorem KW:hd0.cn 0 3=1:=by decide
theorem MX:hd0.cn 0 1=0:=by decide
theorem Mc:hd1.bM 0 2=0:=by decide
theorem Mb(kk:List Int):DB.bC kk hd1 0 2 7=(hd1.take 2 2 0).ay (fun m=>(m.write true 2 0 7).msd kk 0 1 7 []):=by
 unfold bC;rw [if_pos Mc]
theorem Ma(kk:List Int):(DB.bC kk hd1 0 2 7).bM 1 2=3:=by
 have h:(DB.bC kk hd1 0 2 7).aE 1=3:=by
  rw [Mb,de (f:=fun m=>(m.write true 2 0 7).msd kk 0 1 7 []) (by rw [Mem.gS,Mem.aV])]
  decide
 unfold bM
 rw [if_pos (by rw [h];decide),h]
theorem Br {kk:List Int} {d:DB} {s p b:Int}(h:d.bM s p≠0):DB.bC kk d s p b=d:=if_neg h
theorem MV(kk:List Int):DB.bC kk (DB.bC kk hd1 0 2 7) 1 2 7=DB.bC kk hd1 0 2 7:=Br (by rw [Ma];decide)
theorem L9 {d:DB} {kk:List Int}(h2:d.mem.has true 2=true):(d.ay (fun m=>(m.write true 2 0 7).msd kk 0 1 7 [])).mem.aY true 2 0=7:=by
 have hp:∀(l:List Int)(m:Mem)(o:Int),(m.wrs 0 o l).pg true 2=m.pg true 2:=by
  intro l
  induction l with
  | nil=>intro m o;rfl
  | cons x l ih=>intro m o;rw [Mem.wrs,ih,Mem.iF (by decide)]
 show((d.mem.write true 2 0 7).msd kk 0 1 7 []).aY true 2 0=7
 have e:((d.mem.write true 2 0 7).msd kk 0 1 7 []).aY true 2 0=(d.mem.write true 2 0 7).aY true 2 0:=by
  unfold Mem.msd
  split
  ·exact Mem.n9 (Mem.jl ..) (fun _=>hp _ _ _) 0
  ·rfl
 rw [e,Mem.cx h2 (by decide),if_pos rfl]
theorem MW(kk:List Int):(DB.bC kk hd1 0 2 7).mem.aY true 2 0=7:=by
 rw [Mb]
 exact L9 (by rw [aO];decide)
end DB
end
end Go.Proofs.YtinhphjfnedhgaaGreatDoor
namespace Go.Proofs.YtinhphjfnedhgaaGreatDoor
open Go.Proofs.Tryz (prog)
open Go Go.RowKit V
open Go.IntKind (i64 u32 u64)
section
set_option maxRecDepth 100000
set_option maxHeartbeats 1000000
attribute [local irreducible] Vc2 VcD
def wY:Ctr Un:=⟨[.one (.int .i64),.one (.int .i64)],[],[],[],fun s i K=>((1≤(s:Int)∧(s:Int)≤64)∧(1≤(i:Int)∧(i:Int)≤64))∧∀(rN:Nat→Nat),K ⟨(.tuple #[(.pointer (some (Addr.mk (rN 0) 0 none))),(.int .i64 0)]),(some (.t [(some (.obj 0 0 0)),none])),[],[(.ob 0 rN (Mem.fresh s.toNat i.toNat))],[]⟩⟩
theorem JM:LV Un prog 27 wY:=by
 show ∀(s:Int)(i:Int),∀Q:Ou Un→Prop,(((1≤(s:Int)∧(s:Int)≤64)∧(1≤(i:Int)∧(i:Int)≤64))∧∀(rN:Nat→Nat),Q ⟨(.tuple #[(.pointer (some (Addr.mk (rN 0) 0 none))),(.int .i64 0)]),(some (.t [(some (.obj 0 0 0)),none])),[],[(.ob 0 rN (Mem.fresh s.toNat i.toNat))],[]⟩)→∀(X:Nat→Nat→Prop)(w:World),Sat (U:=Un) [] X w→av (U:=Un) [] fr0 []→Calls prog 27 #[(.int .i64 s),(.int .i64 i)] w (aS (U:=Un) [] [] X w Q)
 intro s i Q hQ X w hs hl
 exact HX s i Q hQ X w hs hl
def jY:Ctr Un:=⟨[],[(0,5)],[.ob 5 []],[],fun rk kk K=>K ⟨(.bool true),none,[],[],[]⟩⟩
def E5(rk:Nat→Nat)(kk:List Int)(Q:Ou Un→Prop):Prop:=
 ((1≤(3:Int)∧(3:Int)≤64)∧(1≤(1:Int)∧(1:Int)≤64))∧
 ∀(rN:Nat→Nat),
 ∀(m:Mem),m=(Mem.fresh (Int.toNat 3) (Int.toNat 1))→
 Mem.Wf m→
 ∃J:Bool→Prop,(
  J false)∧∀(QQ:Nat→Value)(PD:Bool),J PD→
 split PD (
  Q ⟨(.bool false),none,[],[],[]⟩) (
  1≤m.S∧
  ∀(Rs:Nat→Nat),
  ∀(m1:Mem),m1=(m.dm m.S)→
  Mem.Wf m1→
  ∀(E:Pd),E=(DB.new m).pd→
  Pd.Ok E→
  ∃J1:Bool→Mem→Pd→Prop,(
   E.n=m1.S∧
   (0≤(0:Int)∧(0:Int)<4294967296)∧
   (0≤(3:Int)∧(3:Int)<4294967296)∧
   ∀(E1:Pd),E1=((E.on m1).bx 0 3).pd→
   Pd.Ok E1→
   ∀(m2:Mem),m2=((E.on m1).bx 0 3).mem→
   Mem.Wf m2→
   split ((i64.wrap ((E.on m1).cn 0 3))==1) (
    E1.n=m2.S∧
    (0≤(0:Int)∧(0:Int)<4294967296)∧
    (0≤(1:Int)∧(1:Int)<4294967296)∧
    ∀(E2:Pd),E2=((E1.on m2).bx 0 1).pd→
    Pd.Ok E2→
    ∀(m3:Mem),m3=((E1.on m2).bx 0 1).mem→
    Mem.Wf m3→
    split ((i64.wrap ((E1.on m2).cn 0 1))==0) (
     E2.n=m3.S∧
     (0≤(0:Int)∧(0:Int)<4294967296)∧
     (0≤(2:Int)∧(2:Int)<4294967296)∧
     (0≤(7:Int)∧(7:Int)<4294967296)∧
     ∀(E3:Pd),E3=(DB.bC kk (E2.on m3) 0 2 7).pd→
     Pd.Ok E3→
     ∀(m4:Mem),m4=(DB.bC kk (E2.on m3) 0 2 7).mem→
     Mem.Wf m4→
     split ((i64.wrap ((E2.on m3).bM 0 2))==0) (
      E3.n=m4.S∧
      (0≤(1:Int)∧(1:Int)<4294967296)∧
      (0≤(2:Int)∧(2:Int)<4294967296)∧
      (0≤(7:Int)∧(7:Int)<4294967296)∧
      ∀(E4:Pd),E4=(DB.bC kk (E3.on m4) 1 2 7).pd→
      Pd.Ok E4→
      ∀(m5:Mem),m5=(DB.bC kk (E3.on m4) 1 2 7).mem→
      Mem.Wf m5→
      split ((i64.wrap ((E3.on m4).bM 1 2))==3) (
       J1 ((m5.aY true 2 0)==7) m5 E4) (
       J1 false m5 E4)) (
      J1 false m4 E3)) (
     J1 false m3 E2)) (
    J1 false m2 E1))∧∀(NR:Nat→Value)(x0:Bool)(s1:Mem)(s2:Pd),J1 x0 s1 s2→
  Mem.Wf s1→
  Pd.Ok s2→
  Q ⟨(.bool x0),none,[],[],[]⟩)
theorem E6:Vc2 Un prog (bw [(27,wY),(29,tQ),(31,gi),(32,ft),(33,oV)]) [] Tryz.f8 (.r' (.r' (.two (.two (.node [] (some ⟨[(13,(.one .bool))],[],upN 8 6,[]⟩) [] [] .leaf .leaf) .leaf) (.r' (.two (.node [] (some ⟨[(0,(.one .bool))],[],[0]++upN 16 32,[(1,(.ob 0)),(2,(.ob 1))]⟩) [] [] .leaf .leaf) .leaf))))) [] jY=(∀rk (kk:List Int),∀Q,(jY.body rk kk Q)→E5 rk kk Q):=by kernel_rfl
theorem E0:LV Un prog 8 jY:=verify Tryz.func8 aa (tb:= [(27,wY),(29,tQ),(31,gi),(32,ft),(33,oV)]) ⟨JM,H9,vE,tV,Dz,trivial⟩ (by kernel_rfl) (E6.mpr fun rk kk Q h=>ao (by omega) fun s1 rN m h_m f2=>⟨fun PD=>(PD=false),(by rfl),fun _ PD hx=>ae (fun c1=>(by exfalso;have hx:PD=false:=hx;rw [hx]at c1;cases c1)) fun c1=>ao (by subst_vars;decide) fun s3 Rs m1 NB f4 E h_E f5=>⟨fun x0 s1 s2=>(x0=true),ao (by(rw [h_E,NB,h_m];rfl)) fun s6=>ao (by omega) fun s7=>ao (by omega) fun s8 E1 OH f9 m2 PC f10=>aK (fun c2=>(by(have h0:=(by rw [h_E,NB,h_m];rfl:E.on m1=DB.hd0));exact ao (by(rw [OH,PC];exact DB.pdS _)) fun N6=>ao ‹_› fun Ua=>ao (by omega) fun s13 E2 Ty f14 m3 OP f15=>aK (fun c3=>(by(have h1:=(by rw [OH,PC,h0];show DB.hd0.bx 0 3=DB.hd0;unfold DB.bx;rw [if_neg (by rw [DB.KW];decide)]:E1.on m2=DB.hd0));exact ao (by(rw [Ty,OP];exact DB.pdS _)) fun s16=>ao ‹_› fun s17=>ao (by omega) fun s18=>ao (by omega) fun s19 E3 V1 f20 m4 Tx f21=>aK (fun c4=>(by(have h2:=(by rw [Ty,OP,h1];unfold DB.hd1;exact DB.xZ _:E2.on m3=DB.hd1));exact ao (by(rw [V1,Tx];exact DB.pdS _)) fun s22=>ao ‹_› fun s23=>ao ‹_› fun s24=>ao ‹_› fun s25 E4 h_E4 f26 m5 V0 f27=>aK (fun c5=>(by(have h3:=(by rw [V1,Tx,h2];exact DB.xZ _:E3.on m4=DB.bC kk DB.hd1 0 2 7));exact(by have h4:m5=(DB.bC kk DB.hd1 0 2 7).mem:=(by rw [V0,h3];exact congrArg DB.mem (DB.MV kk));rw [h4,DB.MW];rfl))) fun c5=>(by exfalso;have h3:=(by rw [V1,Tx,h2];exact DB.xZ _:E3.on m4=DB.bC kk DB.hd1 0 2 7);exact c5 (by rw [h3,DB.Ma];decide)))) fun c4=>(by exfalso;have h2:=(by rw [Ty,OP,h1];unfold DB.hd1;exact DB.xZ _:E2.on m3=DB.hd1);exact c4 (by rw [h2,DB.Mc];decide)))) fun c3=>(by exfalso;have h1:=(by rw [OH,PC,h0];show DB.hd0.bx 0 3=DB.hd0;unfold DB.bx;rw [if_neg (by rw [DB.KW];decide)]:E1.on m2=DB.hd0);exact c3 (by rw [h1,DB.MX];decide)))) fun c2=>(by exfalso;have h0:=(by rw [h_E,NB,h_m];rfl:E.on m1=DB.hd0);exact c2 (by rw [h0,DB.KW];decide)),fun _ x0 s1 s2 hy f28 f29=>CY h (hy.symm)⟩⟩)
end
end Go.Proofs.YtinhphjfnedhgaaGreatDoor
namespace Go.Proofs.YtinhphjfnedhgaaGreatDoor
open Go.Proofs.Tryz (prog)
open Go Go.RowKit V
open Go.IntKind (i64 u32 u64)
def lG(f:Nat→Bool)(n:Nat):Nat:=((List.range n).filter f).length
theorem ir(f:Nat→Bool)(n:Nat):lG f (n+1)=lG f n+if f n then 1 else 0:=by
 unfold lG
 rw [List.range_succ,List.filter_append,List.length_append]
 congr 1
 by_cases h:f n=true
 ·rw [if_pos h,List.filter_cons_of_pos h];rfl
 ·rw [if_neg h,List.filter_cons_of_neg h];rfl
theorem er {f g:Nat→Bool}:∀ {n:Nat},(∀q,q<n→f q=true→g q=true)→lG f n≤lG g n
 | 0,_=>Nat.le_refl _
 | n+1,h=>by
  rw [ir,ir]
  have:=er (n:=n) fun q hq=>h q (by omega)
  have h1:=h n (by omega)
  by_cases hf:f n=true
  ·rw [if_pos hf,if_pos (h1 hf)];omega
  ·rw [if_neg hf];omega
theorem g9 {f g:Nat→Bool} {p:Nat}(hp:g p=true)(hf:f p=false):∀ {n:Nat},p<n→(∀q,q<n→f q=true→g q=true)→lG f n+1≤lG g n
 | 0,h,_=>by omega
 | n+1,h,hh=>by
  rw [ir,ir]
  by_cases e:p=n
  ·subst e
   have:=er (n:=p) fun q hq=>hh q (by omega)
   rw [if_pos hp,if_neg (by rw [hf];decide)];omega
  ·have:=g9 hp hf (n:=n) (by omega) fun q hq=>hh q (by omega)
   have h1:=hh n (by omega)
   by_cases hf:f n=true
   ·rw [if_pos hf,if_pos (h1 hf)];omega
   ·rw [if_neg hf];omega
theorem jR {f g:Nat→Bool} {p:Nat}:∀ {n:Nat},(∀q,q<n→q≠p→f q=true→g q=true)→lG f n≤lG g n+1
 | 0,_=>by simp [lG]
 | n+1,h=>by
  rw [ir,ir]
  by_cases e:p=n
  ·subst e
   have:=er (f:=f) (g:=g) (n:=p) fun q hq=>h q (by omega) (by omega)
   split<;>split<;>omega
  ·have:=jR (n:=n) fun q hq=>h q (by omega)
   have h1:=h n (by omega) (by omega)
   by_cases hf:f n=true
   ·rw [if_pos hf,if_pos (h1 hf)];omega
   ·rw [if_neg hf];omega
theorem Ep {f:Nat→Bool} {a b n:Nat}(ha:a<n)(hb:b<n)(Uo:a≠b)(fa:f a=false)(fb:f b=false):lG f n+2≤n:=by
 have h1:=g9 (f:=f) (g:=fun q=>f q || q==a) (p:=a) (by simp) fa ha (fun q _ h=>by simp [h])
 have h2:=g9 (f:=fun q=>f q || q==a) (g:=fun q=>(f q || q==a) || q==b) (p:=b) (by simp) (by simp [fb];omega) hb (fun q _ h=>by simp only [h,Bool.true_or])
 have h3:lG (fun q=>(f q || q==a) || q==b) n≤n:=by
  unfold lG
  exact Nat.le_trans (List.length_filter_le _ _) (by rw [List.length_range];exact Nat.le_refl _)
 omega
namespace Mem
theorem bL {m:Mem} {p o v x y:Int}(h:p≠x):(m.write true p o v).aY true x y=m.aY true x y:=by
 refine n9 (DB.cC ..) (fun hs=>?_) y
 by_cases hp:0≤p
 ·exact iF (vZ hs hp h)
 ·unfold write
  rw [if_neg]
  simp [has];omega
theorem fz {m:Mem} {p q x y:Int} {b:Bool}(h:p≠x):(m.copy true p b q).aY true x y=m.aY true x y:=by
 refine n9 (jN ..) (fun hs=>?_) y
 by_cases hp:0≤p
 ·exact vU (vZ hs hp h)
 ·unfold copy
  rw [if_neg]
  simp [has];omega
theorem uN {m:Mem} {p x y:Int}(h:p≠x):(m.zero true p).aY true x y=m.aY true x y:=by
 refine n9 (DB.ov ..) (fun hs=>?_) y
 unfold zero
 split
 ·rename_i hp
  have h1:=ai hs
  have h2:=ai hp
  funext o
  show(if true=true∧x.toNat=p.toNat then _ else _)=_
  rw [if_neg (by omega)]
 ·rfl
theorem vV {m:Mem} {p o v x:Int}(ho:0<o):(m.write true p o v).aY true x 0=m.aY true x 0:=by
 by_cases e:p=x
 ·subst e
  by_cases h:(m.has true p && dq o)=true
  ·have h':m.has true p=true∧dq o=true:=by simpa using h
   rw [cx h'.1 h'.2,if_neg (by omega)]
  ·unfold write;rw [if_neg h]
 ·exact bL e
theorem mo {p x:Int}:∀(l:List Int)(m:Mem)(o:Int),0<o→(m.wrs p o l).aY true x 0=m.aY true x 0
 | [],_,_,_=>rfl
 | y::l,m,o,h=>by rw [wrs,mo l _ _ (by omega),vV h]
theorem D5 {kk:List Int} {m:Mem} {p k a x:Int} {l:List U32}:(m.msd kk p k a l).aY true x 0=m.aY true x 0:=by
 unfold msd
 split
 ·exact mo _ _ _ (by omega)
 ·rfl
theorem su {m:Mem} {p o v x y:Int}:(m.write false p o v).aY true x y=m.aY true x y:=
 n9 (DB.cC ..) (fun _=>iF (by rintro⟨h,_⟩;cases h)) y
end Mem
namespace DB
def cnt(d:DB)(x:Int):Nat:=lG (d.bm x) d.S
structure Good(d:DB):Prop where
 inv:d.Inv
 own:∀x,d.has x=true→(d.at_ x).typ=1→(d.at_ x).owner=x
 refs:∀x,d.has x=true→(d.at_ x).typ=1→(d.at_ x).refs≤(d.cnt x:Int)
 tbl:∀x,d.aE x=0→d.of (d.word x 0) 3 x=true
theorem Good.ay {d:DB} {m:Mem}(h:d.Good)(hS:m.S=d.mem.S)(hI:(d.aD m).Inv)(hw:∀x,d.aE x=0→m.aY true x 0=d.mem.aY true x 0):(d.aD m).Good:=by
 have hh:∀x,(d.aD m).has x=d.has x:=fun x=>by unfold has;rw [show(d.aD m).S=d.S from hS]
 refine⟨hI,fun x hx=>h.own x (by rw [← hh];exact hx),fun x hx ht=>?_,fun x hx=>?_⟩
 ·have e:(d.aD m).cnt x=d.cnt x:=by unfold cnt;rw [show(d.aD m).S=d.S from hS];rfl
  rw [e];exact h.refs x (by rw [← hh];exact hx) ht
 ·have hx:d.aE x=0:=by rw [← wH hS];exact hx
  have e:(d.aD m).word x 0=d.word x 0:=hw x hx
  rw [e]
  have:=h.tbl x hx
  unfold of is at this ⊢
  rw [hh];exact this
theorem bQ {d:DB} {x:Int} {q:Nat}(h:d.bm x q=true):(q:Int)≠x∧(d.ent q).typ≠0∧(d.ent q).owner=x:=by
 simpa [bm,and_assoc]using h
theorem cK {d:DB} {x:Int} {q:Nat}(h:(q:Int)≠x∧(d.ent q).typ≠0∧(d.ent q).owner=x):d.bm x q=true:=by
 simpa [bm,and_assoc]using h
theorem dy {d:DB} {p t s q:Int}(hp:d.has p=true)(hs:d.has s=true)(hq:0≤q)(PF:s≠p):(d.cl p t s).at_ q=if q=s then {d.at_ s with refs:=(d.at_ s).refs+1}else if q=p then⟨t,s,0,0,false⟩else d.at_ q:=by
 have h1:=ai hp
 have h2:=ai hs
 unfold cl more
 rw [bE h2.1 hq,bE h1.1 h2.1,bE h1.1 hq,if_neg PF]
theorem nP {d:DB} {p t s:Int}(h:d.bY p t s=0):d.has p=true∧d.has s=true∧(d.at_ s).typ=1∧(d.at_ s).refs<63∧(d.at_ p).typ=0∧d.take p t s=d.cl p t s:=by
 unfold bY at h
 have e:d.take p t s=d.cl p t s:=by unfold take bY;rw [if_pos h]
 cases hp:d.has p
 ·simp [hp]at h
 ·cases hs:d.cp s
  ·simp [hp,hs]at h
   split at h<;>simp at h
  ·have h3:d.has s=true∧(d.at_ s).typ=1:=by simpa [cp]using hs
   by_cases h4:(d.at_ s).refs≥63
   ·simp [hp,hs,h4]at h
    split at h<;>simp at h
   ·by_cases h5:(d.at_ p).typ=0
    ·exact⟨rfl,h3.1,h3.2,by omega,h5,e⟩
    ·simp [hp,hs,h4,h5]at h
     split at h<;>simp at h
theorem fJ {d:DB} {p t o:Int}(h:d.has p=true∧(d.at_ p).typ=t∧(d.at_ p).owner=o):d.of p t o=true:=by
 simpa [of,is,and_assoc]using h
theorem Good.take {d:DB} {p t s:Int}(h:d.Good)(ht:t≠1)(ht0:t≠0):(d.take p t s).Good:=by
 by_cases he:d.bY p t s=0
 ·obtain⟨hp,hs,Vu,hr,hf,e⟩:=nP he
  have PF:s≠p:=by rintro rfl;omega
  have p0:=ai hp
  have s0:=ai hs
  have hI:(d.take p t s).Inv:=fun x hx=>by rw [aO];exact h.inv x (j8 ht hs hx)
  have hb:∀x,(d.take p t s).aE x=0→d.aE x=0:=fun x hx=>j8 ht hs hx
  rw [e]at hI hb ⊢
  have ent:∀q:Nat,(d.cl p t s).ent q=if(q:Int)=s then {d.ent q with refs:=(d.ent q).refs+1}else if(q:Int)=p then⟨t,s,0,0,false⟩else d.ent q:=fun q=>by
   have e1:=dy (t:=t) hp hs (q:=(q:Int)) (by omega) PF
   have e2:∀D:DB,D.at_ (q:Int)=D.ent q:=fun D=>by unfold at_;rw [Int.toNat_natCast]
   rw [e2,e2]at e1
   rw [e1]
   by_cases e3:(q:Int)=s
   ·rw [if_pos e3,if_pos e3,← e3,e2]
   ·rw [if_neg e3,if_neg e3]
  have fU:∀x:Int,∀q:Nat,d.bm x q=true→(d.cl p t s).bm x q=true:=fun x q hq=>by
   obtain⟨h1,h2,h3⟩:=bQ hq
   refine cK ?_
   rw [ent]
   by_cases e1:(q:Int)=s
   ·rw [if_pos e1];exact⟨h1,h2,h3⟩
   ·rw [if_neg e1,if_neg]
    ·exact⟨h1,h2,h3⟩
    ·rintro rfl
     unfold at_ at hf;rw [Int.toNat_natCast]at hf;exact h2 hf
  refine⟨hI,fun x hx h1=>?_,fun x hx h1=>?_,fun x hx=>?_⟩
  ·have x0:=ai (show d.has x=true from hx)
   rw [dy hp hs x0.1 PF]at h1 ⊢
   by_cases e1:x=s
   ·rw [if_pos e1];subst e1;exact h.own x hs Vu
   ·rw [if_neg e1]at h1 ⊢
    by_cases e2:x=p
    ·rw [if_pos e2]at h1;exact absurd h1 ht
    ·rw [if_neg e2]at h1 ⊢;exact h.own x hx h1
  ·have x0:=ai (show d.has x=true from hx)
   rw [dy hp hs x0.1 PF]at h1 ⊢
   by_cases e1:x=s
   ·subst e1
    rw [if_pos rfl]
    have VB:((p.toNat:Nat):Int)=p:=Int.toNat_of_nonneg p0.1
    have hc:d.cnt x+1≤(d.cl p t x).cnt x:=by
     refine g9 (p:=p.toNat) (cK ?_) ?_ (show p.toNat<d.S by omega) fun q _ hq=>fU x q hq
     ·rw [ent,VB,if_neg (Ne.symm PF),if_pos rfl]
      exact⟨Ne.symm PF,ht0,rfl⟩
     ·rw [← Bool.not_eq_true]
      intro hq
      exact(bQ hq).2.1 hf
    have:=h.refs x hs Vu
    show(d.at_ x).refs+1≤_
    omega
   ·have e2:x≠p:=by rintro rfl;rw [if_neg e1,if_pos rfl]at h1;exact ht h1
    rw [if_neg e1,if_neg e2]at h1 ⊢
    have hc:d.cnt x≤(d.cl p t s).cnt x:=er fun q _ hq=>fU x q hq
    have:=h.refs x hx h1
    omega
  ·have Sa:=hb x hx
   obtain⟨a,b,c⟩:=aP (h.tbl x Sa)
   have q0:=ai a
   refine fJ ?_
   have ew:(d.cl p t s).word x 0=d.word x 0:=rfl
   rw [ew,dy hp hs q0.1 PF]
   have n1:d.word x 0≠s:=by intro e1;rw [e1]at b;omega
   have n2:d.word x 0≠p:=by intro e1;rw [e1]at b;omega
   rw [if_neg n1,if_neg n2]
   exact⟨a,b,c⟩
 ·unfold DB.take;rw [if_neg he];exact h
theorem Gs(m:Mem):(DB.new m).Good:=⟨IP m,fun x _ h=>(by cases h),fun x _ h=>(by cases h),fun x hx=>(by have:=(bo.1 hx).2.1;cases this)⟩
theorem Good.setState {d:DB} {p s:Int}(h:d.Good)(hs:s≠1):(d.setState p s).Good:=by
 have hI:(d.setState p s).Inv:=fun x hx=>by rw [bS];exact h.inv x (fw hs hx)
 have hb:∀x,(d.setState p s).aE x=0→d.aE x=0:=fun x hx=>fw hs hx
 by_cases he:d.aT p s=0
 ·have e:d.setState p s=d.set p {d.at_ p with state:=s}:=by unfold DB.setState;rw [if_pos he]
  have hp:d.has p=true:=by
   cases hp:d.has p
   ·unfold aT at he;simp [hp]at he
   ·rfl
  have p0:=ai hp
  rw [e]at hI hb ⊢
  have at2:∀x:Int,0≤x→((d.set p {d.at_ p with state:=s}).at_ x).typ=(d.at_ x).typ∧((d.set p {d.at_ p with state:=s}).at_ x).owner=(d.at_ x).owner∧((d.set p {d.at_ p with state:=s}).at_ x).refs=(d.at_ x).refs:=fun x hx=>by
   rw [bE p0.1 hx]
   by_cases e1:x=p
   ·subst e1;rw [if_pos rfl];exact⟨rfl,rfl,rfl⟩
   ·rw [if_neg e1];exact⟨rfl,rfl,rfl⟩
  have hc:∀x,(d.set p {d.at_ p with state:=s}).cnt x=d.cnt x:=fun x=>by
   unfold cnt
   congr 1
   funext q
   have:=at2 (q:Int) (by omega)
   have e2:∀D:DB,D.at_ (q:Int)=D.ent q:=fun D=>by unfold at_;rw [Int.toNat_natCast]
   rw [e2,e2]at this
   unfold bm
   rw [this.1,this.2.1]
  refine⟨hI,fun x hx h1=>?_,fun x hx h1=>?_,fun x hx=>?_⟩
  ·have x0:=ai (show d.has x=true from hx)
   have:=at2 x x0.1
   rw [this.1]at h1;rw [this.2.1];exact h.own x hx h1
  ·have x0:=ai (show d.has x=true from hx)
   have:=at2 x x0.1
   rw [this.1]at h1;rw [this.2.2,hc];exact h.refs x hx h1
  ·obtain⟨a,b,c⟩:=aP (h.tbl x (hb x hx))
   have:=at2 _ (ai a).1
   exact fJ ⟨a,by rw [show(d.set p {d.at_ p with state:=s}).word x 0=d.word x 0 from rfl,this.1];exact b,by rw [show(d.set p {d.at_ p with state:=s}).word x 0=d.word x 0 from rfl,this.2.1];exact c⟩
 ·unfold DB.setState;rw [if_neg he];exact h
theorem cT(D:DB)(q:Nat):D.at_ (q:Int)=D.ent q:=by unfold at_;rw [Int.toNat_natCast]
theorem Good.dB {d:DB} {p:Int}(h:d.Good)(hg:d.mG p=true):(d.dB p).Good:=by
 have hI:=yr (p:=p) h.inv
 unfold mG at hg
 simp only [Bool.and_eq_true,bne_iff_ne,ne_eq,beq_iff_eq,Bool.or_eq_true]at hg
 obtain⟨hp,ho,ht,OT,hr⟩:=hg
 have p0:=ai hp
 have o0:=ai ho
 by_cases he:d.cR p=0
 ·have e:d.dB p=d.aX p:=by unfold DB.dB;rw [if_pos he]
  rw [e]at hI ⊢
  have g:∀x,(d.aX p).at_ x=(if(d.at_ p).typ !=1 && ((d.set p .free).cp (d.at_ p).owner && decide (((d.set p .free).at_ (d.at_ p).owner).refs>0))then(d.set p .free).more (d.at_ p).owner (-1)else d.set p .free).at_ x:=fun x=>rfl
  have hc:∃r:Int,r≤(d.at_ (d.at_ p).owner).refs∧((d.at_ p).typ≠1→(d.at_ (d.at_ p).owner).typ=1→r≤0∨r≤(d.at_ (d.at_ p).owner).refs - 1)∧∀x:Int,0≤x→(d.aX p).at_ x=if x=p then Ent.free else if x=(d.at_ p).owner then {d.at_ x with refs:=r}else d.at_ x:=by
   by_cases Ra:((d.at_ p).typ !=1 && ((d.set p .free).cp (d.at_ p).owner && decide (((d.set p .free).at_ (d.at_ p).owner).refs>0)))=true
   ·have g2:=fun x=>(g x).trans (by rw [if_pos Ra])
    simp only [Bool.and_eq_true,cp,dA,bne_iff_ne,ne_eq,decide_eq_true_eq,beq_iff_eq]at Ra
    have NN:(d.at_ p).owner≠p:=by
     intro e1
     have h9:=Ra.2.2
     rw [e1,bE p0.1 p0.1,if_pos rfl]at h9;exact absurd h9 (by decide)
    have e1:(d.set p .free).at_ (d.at_ p).owner=d.at_ (d.at_ p).owner:=by rw [bE p0.1 o0.1,if_neg NN]
    refine⟨(d.at_ (d.at_ p).owner).refs+ -1,by omega,fun _ _=>.inr (by omega),fun x hx=>?_⟩
    rw [g2]
    unfold more
    rw [bE o0.1 hx,e1]
    by_cases e2:x=(d.at_ p).owner
    ·rw [if_pos e2,if_neg (by rw [e2];exact NN),if_pos e2,e2]
    ·rw [if_neg e2,bE p0.1 hx,if_neg e2]
   ·have g2:=fun x=>(g x).trans (by rw [if_neg Ra])
    refine⟨(d.at_ (d.at_ p).owner).refs,by omega,fun h1 h2=>?_,fun x hx=>?_⟩
    ·left
     simp only [Bool.and_eq_true,cp,dA,bne_iff_ne,ne_eq,decide_eq_true_eq,beq_iff_eq,not_and]at Ra
     by_cases NN:(d.at_ p).owner=p
     ·rw [NN]at h2;exact absurd h2 h1
     ·rw [bE p0.1 o0.1,if_neg NN]at Ra
      have:=Ra h1 ⟨ho,h2⟩
      omega
    ·rw [g2,bE p0.1 hx]
     by_cases e1:x=p
     ·rw [if_pos e1,if_pos e1]
     ·rw [if_neg e1,if_neg e1]
      by_cases e2:x=(d.at_ p).owner
      ·rw [if_pos e2,← e2]
      ·rw [if_neg e2]
  obtain⟨r,Q2,Qe,hat⟩:=hc
  have hh:∀x,(d.aX p).has x=d.has x:=fun x=>by
   unfold aX
   show(Mem.zero _ true p).has true x=_
   rw [ov];split<;>rfl
  have hS:(d.aX p).S=d.S:=by
   unfold aX
   show(Mem.zero _ true p).S=_
   rw [Mem.qb];split<;>rfl
  have ow:∀x:Int,∀q:Nat,(q:Int)≠p→d.bm x q=true→(d.aX p).bm x q=true:=fun x q hq hx=>by
   obtain⟨h1,h2,h3⟩:=bQ hx
   have e1:=hat (q:Int) (by omega)
   rw [cT,if_neg hq]at e1
   refine cK ?_
   rw [e1]
   split
   ·exact⟨h1,by rw [cT];exact h2,by rw [cT];exact h3⟩
   ·exact⟨h1,by rw [cT];exact h2,by rw [cT];exact h3⟩
  have t1:∀x:Int,d.has x=true→((d.aX p).at_ x).typ=1→x≠p∧(d.at_ x).typ=1∧((d.aX p).at_ x).owner=(d.at_ x).owner∧((d.aX p).at_ x).state=(d.at_ x).state:=fun x hx h1=>by
   have x0:=ai hx
   rw [hat x x0.1]at h1 ⊢
   by_cases e1:x=p
   ·rw [if_pos e1]at h1;cases h1
   ·rw [if_neg e1]at h1 ⊢
    split at h1
    ·rename_i e2;rw [if_pos e2];exact⟨e1,h1,rfl,rfl⟩
    ·rename_i e2;rw [if_neg e2];exact⟨e1,h1,rfl,rfl⟩
  refine⟨hI,fun x hx h1=>?_,fun x hx h1=>?_,fun x hx=>?_⟩
  ·rw [hh]at hx
   obtain⟨n1,n2,n3,_⟩:=t1 x hx h1
   rw [n3];exact h.own x hx n2
  ·rw [hh]at hx
   obtain⟨n1,n2,n3,_⟩:=t1 x hx h1
   have x0:=ai hx
   have hrx:=h.refs x hx n2
   rw [hat x x0.1,if_neg n1]
   by_cases e2:x=(d.at_ p).owner
   ·rw [if_pos e2]
    show r≤_
    have hc:d.cnt x≤(d.aX p).cnt x+1:=by
     unfold cnt;rw [hS]
     exact jR (p:=p.toNat) fun q _ hq hx=>ow x q (by omega) hx
    by_cases hpt:(d.at_ p).typ=1
    ·exact absurd (e2.trans (h.own p hp hpt)) n1
    ·rw [← e2]at Q2 Qe
     rcases Qe hpt n2 with h9 | h9<;>omega
   ·rw [if_neg e2]
    have hc:d.cnt x≤(d.aX p).cnt x:=by
     unfold cnt;rw [hS]
     refine er fun q _ hq=>ow x q ?_ hq
     rintro e3
     have:=(bQ hq).2.2
     rw [← cT,e3]at this
     exact e2 this.symm
    omega
  ·obtain⟨b1,b2,b3⟩:=bo.1 hx
   rw [hh]at b1
   obtain⟨n1,n2,n3,n4⟩:=t1 x b1 b2
   rw [n4]at b3
   have hxd:d.aE x=0:=bo.2 ⟨b1,n2,b3⟩
   obtain⟨a,b,c⟩:=aP (h.tbl x hxd)
   have ew:(d.aX p).word x 0=d.word x 0:=by
    unfold aX word
    have hm:∀c:Bool,(DB.ay (if c then(d.set p .free).more (d.at_ p).owner (-1)else d.set p .free) (·.zero true p)).mem=d.mem.zero true p:=by intro c;cases c<;>rfl
    rw [hm,Mem.uN (Ne.symm n1)]
   rw [ew]
   have q0:=ai a
   refine fJ ⟨by rw [hh];exact a,?_⟩
   have nq:d.word x 0≠p:=by
    intro e1;rw [e1]at c
    rw [c]at OT;omega
   rw [hat _ q0.1,if_neg nq]
   split
   ·exact⟨b,c⟩
   ·exact⟨b,c⟩
 ·have e:d.dB p=d:=by unfold DB.dB;rw [if_neg he]
  rw [e];exact h
theorem Good.space {d:DB} {s f:Int}(h:d.Good):(d.bx s f).Good:=by
 have hI:=uG (s:=s) (f:=f) h.inv
 by_cases he:d.cn s f=0
 ·have e:d.bx s f=(d.aJ s f).ay (·.wrs s 11 Dg.new.save):=by unfold bx;rw [if_pos he]
  unfold cn at he
  have h1:¬d.bj s≠0:=by grind
  have h2:¬d.bj f≠0:=by grind
  have h3:¬s=f:=by grind
  have h4:¬d.bp s≠0:=by grind
  have h5:¬d.bp f≠0:=by grind
  have h6:¬d.ax≥64:=by grind
  have hs:=dW h1
  have hf:=dW h2
  have r1:=ai hs
  have r2:=ai hf
  have f1:=dF hs h4
  have f2:=dF hf h5
  have ht:d.aQ s f=0:=by rw [fe h1 h2 h3 h4 h5,if_neg h6]
  have e2:d.aJ s f=d.aZ s f:=by unfold aJ;rw [if_pos ht]
  rw [e,e2]at hI ⊢
  have hm:((d.aZ s f).ay (·.wrs s 11 Dg.new.save)).mem=(((d.mem.write true s 0 f).write true s 1 d.ax).write true s 2 0).wrs s 11 Dg.new.save:=rfl
  have hS:((d.aZ s f).ay (·.wrs s 11 Dg.new.save)).S=d.S:=by
   show(((((d.mem.write true s 0 f).write true s 1 d.ax).write true s 2 0)).wrs s 11 Dg.new.save).S=_
   rw [Mem.fP,Mem.aV,Mem.aV,Mem.aV];rfl
  generalize hD:(d.aZ s f).ay (·.wrs s 11 Dg.new.save)=D at hI hm hS ⊢
  have hh:∀x,D.has x=d.has x:=fun x=>by unfold has;rw [hS]
  have hat:∀x:Int,0≤x→D.at_ x=if x=f then⟨3,s,0,0,false⟩else if x=s then⟨1,s,1,1,false⟩else d.at_ x:=fun x hx=>by
   rw [← hD]
   show((d.set s ⟨1,s,1,1,false⟩).set f ⟨3,s,0,0,false⟩).at_ x=_
   rw [bE r2.1 hx,bE r1.1 hx]
  have fU:∀x:Int,∀q:Nat,d.bm x q=true→D.bm x q=true:=fun x q hq=>by
   obtain⟨a,b,c⟩:=bQ hq
   rw [← cT]at b c
   have:=hat (q:Int) (by omega)
   rw [if_neg (by rintro e1;rw [e1]at b;exact b f2),if_neg (by rintro e1;rw [e1]at b;exact b f1),cT]at this
   exact cK ⟨a,by rw [this];exact b,by rw [this];exact c⟩
  refine⟨hI,fun x hx t1=>?_,fun x hx t1=>?_,fun x hx=>?_⟩
  ·rw [hh]at hx
   have x0:=ai hx
   rw [hat x x0.1]at t1 ⊢
   by_cases e1:x=f
   ·rw [if_pos e1]at t1;cases t1
   ·rw [if_neg e1]at t1 ⊢
    by_cases e2:x=s
    ·rw [if_pos e2];exact e2.symm
    ·rw [if_neg e2]at t1 ⊢;exact h.own x hx t1
  ·rw [hh]at hx
   have x0:=ai hx
   rw [hat x x0.1]at t1 ⊢
   by_cases e1:x=f
   ·rw [if_pos e1]at t1;cases t1
   ·rw [if_neg e1]at t1 ⊢
    by_cases e2:x=s
    ·rw [if_pos e2]
     show(1:Int)≤_
     have U0:((f.toNat:Nat):Int)=f:=Int.toNat_of_nonneg r2.1
     have:=g9 (f:=fun _=>false) (g:=D.bm x) (p:=f.toNat) (n:=D.S) (cK (by
      have:=hat f r2.1
      rw [if_pos rfl]at this
      rw [U0,show D.ent f.toNat=D.at_ f from rfl,this]
      exact⟨Ne.symm e1,(by show(3:Int)≠0;decide),e2.symm⟩)) rfl (by rw [hS];show f.toNat<d.S;have:=r2.2;omega) (fun q _ h9=>by cases h9)
     unfold cnt
     omega
    ·rw [if_neg e2]at t1 ⊢
     have hc:d.cnt x≤D.cnt x:=by
      unfold cnt;rw [hS]
      exact er fun q _ hq=>fU x q hq
     have:=h.refs x hx t1
     omega
  ·obtain⟨b1,b2,b3⟩:=bo.1 hx
   rw [hh]at b1
   have x0:=ai b1
   rw [hat x x0.1]at b2 b3
   by_cases e1:x=f
   ·rw [if_pos e1]at b2;cases b2
   ·rw [if_neg e1]at b2 b3
    unfold word
    rw [hm,Mem.mo _ _ _ (by omega),Mem.vV (by omega),Mem.vV (by omega)]
    by_cases e2:x=s
    ·rw [e2,Mem.cx hs (by decide),if_pos rfl]
     refine fJ ⟨by rw [hh];exact hf,?_⟩
     rw [hat f r2.1,if_pos rfl]
     exact⟨rfl,rfl⟩
    ·rw [if_neg e2]at b2 b3
     rw [Mem.bL (Ne.symm e2)]
     obtain⟨a,b,c⟩:=aP (h.tbl x (bo.2 ⟨b1,b2,b3⟩))
     have q0:=ai a
     refine fJ ⟨by rw [hh];exact a,?_⟩
     show(D.at_ (d.word x 0)).typ=3∧(D.at_ (d.word x 0)).owner=x
     rw [hat _ q0.1,if_neg (by intro e3;rw [e3]at b;omega),if_neg (by intro e3;rw [e3]at b;omega)]
     exact⟨b,c⟩
 ·have e:d.bx s f=d:=by unfold bx;rw [if_neg he]
  rw [e];exact h
theorem add_eq(d:DB)(s i q:Int):d.add s i q=d.aD (d.add s i q).mem∧(d.add s i q).mem.S=d.mem.S:=by
 unfold add;split
 ·exact⟨rfl,Mem.aV ..⟩
 ·exact⟨rfl,rfl⟩
theorem put_eq(d:DB)(s va:Int)(M:Mp):d.put s va M=d.aD (d.put s va M).mem∧(d.put s va M).mem.S=d.mem.S:=by
 unfold put;split
 ·exact⟨rfl,Mem.aV ..⟩
 ·exact⟨rfl,rfl⟩
theorem xY {d:DB} {s i q x y:Int}(h:(d.at_ x).typ≠3):(d.add s i q).mem.aY true x y=d.mem.aY true x y:=by
 unfold add;split
 ·rename_i he
  exact Mem.bL fun e=>h (e▸(aP (Dt he).2).2.1)
 ·rfl
theorem xX {d:DB} {s va x y:Int} {M:Mp}(h:(d.at_ x).typ≠4):(d.put s va M).mem.aY true x y=d.mem.aY true x y:=by
 unfold put;split
 ·rename_i he
  exact Mem.bL fun e=>h (e▸(aP (qq he).1).2.1)
 ·rfl
theorem Good.msd {kk:List Int} {d D:DB} {s k a:Int} {l:List U32}(h:d.Good)(e:D=d.aD D.mem)(hS:D.mem.S=d.mem.S)(hw:∀x,d.aE x=0→D.mem.aY true x 0=d.mem.aY true x 0)(hI:(D.ay (fun m=>m.msd kk s k a l)).Inv):(D.ay (fun m=>m.msd kk s k a l)).Good:=by
 have e2:D.ay (fun m=>m.msd kk s k a l)=d.aD (D.mem.msd kk s k a l):=by
  unfold DB.ay;rw [e];rfl
 rw [e2]at hI ⊢
 exact h.ay (by rw [Mem.gS];exact hS) hI fun x hx=>by rw [Mem.D5];exact hw x hx
theorem Eu {kk:List Int} {d:DB} {o:LOp}(ho:o.Ok)(h:d.Good)(hw:d.mem.Wf):(d.call kk o).Good:=by
 have hI:=G9 (kk:=kk) ho h.inv hw
 unfold call at hI ⊢
 split
 ·exact h.space
 rename_i n1
 rw [if_neg n1]at hI
 split
 ·rename_i n2
  rw [if_pos n2]at hI
  unfold bC at hI ⊢
  split
  ·rename_i he
   rw [if_pos he]at hI
   unfold bM at he
   have h1:¬d.aE o.a≠0:=by grind
   have h2:¬d.bj o.b≠0:=by grind
   have h3:¬d.bp o.b≠0:=by grind
   have f1:=dF (dW h2) h3
   have G:=h.take (p:=o.b) (t:=2) (s:=o.a) (by omega) (by omega)
   exact G.msd (D:=(d.take o.b 2 o.a).ay (·.write true o.b 0 o.c)) rfl (Mem.aV ..) (fun x hx=>by
    have b:=bo.1 (j8 (by omega) (fO h1).1 hx)
    exact Mem.bL (by rintro rfl;omega)) hI
  ·exact h
 rename_i n2
 rw [if_neg n2]at hI
 split
 ·rename_i n3
  rw [if_pos n3]at hI
  unfold dt at hI ⊢
  split
  ·rename_i he
   rw [if_pos he]at hI
   have G:=h.take (p:=o.b) (t:=4) (s:=o.a) (by omega) (by omega)
   have e:=add_eq (d.take o.b 4 o.a) o.a o.c o.b
   exact G.msd e.1 e.2 (fun x hx=>xY (by have:=(bo.1 hx).2.1;omega)) hI
  ·exact h
 rename_i n3
 rw [if_neg n3]at hI
 split
 ·rename_i n4
  rw [if_pos n4]at hI
  unfold ez at hI ⊢
  split
  ·rename_i he
   rw [if_pos he]at hI
   unfold cH at he
   have h1:¬d.aE o.a≠0:=by grind
   have h2:¬d.bj o.b≠0:=by grind
   have h3:¬d.bp o.b≠0:=by grind
   have f1:=dF (dW h2) h3
   have G:=h.take (p:=o.b) (t:=5) (s:=o.a) (by omega) (by omega)
   have e1:(d.bz o.a o.b o.c o.d).ay (fun m=>m.msd kk o.a 3 o.c (m.words true o.b.toNat))=(d.bz o.a o.b o.c o.d).ay (fun m=>m.msd kk o.a 3 o.c ((d.bz o.a o.b o.c o.d).mem.words true o.b.toNat)):=by
    unfold DB.ay;rfl
   rw [e1]at hI ⊢
   have e:=put_eq ((d.take o.b 5 o.a).ay (·.copy true o.b false o.d)) o.a (bI o.c) (Mp.mk true o.b (paW o.c) (paX o.c))
   refine G.msd (D:=d.bz o.a o.b o.c o.d) e.1 (e.2.trans (Mem.iP ..)) (fun x hx=>?_) hI
   have b:=bo.1 hx
   have b':=bo.1 (j8 (by omega) (fO h1).1 hx)
   unfold bz
   rw [xX (by show((d.take o.b 5 o.a).at_ x).typ≠4;omega)]
   exact Mem.fz (by rintro rfl;omega)
  ·exact h
 ·rename_i n4
  rw [if_neg n4]at hI
  unfold du at hI ⊢
  split
  ·rename_i he
   rw [if_pos he]at hI
   have e:=put_eq d o.a (bI o.b) (Mp.mk false o.c (paW o.b) false)
   exact h.msd e.1 e.2 (fun x hx=>xX (by have:=(bo.1 hx).2.1;omega)) hI
  ·exact h
theorem yS {d:DB} {o:LOp}(h:d.Good):(d.beside o).Good:=by
 have hI:=Bt (o:=o) h.inv
 unfold beside at hI ⊢
 split
 ·rename_i n1
  rw [if_pos n1]at hI
  exact h.ay (Mem.aV ..) hI fun x _=>Mem.su
 rename_i n1
 rw [if_neg n1]at hI
 split
 ·rename_i n2
  rw [if_pos n2]at hI
  split
  ·rename_i hb
   have b0:d.has o.a=true∧(d.at_ o.a).typ=1∧(d.at_ o.a).state=1:=by simpa [jk,and_assoc]using hb
   rw [if_pos hb]at hI
   have e1:d.aT o.a 2=0:=by unfold aT;simp [b0.1,b0.2.1,b0.2.2]
   have e2:(d.ay fun m=>m.wrs o.a 11 (List.replicate 26 0)).aT o.a 2=0:=by
    have h9:(d.ay fun m=>m.wrs o.a 11 (List.replicate 26 0)).has o.a=d.has o.a:=Mem.jl o.a true o.a (List.replicate 26 0) d.mem 11
    have h8:(d.ay fun m=>m.wrs o.a 11 (List.replicate 26 0)).at_ o.a=d.at_ o.a:=rfl
    unfold aT;rw [h9,h8];simp [b0.1,b0.2.1,b0.2.2]
   have e3:(d.ay fun m=>m.wrs o.a 11 (List.replicate 26 0)).setState o.a 2=(d.setState o.a 2).aD (d.mem.wrs o.a 11 (List.replicate 26 0)):=by
    unfold DB.setState;rw [if_pos e1,if_pos e2];rfl
   rw [e3]at hI ⊢
   exact(h.setState (by omega)).ay (by rw [Mem.fP,bS]) hI fun x _=>by rw [Mem.mo _ _ _ (by omega),bS]
  ·exact h
 split
 ·exact h.setState (by omega)
 split
 ·split
  ·rename_i hg
   exact h.dB hg
  ·exact h
 ·exact h
theorem Good.room {d:DB}(h:d.Good)(hS:d.S≤64) {s p:Int}(hs:d.has s=true)(ht:(d.at_ s).typ=1)(hp:d.has p=true)(hf:(d.at_ p).typ=0):(d.at_ s).refs<63:=by
 have s0:=ai hs
 have p0:=ai hp
 have:=Ep (f:=d.bm s) (a:=s.toNat) (b:=p.toNat) (n:=d.S) (by omega) (by omega) (by rintro e;exact absurd (show s=p by omega) (by rintro rfl;omega)) (by
  rw [← Bool.not_eq_true];intro hq
  exact(bQ hq).1 (Int.toNat_of_nonneg s0.1)) (by
  rw [← Bool.not_eq_true];intro hq
  exact(bQ hq).2.1 hf)
 have:=h.refs s hs ht
 unfold cnt at this
 omega
theorem Good.nM {d:DB}(h:d.Good)(hS:d.S≤64) {s p t:Int}(h1:¬d.aE s≠0)(h2:¬d.bj p≠0)(h3:¬d.bp p≠0)(ht:t=2∨t=4∨t=5):d.bY p t s=0:=by
 have b:=fO h1
 have hp:=dW h2
 have hf:=dF hp h3
 have hr:=h.room hS b.1 b.2.1 hp hf
 unfold bY cp turns
 have Nn:¬63≤(d.at_ s).refs:=by omega
 rcases ht with rfl | rfl | rfl<;>simp [hp,b.1,b.2.1,hf,Nn]
theorem nO {d:DB} {s p t:Int}(h:d.Good)(he:d.bY p t s=0)(h1:¬d.aE s≠0):(d.take p t s).cF s=0∧d.cF s=0∧(d.take p t s).tbl s=d.tbl s∧d.tbl s≠p∧d.tbl s≠s:=by
 obtain⟨hp,hs,Vu,hr,hf,e⟩:=nP he
 have b:=fO h1
 have PF:s≠p:=by rintro rfl;omega
 have s0:=ai hs
 obtain⟨a1,a2,a3⟩:=aP (h.tbl s (by omega))
 have n1:d.word s 0≠s:=by intro e1;rw [e1]at a2;omega
 have n2:d.word s 0≠p:=by intro e1;rw [e1]at a2;omega
 have t0:d.cF s=0:=by
  unfold cF
  rw [h.tbl s (by omega)]
  simp [b.1,b.2.1,b.2.2]
 have t1:(d.cl p t s).cF s=0:=by
  have o1:(d.cl p t s).of ((d.cl p t s).word s 0) 3 s=true:=by
   show(d.cl p t s).of (d.word s 0) 3 s=true
   refine fJ ⟨a1,?_⟩
   rw [dy hp hs (ai a1).1 PF,if_neg n1,if_neg n2];exact⟨a2,a3⟩
  unfold cF
  rw [o1,dy hp hs s0.1 PF,if_pos rfl]
  simp [show(d.cl p t s).has s=true from hs,b.2.1,b.2.2]
 have e1:d.tbl s=d.word s 0:=by unfold tbl;rw [if_pos t0]
 rw [e,e1]
 refine⟨t1,t0,?_,n2,n1⟩
 unfold tbl;rw [if_pos t1];rfl
theorem Good.Mv {d:DB}(h:d.Good)(hS:d.S≤64) {s p i:Int}(hi:0≤i)(he:d.cN s p i=0):d.bY p 4 s=0∧(d.take p 4 s).lJ s i p=0:=by
 unfold cN at he
 have h1:¬d.aE s≠0:=by grind
 have h2:¬d.bj p≠0:=by grind
 have h3:¬256≤i:=by grind
 have h4:¬d.bp p≠0:=by grind
 have h5:d.word (d.tbl s) i=0:=by grind
 have ht:=h.nM hS h1 h2 h4 (t:=4) (by omega)
 obtain⟨t1,_,t2,_,_⟩:=nO h ht h1
 obtain⟨hp,hs,Vu,hr,hf,e⟩:=nP ht
 have PF:s≠p:=by rintro rfl;omega
 refine⟨ht,?_⟩
 have o1:(d.take p 4 s).of p 4 s=true:=by
  rw [e]
  refine fJ ⟨hp,?_⟩
  rw [dy hp hs (ai hp).1 PF,if_neg (Ne.symm PF),if_pos rfl];exact⟨rfl,rfl⟩
 have hw:(d.take p 4 s).word ((d.take p 4 s).tbl s) i=0:=by
  rw [t2];unfold word;rw [aO];exact h5
 unfold lJ
 rw [t1,o1,hw]
 have hh:(d.take p 4 s).has p=true:=by rw [e];exact hp
 simp [hh];omega
theorem vK {d:DB} {s va:Int}(h:d.eD s va=0):d.bJ s va=0:=by
 unfold eD at h
 by_cases h1:d.bJ s va=0
 ·exact h1
 ·rw [if_neg h1]at h;split at h<;>omega
theorem jC {d:DB} {s va:Int}(h:d.bJ s va=0):d.cF s=0∧jf va=0∧d.iC s (d.word (d.tbl s) (vaI va))=true∧d.word (d.plP s va) (vaJ va)=0:=by
 unfold bJ at h
 have h1:d.eG s va=0:=by
  by_cases h1:d.eG s va=0
  ·exact h1
  ·rw [if_pos h1]at h;exact h
 rw [if_neg (by omega)]at h
 have h2:d.word (d.plP s va) (vaJ va)=0:=by
  by_cases h2:d.word (d.plP s va) (vaJ va)=0
  ·exact h2
  ·rw [if_pos h2]at h;omega
 unfold eG at h1
 have h3:d.cF s=0:=by
  by_cases h3:d.cF s=0
  ·exact h3
  ·rw [if_pos h3]at h1;exact h1
 rw [if_neg (by omega)]at h1
 have h4:jf va=0:=by
  by_cases h4:jf va=0
  ·exact h4
  ·rw [if_pos h4]at h1;omega
 rw [if_neg (by omega)]at h1
 have h5:d.iC s (d.word (d.tbl s) (vaI va))=true:=by
  by_cases h5:d.iC s (d.word (d.tbl s) (vaI va))=true
  ·exact h5
  ·rw [if_neg h5]at h1;omega
 exact⟨h3,h4,h5,h2⟩
theorem Iv {d:DB} {s va:Int}(h1:d.cF s=0)(h2:jf va=0)(h3:d.iC s (d.word (d.tbl s) (vaI va))=true)(h4:d.word (d.plP s va) (vaJ va)=0):d.bJ s va=0:=by
 have h5:d.eG s va=0:=by unfold eG;rw [if_neg (by omega),if_neg (by omega),if_pos h3]
 unfold bJ;rw [if_neg (by omega),if_neg (by omega)]
theorem Good.KH {d:DB}(h:d.Good)(hS:d.S≤64) {s p w n:Int}(hn:0≤n)(he:d.cH s p w n=0):lr w=0∧d.bY p 5 s=0∧d.mem.te true p false n=0∧((d.take p 5 s).ay (·.copy true p false n)).iE s (bI w) (Mp.mk true p (paW w) (paX w))=0:=by
 unfold cH at he
 have h1:¬d.aE s≠0:=by grind
 have h2:¬d.bj p≠0:=by grind
 have h3:fM w=0:=by grind
 have h4:¬d.eX n≠0:=by grind
 have h5:¬d.bp p≠0:=by grind
 have h6:d.eD s (bI w)=0:=by grind
 have hpa:lr w=0:=by
  unfold fM at h3
  by_cases h9:lr w=0
  ·exact h9
  ·rw [if_neg h9]at h3;omega
 have ht:=h.nM hS h1 h2 h5 (t:=5) (by omega)
 obtain⟨t1,_,t2,t3,t4⟩:=nO h ht h1
 obtain⟨hp,hs,Vu,hr,hf,e⟩:=nP ht
 have PF:s≠p:=by rintro rfl;omega
 obtain⟨s1,s2,s3,s4⟩:=jC (vK h6)
 have pf:kQ (d.word (d.tbl s) (vaI (bI w)))=0∧d.of (aW (d.word (d.tbl s) (vaI (bI w)))) 4 s=true:=by simpa [iC]using s3
 obtain⟨q1,q2,q3⟩:=aP pf.2
 have n1:aW (d.word (d.tbl s) (vaI (bI w)))≠p:=by intro e1;rw [e1]at q2;omega
 have n2:aW (d.word (d.tbl s) (vaI (bI w)))≠s:=by intro e1;rw [e1]at q2;omega
 refine⟨hpa,ht,by unfold Mem.te;rw [show d.mem.has true p=true from hp,Bf hn h4];rfl,?_⟩
 have ww:∀x y,x≠p→((d.take p 5 s).ay (·.copy true p false n)).word x y=d.word x y:=fun x y hx=>by
  show((d.take p 5 s).mem.copy true p false n).aY true x y=_
  rw [Mem.fz (Ne.symm hx),aO];rfl
 have hS2:((d.take p 5 s).mem.copy true p false n).S=(d.take p 5 s).mem.S:=Mem.iP ..
 have Ov:∀x t o,((d.take p 5 s).ay (·.copy true p false n)).of x t o=(d.take p 5 s).of x t o:=fun x t o=>by
  unfold of is has
  rw [show((d.take p 5 s).ay (·.copy true p false n)).S=(d.take p 5 s).S from hS2];rfl
 have hT:((d.take p 5 s).ay (·.copy true p false n)).cF s=0:=by
  have t1':=t1
  unfold cF at t1' ⊢
  rw [Ov,ww s 0 PF]
  unfold has at t1' ⊢
  rw [show((d.take p 5 s).ay (·.copy true p false n)).S=(d.take p 5 s).S from hS2]
  have e9:(d.take p 5 s).word s 0=d.word s 0:=by unfold word;rw [aO]
  rw [e9]at t1'
  exact t1'
 have hTb:((d.take p 5 s).ay (·.copy true p false n)).tbl s=d.tbl s:=by
  rw [← t2]
  unfold DB.tbl
  rw [if_pos hT,if_pos t1,ww s 0 PF]
  unfold word;rw [aO]
 have hwT:((d.take p 5 s).ay (·.copy true p false n)).word (((d.take p 5 s).ay (·.copy true p false n)).tbl s) (vaI (bI w))=d.word (d.tbl s) (vaI (bI w)):=by rw [hTb,ww _ _ t3]
 have Vx:((d.take p 5 s).ay (·.copy true p false n)).bJ s (bI w)=0:=by
  refine Iv hT s2 ?_ ?_
  ·rw [hwT]
   unfold iC
   rw [Ov,e,pf.1]
   have:(d.cl p 5 s).of (aW (d.word (d.tbl s) (vaI (bI w)))) 4 s=true:=by
    refine fJ ⟨q1,?_⟩
    rw [dy hp hs (ai q1).1 PF,if_neg n2,if_neg n1];exact⟨q2,q3⟩
   rw [this];rfl
  ·unfold plP
   rw [hwT]
   rw [ww _ _ n1];exact s4
 unfold iE
 rw [if_neg (by omega)]
 have p0:=ai hp
 unfold Mp.err
 rw [if_pos ⟨p0.1,by show p<64;omega⟩]
 simp
theorem Good.shares {d:DB}(hI:d.mem.I≤64) {s w n:Int}(hn:0≤n)(he:d.cY s w n=0):lr w=0∧paX w=false∧n<(d.mem.I:Int)∧d.iE s (bI w) (Mp.mk false n (paW w) false)=0:=by
 unfold cY at he
 have h3:fM w=0:=by grind
 have h2:paX w=false:=by grind
 have h4:¬d.eX n≠0:=by grind
 have h6:d.eD s (bI w)=0:=by grind
 have hpa:lr w=0:=by
  unfold fM at h3
  by_cases h9:lr w=0
  ·exact h9
  ·rw [if_neg h9]at h3;omega
 have hi:n<(d.mem.I:Int):=by
  unfold eX at h4
  split at h4
  ·assumption
  ·simp at h4
 refine⟨hpa,h2,hi,?_⟩
 unfold iE
 rw [if_neg (by have:=vK h6;omega)]
 unfold Mp.err
 rw [if_pos ⟨hn,by show n<64;omega⟩]
 rfl
def pre(d:DB)(o:LOp):DB:=if o.k=2 then(d.take o.b 2 o.a).ay (·.write true o.b 0 o.c)else if o.k=3 then(d.take o.b 4 o.a).add o.a o.c o.b else if o.k=4 then d.bz o.a o.b o.c o.d else d.put o.a (bI o.b) (Mp.mk false o.c (paW o.b) false)
def _root_.Go.Proofs.YtinhphjfnedhgaaGreatDoor.opK(o:LOp):Int:=if o.k=2 then 1 else if o.k=3 then 2 else 4
def _root_.Go.Proofs.YtinhphjfnedhgaaGreatDoor.opA(o:LOp):Int:=if o.k=2 then o.c else if o.k=3 then o.c else o.b
theorem G8 {kk:List Int} {d:DB} {o:LOp}(h1:¬o.k=1)(h4:¬o.k=4)(he:d.bh o=0):d.call kk o=(d.pre o).ay (fun m=>m.msd kk o.a (opK o) (opA o) []):=by
 unfold bh at he
 rw [if_neg h1]at he
 unfold call pre opK opA
 rw [if_neg h1]
 by_cases h2:o.k=2
 ·rw [if_pos h2]at he
  simp only [if_pos h2]
  unfold bC;rw [if_pos he];rfl
 ·rw [if_neg h2]at he
  simp only [if_neg h2]
  by_cases h3:o.k=3
  ·rw [if_pos h3]at he
   simp only [if_pos h3]
   unfold dt;rw [if_pos he]
  ·rw [if_neg h3,if_neg h4]at he
   simp only [if_neg h3,if_neg h4]
   unfold du;rw [if_pos he]
theorem vd {kk:List Int} {d:DB} {o:LOp}(h4:o.k=4)(ho:o.Ok)(he:d.bh o=0):d.call kk o=(d.pre o).ay (fun m=>m.msd kk o.a 3 o.c ((d.pre o).mem.words false o.d.toNat))∧(d.pre o).mem.has false o.d=true:=by
 unfold bh at he
 rw [if_neg (by omega),if_neg (by omega),if_neg (by omega),if_pos h4]at he
 have QO:=he
 unfold cH at QO
 have h1:¬d.aE o.a≠0:=by grind
 have h2:¬d.bj o.b≠0:=by grind
 have h3:¬d.bp o.b≠0:=by grind
 have h5:¬d.eX o.d≠0:=by grind
 have hw:=wG h1 h2 h3 (w:=o.c) ho.2.2.2.1 h5
 have e:d.pre o=d.bz o.a o.b o.c o.d:=by
  unfold pre;rw [if_neg (by omega),if_neg (by omega),if_pos h4]
 rw [e]
 refine⟨?_,?_⟩
 ·unfold call
  rw [if_neg (by omega),if_neg (by omega),if_neg (by omega),if_pos h4]
  unfold ez
  rw [if_pos he,hw]
  unfold ay;rfl
 ·show(d.bz o.a o.b o.c o.d).mem.has false o.d=true
  rw [yR];exact Bf ho.2.2.2.1 h5
theorem Gc {d:DB} {o:LOp}(G:d.Good)(h1:¬o.k=1)(he:d.bh o=0):Dg.aw ((d.pre o).mem.dgW o.a)=0:=by
 unfold bh at he
 rw [if_neg h1]at he
 have key:d.aE o.a=0∧(d.pre o).mem.dgW o.a=d.mem.dgW o.a:=by
  unfold pre
  by_cases h2:o.k=2
  ·rw [if_pos h2]at he ⊢
   unfold bM at he
   have a1:¬d.aE o.a≠0:=by grind
   exact⟨by omega,Bc a1 (by grind) (by grind)⟩
  ·rw [if_neg h2]at he ⊢
   by_cases h3:o.k=3
   ·rw [if_pos h3]at he ⊢
    unfold cN at he
    have a1:¬d.aE o.a≠0:=by grind
    exact⟨by omega,Ee a1 (by grind) (by grind)⟩
   ·rw [if_neg h3]at he ⊢
    by_cases h4:o.k=4
    ·rw [if_pos h4]at he ⊢
     unfold cH at he
     have a1:¬d.aE o.a≠0:=by grind
     exact⟨by omega,GJ a1 (by grind) (by grind)⟩
    ·rw [if_neg h4]at he ⊢
     unfold cY at he
     have a1:¬d.aE o.a≠0:=by grind
     exact⟨by omega,Ef a1⟩
 rw [key.2];exact G.inv _ key.1
theorem Dj {kk:List Int} {d:DB} {o:LOp}(h:d.bh o≠0):d.call kk o=d:=by
 unfold bh at h
 unfold call
 split
 ·rename_i h1;rw [if_pos h1]at h;unfold bx;exact if_neg h
 rename_i h1
 rw [if_neg h1]at h
 split
 ·rename_i h2;rw [if_pos h2]at h;unfold bC;exact if_neg h
 rename_i h2
 rw [if_neg h2]at h
 split
 ·rename_i h3;rw [if_pos h3]at h;unfold dt;exact if_neg h
 rename_i h3
 rw [if_neg h3]at h
 split
 ·rename_i h4;rw [if_pos h4]at h;unfold ez;exact if_neg h
 ·rename_i h4;rw [if_neg h4]at h;unfold du;exact if_neg h
end DB
end Go.Proofs.YtinhphjfnedhgaaGreatDoor
namespace Go.Proofs.YtinhphjfnedhgaaGreatDoor
open Go.Proofs.Tryz (prog)
open Go Go.RowKit V
open Go.IntKind (i64 u32 u64)
section
set_option maxRecDepth 100000
set_option maxHeartbeats 1000000
attribute [local irreducible] Vc2 VcD
def lU:Ctr Un:=⟨[.one (.obj 0 0),.one (.int .i64)],[],[.ob 1 [(1,1,0)],.ob 0 []],[],fun p r E rm m K=>E.n=m.S∧∀(x:W26),x=W26.mk (m.dgW p)→K ⟨(.agg ⟨W26.c x⟩),none,[],[],[]⟩⟩
def z7(p:Int)(r:Nat→Nat)(E:Pd)(rm:Nat→Nat)(m:Mem)(Q:Ou Un→Prop):Prop:=
 Pd.Ok E→
 Mem.Wf m→
 ∀(gv:Nat),
 ∀(s:List U32),s=(W26.n (W26.mk []))→
 ∀(Nc:Nat),
 ∀(s1:List U32),s1=(W26.n (W26.mk []))→
 ∀i:Int,i=0→
 ∃I:Nat→Int→List U32→Prop,(∃m1,I m1 i s1)∧∀(m1:Nat)(Oq:Nat→Value)(i1:Int)(s3:List U32),I m1 i1 s3→
 split (decide (i1<26)) (
  ((0≤i1∧i1<(s3.length:Int))∧i1<(26:Int))∧
  True∧
  ∀(s2:List U32),s2=(List.set s3 i1.toNat (U32.mk (m.aY true p (i64.wrap (11+i1)))))→
  ∀i2:Int,i2=(i64.wrap (i1+1))→
  ∃m2,m2<m1∧I m2 i2 s2) (
  (s3.length=26)∧
  (s.length=26)∧
  ∀(s2:List U32),s2=([U32.mk ((s3.getD 0 (U32.mk 0)).v),U32.mk ((s3.getD 1 (U32.mk 0)).v),U32.mk ((s3.getD 2 (U32.mk 0)).v),U32.mk ((s3.getD 3 (U32.mk 0)).v),U32.mk ((s3.getD 4 (U32.mk 0)).v),U32.mk ((s3.getD 5 (U32.mk 0)).v),U32.mk ((s3.getD 6 (U32.mk 0)).v),U32.mk ((s3.getD 7 (U32.mk 0)).v),U32.mk ((s3.getD 8 (U32.mk 0)).v),U32.mk ((s3.getD 9 (U32.mk 0)).v),U32.mk ((s3.getD 10 (U32.mk 0)).v),U32.mk ((s3.getD 11 (U32.mk 0)).v),U32.mk ((s3.getD 12 (U32.mk 0)).v),U32.mk ((s3.getD 13 (U32.mk 0)).v),U32.mk ((s3.getD 14 (U32.mk 0)).v),U32.mk ((s3.getD 15 (U32.mk 0)).v),U32.mk ((s3.getD 16 (U32.mk 0)).v),U32.mk ((s3.getD 17 (U32.mk 0)).v),U32.mk ((s3.getD 18 (U32.mk 0)).v),U32.mk ((s3.getD 19 (U32.mk 0)).v),U32.mk ((s3.getD 20 (U32.mk 0)).v),U32.mk ((s3.getD 21 (U32.mk 0)).v),U32.mk ((s3.getD 22 (U32.mk 0)).v),U32.mk ((s3.getD 23 (U32.mk 0)).v),U32.mk ((s3.getD 24 (U32.mk 0)).v),U32.mk ((s3.getD 25 (U32.mk 0)).v)]:List U32)→
  (s2.length=26)∧
  Q ⟨(.agg ⟨W26.c (W26.mk s2)⟩),none,[],[],[]⟩)
theorem z8:Vc2 Un prog (bw [(14,bf),(33,oV)]) [6] Tryz.f24 (.r' (.r' (.two (.r' (.two (.node [] (some ⟨[(6,(.one (.int .i64)))],[],upN 6 14,[(3,(.ob 7))]⟩) [] [] .leaf .leaf) .leaf)) .leaf))) [] lU=(∀p r (E:Pd) rm (m:Mem),∀Q,(lU.body p r E rm m Q)→z7 p r E rm m Q):=by kernel_rfl
theorem z6:LV Un prog 24 lU:=verify Tryz.func24 aa (tb:= [(14,bf),(33,oV)]) ⟨cO,Dz,trivial⟩ (by kernel_rfl) (z8.mpr fun p r E rm m Q h=>by
 obtain⟨Ni,h⟩:=h
 exact fun f1 f2 gv s Wz Nc s1 Qf=>allEq<| ⟨fun m1 i1 s3=>(m1=(26 - i1).toNat)∧(0≤i1∧i1≤26)∧(s3=(m.dgW p).take i1.toNat++List.replicate (26 - i1.toNat) (U32.mk 0)),⟨_,rfl,(by omega),(by subst_vars;rfl)⟩,fun m1 _ i1 s3 ⟨hm,h1,h3⟩=>aq (fun c1=>ao (by rw [h3];simp [Mem.dH];omega) fun s3=>ao trivial fun _ s2 Oj=>allEq<| ⟨_,(by rw [aA (by omega)];omega),rfl,(by rw [aA (by omega)];omega),(by rw [Oj];exact Mem.ta (by omega) h3)⟩) fun c1=>(by(have h4:s3=m.dgW p:=by rw [h3];exact Mem.wA (by omega));exact ao (by rw [h4];exact Mem.dH m p) fun s5=>ao (by subst_vars;rfl) fun s6 s2 Oj=>ao (by subst_vars;rfl) fun s7=>(h (W26.mk s2) (by rw [Oj,h4];exact congrArg W26.mk (W26.nn (Mem.dH m p)))))⟩)
def nu:Ctr Un:=⟨[.one (.obj 0 0),.enc 5],[],[.ob 1 [(1,1,0)],.ob 0 []],[1],fun o r E rm m K=>E.n=m.S∧¬o.k=4∧K ⟨(.agg #[(.int .i64 (opK o)),(.int .u32 (opA o)),(.slice none 0 0)]),none,[.ob 0 m],[],[]⟩⟩
def B0(o:LOp)(r:Nat→Nat)(E:Pd)(rm:Nat→Nat)(m:Mem)(Q:Ou Un→Prop):Prop:=
 Pd.Ok E→
 Mem.Wf m→
 ∀(gv:Nat),
 ∀(Nc:Nat),
 ∀x9:Bool,x9=((o.k:Int)==2)→
 split x9 (
  Q ⟨(.agg #[(.int .i64 1),(.int .u32 o.c),(.slice none 0 0)]),none,[.ob 0 m],[],[]⟩) (
  ∀Po:Bool,Po=((o.k:Int)==3)→
  split Po (
   Q ⟨(.agg #[(.int .i64 2),(.int .u32 o.c),(.slice none 0 0)]),none,[.ob 0 m],[],[]⟩) (
   ∀Om:Bool,Om=((o.k:Int)==4)→
   split Om (
    split (m.has false (i64.wrap o.d)) (
     ∀(A:Option Addr),
     ∀(m1:Mem),m1=m→
     Mem.Wf m1→
     ∀(l:List U32),l=(m.words false (i64.wrap o.d).toNat)→
     (some (.slice A l.length 1024):Option Value)=some (.slice A ((m.words false (i64.wrap o.d).toNat).length) 1024)∧
     Q ⟨(.agg #[(.int .i64 3),(.int .u32 o.c),(.slice A ((m.words false (i64.wrap o.d).toNat).length) 1024)]),(some (.ag [none,none,none])),[.ob 0 m1],[],[]⟩) (
     ∀(m1:Mem),m1=m→
     Mem.Wf m1→
     Q ⟨(.agg #[(.int .i64 3),(.int .u32 o.c),(.slice none 0 0)]),none,[.ob 0 m1],[],[]⟩)) (
    Q ⟨(.agg #[(.int .i64 4),(.int .u32 o.b),(.slice none 0 0)]),none,[.ob 0 m],[],[]⟩)))
theorem B3:Vc2 Un prog (bw [(14,bf),(69,kH)]) [9,14,19] Tryz.f22 (.r' (.two (.r' (.two (.r' (.r' (.r' (.r' (.r' (.two (.two (.node [] none [] [(3,[2])] .leaf .leaf) .leaf) .leaf)))))) .leaf)) .leaf)) [] nu=(∀(o:LOp) r (E:Pd) rm (m:Mem),∀Q,(nu.body o r E rm m Q)→B0 o r E rm m Q):=by kernel_rfl
section
attribute [local grind=] opK opA
theorem BZ:LV Un prog 22 nu:=verify Tryz.func22 aa (tb:= [(14,bf),(69,kH)]) ⟨cO,wX,trivial⟩ (by kernel_rfl) (B3.mpr fun o r E rm m Q h=>by
 obtain⟨Ni,NI,h⟩:=h
 exact fun f1 f2 gv Nc=>allEq<| aK (fun c1=>aB h (congrArg (fun l=>Value.agg (List.toArray l)) (ab (cG (by grind)) (ab (bt (by grind)) (ab rfl rfl)))) rfl rfl) fun c1=>allEq<| aK (fun c2=>aB h (congrArg (fun l=>Value.agg (List.toArray l)) (ab (cG (by grind)) (ab (bt (by grind)) (ab rfl rfl)))) rfl rfl) fun c2=>allEq<| aK (fun c3=>(by exfalso;grind)) fun c3=>aB h (congrArg (fun l=>Value.agg (List.toArray l)) (ab (cG (by grind)) (ab (bt (by grind)) (ab rfl rfl)))) rfl rfl)
end
def nw:Ctr Un:=⟨[.one (.obj 0 0),.enc 5],[],[.ob 1 [(1,1,0)],.ob 0 []],[1],fun o r E rm m K=>E.n=m.S∧o.k=4∧LOp.Ok o∧m.has false o.d=true∧∀(A:Option Addr),K ⟨(.agg #[(.int .i64 3),(.int .u32 o.c),(.slice A ((m.words false o.d.toNat).length) 1024)]),(some (.ag [none,none,(some (.sl 2 0))])),[.ob 0 m],[(.lst 1 true 29 A 1024 (m.words false o.d.toNat))],[]⟩⟩
def B5(o:LOp)(r:Nat→Nat)(E:Pd)(rm:Nat→Nat)(m:Mem)(Q:Ou Un→Prop):Prop:=
 Pd.Ok E→
 Mem.Wf m→
 ∀(gv:Nat),
 ∀(Nc:Nat),
 ∀x9:Bool,x9=((o.k:Int)==2)→
 split x9 (
  Q ⟨(.agg #[(.int .i64 1),(.int .u32 o.c),(.slice none 0 0)]),none,[.ob 0 m],[],[]⟩) (
  ∀Po:Bool,Po=((o.k:Int)==3)→
  split Po (
   Q ⟨(.agg #[(.int .i64 2),(.int .u32 o.c),(.slice none 0 0)]),none,[.ob 0 m],[],[]⟩) (
   ∀Om:Bool,Om=((o.k:Int)==4)→
   split Om (
    split (m.has false (i64.wrap o.d)) (
     ∀(A:Option Addr),
     ∀(m1:Mem),m1=m→
     Mem.Wf m1→
     ∀(l:List U32),l=(m.words false (i64.wrap o.d).toNat)→
     (some (.slice A l.length 1024):Option Value)=some (.slice A ((m.words false (i64.wrap o.d).toNat).length) 1024)∧
     Q ⟨(.agg #[(.int .i64 3),(.int .u32 o.c),(.slice A ((m.words false (i64.wrap o.d).toNat).length) 1024)]),(some (.ag [none,none,(some (.sl 2 0))])),[.ob 0 m1],[(.lst 1 true 29 A 1024 l)],[]⟩) (
     ∀(m1:Mem),m1=m→
     Mem.Wf m1→
     Q ⟨(.agg #[(.int .i64 3),(.int .u32 o.c),(.slice none 0 0)]),none,[.ob 0 m1],[],[]⟩)) (
    Q ⟨(.agg #[(.int .i64 4),(.int .u32 o.b),(.slice none 0 0)]),none,[.ob 0 m],[],[]⟩)))
theorem B6:Vc2 Un prog (bw [(14,bf),(69,kH)]) [9,14,19] Tryz.f22 (.r' (.two (.r' (.two (.r' (.r' (.r' (.r' (.r' (.two (.two (.node [] none [] [(3,[2])] .leaf .leaf) .leaf) .leaf)))))) .leaf)) .leaf)) [1000000,4] nw=(∀(o:LOp) r (E:Pd) rm (m:Mem),∀Q,(nw.body o r E rm m Q)→B5 o r E rm m Q):=by kernel_rfl
theorem B4:LV Un prog 22 nw:=verify Tryz.func22 aa (tb:= [(14,bf),(69,kH)]) ⟨cO,wX,trivial⟩ (by kernel_rfl) (B6.mpr fun o r E rm m Q h=>by
 obtain⟨Ni,NI,NZ,Wm,h⟩:=h
 exact fun f1 f2=>(by(have hwd:i64.wrap o.d=o.d:=aA (by have:=NZ.2.2.2;omega));rw [hwd];exact fun gv Nc=>allEq<| aK (fun c1=>(by exfalso;grind)) fun c1=>allEq<| aK (fun c2=>(by exfalso;grind)) fun c2=>allEq<| aK (fun c3=>ae (fun c4 A m1 NB f3 l Vb=>ao (by(subst_vars;rfl)) fun s4=>aB (h A) (congrArg (fun l=>Value.agg (List.toArray l)) (ab rfl (ab rfl (ab (by grind) rfl)))) (ab (uO0 (by grind)) rfl) (ab (congrArg (Res.lst (U:=Un) 1 true 29 _ _) (by grind)) rfl)) fun c4=>(by exfalso;grind)) fun c3=>(by exfalso;grind)))
def lT:Ctr Un:=⟨[.agg [.int .i64,.int .i64]],[],[],[],fun s i K=>split (okM s i) (∀(rP:Nat→Nat)(rN:Nat→Nat),K ⟨(.tuple #[(.pointer (some (Addr.mk (rP 0) 0 none))),(.bool true)]),(some (.t [(some (.obj 0 0 0)),none])),[],[(.ob 1 rP ((DB.new (Mem.fresh s.toNat i.toNat)).pd)),(.ob 0 rN ((Mem.fresh s.toNat i.toNat).dm s.toNat))],[(.l 0 1,.p (.obj 1 0 0))]⟩) (K ⟨(.tuple #[(.pointer none),(.bool true)]),(some (.t [none,none])),[],[],[]⟩)⟩
def z4(s:Int)(i:Int)(Q:Ou Un→Prop):Prop:=
 ∀(gv:Nat),
 split (okM s i) (
  ∀(rN:Nat→Nat),
  ∀(m:Mem),m=(Mem.fresh s.toNat i.toNat)→
  Mem.Wf m→
  ∃J:Bool→Prop,(
   split (decide (s≥1)) (
    split (decide (s≤64)) (
     split (decide (i≥1)) (
      ∀may:Bool,may=(decide ((i:Int)≤64))→
      J may) (
      ∀may:Bool,may=false→
      J may)) (
     ∀may:Bool,may=false→
     J may)) (
    ∀may:Bool,may=false→
    J may))∧∀(NR:Nat→Value)(may:Bool),J may→
  split (!may) (
   ∃J1:Option Addr→Bool→Prop,(
    J1 none false)∧∀(Oq:Nat→Value)(x2:Option Addr)(x3:Bool),J1 x2 x3→
   Q ⟨(.tuple #[(.pointer x2),(.bool x3)]),(some (.t [none,none])),[],[],[]⟩) (
   ∃J1:Bool→Prop,(
    J1 false)∧∀(Oq:Nat→Value)(Rm:Bool),J1 Rm→
   split Rm (
    Q ⟨(.tuple #[(.pointer none),(.bool false)]),(some (.t [none,none])),[],[],[]⟩) (
    1≤m.S∧
    ∀(Rs:Nat→Nat),
    ∀(m1:Mem),m1=(m.dm m.S)→
    Mem.Wf m1→
    ∀(E:Pd),E=(DB.new m).pd→
    Pd.Ok E→
    Q ⟨(.tuple #[(.pointer (some (Addr.mk (Rs 0) 0 none))),(.bool true)]),(some (.t [(some (.obj 0 0 0)),none])),[],[(.ob 1 Rs E),(.ob 0 rN m1)],[(.l 0 1,.p (.obj 1 0 0))]⟩))) (
  ∃J:Bool→Prop,(
   split (decide (s≥1)) (
    split (decide (s≤64)) (
     split (decide (i≥1)) (
      ∀may:Bool,may=(decide ((i:Int)≤64))→
      J may) (
      ∀may:Bool,may=false→
      J may)) (
     ∀may:Bool,may=false→
     J may)) (
    ∀may:Bool,may=false→
    J may))∧∀(NR:Nat→Value)(may:Bool),J may→
  split (!may) (
   ∃J1:Option Addr→Bool→Prop,(
    J1 none true)∧∀(Oq:Nat→Value)(x2:Option Addr)(x3:Bool),J1 x2 x3→
   Q ⟨(.tuple #[(.pointer x2),(.bool x3)]),(some (.t [none,none])),[],[],[]⟩) (
   ∃J1:Bool→Prop,(
    J1 true)∧∀(Oq:Nat→Value)(Rm:Bool),J1 Rm→
   split Rm (
    Q ⟨(.tuple #[(.pointer none),(.bool false)]),(some (.t [none,none])),[],[],[]⟩) (
    False)))
theorem z5:Vc2 Un prog (bw [(27,wZ),(29,tQ)]) [6] Tryz.f16 (.r' (.r' (.two (.node [] (some ⟨[(6,(.one .bool))],[],[6]++upN 16 18,[]⟩) [] [] .leaf .leaf) (.two (.r' (.two (.two (.node [] (some ⟨[(2,(.one .ptr)),(3,(.one .bool))],[],[2,3]++upN 36 6,[]⟩) [] [] .leaf .leaf) .leaf) .leaf)) (.two (.two (.node [] (some ⟨[(47,(.one .bool))],[],upN 42 6,[]⟩) [] [] .leaf .leaf) .leaf) .leaf))))) [1000000,2,1] lT=(∀s i,∀Q,(lT.body s i Q)→z4 s i Q):=by kernel_rfl
theorem z3:LV Un prog 16 lT:=verify Tryz.func16 aa (tb:= [(27,wZ),(29,tQ)]) ⟨JN,H9,trivial⟩ (by kernel_rfl) (z5.mpr fun s i Q h gv=>ae (fun c1=>(by have hm:=CR c1;exact fun rN m h_m f1=>gh ((decide ((s:Int)≥1)) && ((decide ((s:Int)≤64)) && ((decide ((i:Int)≥1)) && (decide ((i:Int)≤64))))) (ae (fun c2=>ae (fun c3=>ae (fun c4=>allEq<| (by grind)) fun c4=>allEq<| (by grind)) fun c3=>allEq<| (by grind)) fun c2=>allEq<| (by grind))<| dK (fun c5=>(by exfalso;simp at c5;omega)) fun c5=>gh false ((by grind))<| mi<| ao (by subst_vars;show 1≤s.toNat;omega) fun s2 Rs m1 NB f3 E h_E f4=>aB ((bU h ‹_›) Rs rN) rfl rfl (ab (rO1 (by subst_vars;rfl)) (ab (rO0 (by subst_vars;rfl)) rfl)))) fun c1=>(by have hm:=CT c1;exact gh ((decide ((s:Int)≥1)) && ((decide ((s:Int)≤64)) && ((decide ((i:Int)≥1)) && (decide ((i:Int)≤64))))) (ae (fun c6=>ae (fun c7=>ae (fun c8=>allEq<| (by grind)) fun c8=>allEq<| (by grind)) fun c7=>allEq<| (by grind)) fun c6=>allEq<| (by grind))<| dK (fun c9=>dup2<| aB (bV h ‹_›) (congrArg (fun l=>Value.tuple (List.toArray l)) (ab rfl (ab (eQb (by grind)) rfl))) rfl rfl) fun c9=>(by exfalso;simp at c9;omega)))
def nB:Ctr Un:=⟨[.agg [.int .i64,.int .i64]],[],[],[],fun s i K=>split (okM s i) (∀(r:Nat→Nat)(s1:Sv),s1.D=DB.new (Mem.fresh s.toNat i.toNat)→K ⟨(.tuple #[(.pointer (some (Addr.mk (Sv.pD s1) 0 none))),(.bool true)]),(some (.t [none,none])),[],[(.ob 9 r s1)],[]⟩) (K ⟨(.tuple #[(.pointer none),(.bool true)]),(some (.t [none,none])),[],[],[]⟩)⟩
theorem B9:LV Un prog 16 nB:=by
 show ∀(s:Int)(i:Int),∀Q:Ou Un→Prop,(split (okM s i) (∀(r:Nat→Nat)(s1:Sv),s1.D=DB.new (Mem.fresh s.toNat i.toNat)→Q ⟨(.tuple #[(.pointer (some (Addr.mk (Sv.pD s1) 0 none))),(.bool true)]),(some (.t [none,none])),[],[(.ob 9 r s1)],[]⟩) (Q ⟨(.tuple #[(.pointer none),(.bool true)]),(some (.t [none,none])),[],[],[]⟩))→∀(X:Nat→Nat→Prop)(w:World),Sat (U:=Un) [] X w→av (U:=Un) [] fr0 []→Calls prog 16 #[(.agg #[(.int .i64 s),(.int .i64 i)])] w (aS (U:=Un) [] [] X w Q)
 intro s i Q hQ X w hs hl
 refine(z3 s i (fun o=>(okM s i=true∧∃(rP rN:Nat→Nat),o=⟨(.tuple #[(.pointer (some (Addr.mk (rP 0) 0 none))),(.bool true)]),(some (.t [(some (.obj 0 0 0)),none])),[],[(.ob 1 rP ((DB.new (Mem.fresh s.toNat i.toNat)).pd)),(.ob 0 rN ((Mem.fresh s.toNat i.toNat).dm s.toNat))],[(.l 0 1,.p (.obj 1 0 0))]⟩)∨(okM s i=false∧o=⟨(.tuple #[(.pointer none),(.bool true)]),(some (.t [none,none])),[],[],[]⟩)) (ae (fun h rP rN=>.inl ⟨h,rP,rN,rfl⟩) (fun h=>.inr ⟨h,rfl⟩)) X w hs hl).mono ?_
 rintro e w' ⟨out,rs',X',rfl,⟨hm,rP,rN,rfl⟩ | ⟨hm,rfl⟩,NF,hp⟩
 ·obtain rfl: []=rs':=Option.some.inj NF
  have l1:rP 1=rN 0:=by
   obtain⟨t,r,s',h1,h2⟩:=hp.kc (.l 0 1) (.p (.obj 1 0 0)) (by simp) (by simp)
   have h1:some (Res.ob (U:=Un) 1 rP (DB.new (Mem.fresh s.toNat i.toNat)).pd)=some (.ob t r s'):=h1
   cases h1
   have h2:some (Value.pointer (some ⟨rN 0,0,none⟩))=some (.pointer (some ⟨rP 1,0,none⟩)):=h2
   simpa using h2.symm
  have hQ:=bU hQ hm (fun _=>0) ⟨DB.new (Mem.fresh s.toNat i.toNat),rP 0,rN 0⟩ rfl
  exact aS.sD (Z:=fun k=>X' 0 k∨X' 1 k) (kc:= []) hs (wC hp.ch) (show RS (U:=Un) (fun k=>X' 0 k∨X' 1 k) w' (.ob 9 (fun _=>0) (⟨DB.new (Mem.fresh s.toNat i.toNat),rP 0,rN 0⟩:Sv))from Cy (r:=fun _=>0) (hp.sat.res 0 _ rfl) (hp.sat.res 1 _ rfl) (hp.sat.dis 0 1 (show 0<2 by decide) (show 1<2 by decide) (by omega)) l1 rfl) (fun k hk=>hk.elim (hp.new 0 (by simp) (by simp) k) (hp.new 1 (by simp) (by simp) k)) hQ (KnO.tup _ (by simp)) (fun _ _ h=>by cases h)
 ·exact⟨_,_,_,rfl,bV hQ hm,NF,hp⟩
end
end Go.Proofs.YtinhphjfnedhgaaGreatDoor
namespace Go.Proofs.YtinhphjfnedhgaaGreatDoor
open Go.Proofs.Tryz (prog)
open Go Go.RowKit V
open Go.IntKind (i64 u32 u64)
theorem IG {w:Int}(hw:0≤w):0≤aW w∧aW w<64:=by
 unfold aW
 split
 ·rename_i h
  unfold xU at h
  simp only [decide_eq_true_eq]at h
  omega
 ·omega
theorem Eo {f:Int→Bool} {n:Int}(h:∀x,0≤x→x<n→f x=false):fN f n=0:=by
 unfold fN
 have:(List.range n.toNat).countP (fun(i:Nat)=>f (i:Int))=0:=by
  rw [List.countP_eq_zero]
  intro i hi
  have:=List.mem_range.1 hi
  rw [h _ (by omega) (by omega)];simp
 omega
theorem yN {f g:Int→Bool} {q:Int}:∀ {n:Nat},0≤q→f q=false→g q=true→(∀x,0≤x→x<(n:Int)→x≠q→g x=f x)→fN g n=fN f n+(if q<(n:Int)then 1 else 0)
 | 0,h0,_,_,_=>by rw [if_neg (by omega)];rfl
 | n+1,h0,hf,hg,h=>by
  have ih:=yN (n:=n) h0 hf hg fun x a b c=>h x a (by omega) c
  have e1:=jQ (f:=f) (n:=(n:Int)) (by omega)
  have e2:=jQ (f:=g) (n:=(n:Int)) (by omega)
  rw [show((n+1:Nat):Int)=(n:Int)+1 by omega,e1,e2,ih]
  by_cases hq:q=(n:Int)
  ·subst hq
   have a:¬(n:Int)<n:=by omega
   have b:(n:Int)<n+1:=by omega
   simp [hf,hg,b]
  ·rw [h _ (by omega) (by omega) (fun e=>hq e.symm)]
   by_cases h1:q<(n:Int)
   ·rw [if_pos h1,if_pos (show q<(n:Int)+1 by omega)];omega
   ·rw [if_neg h1,if_neg (show ¬q<(n:Int)+1 by omega)];omega
structure ze(D:DB)(p lo:Int)(n:Nat)(x:Int)(l:List U32):Prop where
 len:l.length=n
 val:∀i:Nat,(i:Int)<x→i<n→l[i]? =some ⟨D.word p (lo+(i:Int))⟩
theorem ze.next {D:DB} {p lo x:Int} {n:Nat} {l:List U32}(h:ze D p lo n x l)(h0:0≤x)(hx:x<(n:Int))(hl:0≤lo∧lo<1024∧n<1024):ze D p lo n (i64.wrap (x+1)) (l.set x.toNat ⟨D.word p (i64.wrap (lo+x))⟩):=by
 rw [aA (by omega),aA (by omega)]
 refine⟨by simp [h.len],fun i hi hn=>?_⟩
 rw [List.getElem?_set]
 by_cases Sf:x.toNat=i
 ·rw [if_pos Sf,if_pos (by rw [h.len];omega),show(i:Int)=x by omega]
 ·rw [if_neg Sf];exact h.val i (by omega) hn
theorem ze.done {D:DB} {p lo x:Int} {n:Nat} {l:List U32}(h:ze D p lo n x l)(hx:(n:Int)≤x):D.some_ p lo n=l:=by
 apply List.ext_getElem?
 intro i
 by_cases hi:i<n
 ·rw [h.val i (by omega) hi]
  simp [DB.some_,hi]
 ·rw [List.getElem?_eq_none (by simp [DB.some_];omega),List.getElem?_eq_none (by rw [h.len];omega)]
namespace DB
def pgs(D:DB)(t o:Int)(n:Nat):List I64:=((List.range n).filter fun(q:Nat)=>(D.at_ (q:Int)).typ==t && (D.at_ (q:Int)).owner==o).map fun(q:Nat)=>⟨(q:Int)⟩
theorem IF(D:DB)(t o:Int):((D.pgs t o D.S).length:Int)=fN (fun q=>D.of q t o) D.S:=by
 unfold pgs fN
 rw [List.length_map,← List.countP_eq_length_filter,Int.toNat_natCast]
 congr 1
 apply List.countP_congr
 intro q hq
 have:=List.mem_range.1 hq
 simp only [of,is,has]
 rw [show decide (0≤(q:Int)∧(q:Int)<(D.S:Int))=true by simp;omega,Bool.true_and]
structure Nms(D:DB)(p x count:Int)(l:List Bl):Prop where
 len:l.length=64
 ok:zb (D.sB p) 0 x=true
 once:∀q:Int,0≤q→q<64→D.named p x q≤1∧(l.getD q.toNat (Bl.mk false)).v=(D.named p x q==1)
 cnt:count=fN (fun q=>D.named p x q==1) D.S
theorem yg {D:DB} {p x q:Int}(hx:0≤x)(hw:D.word p x=0):D.named p (x+1) q=D.named p x q:=by
 rw [ko D p q hx,hw];simp
theorem Nms.skip {D:DB} {p x c:Int} {l:List Bl}(h:Nms D p x c l)(hx:0≤x)(hw:D.word p x=0):Nms D p (x+1) c l:=by
 refine⟨h.len,vk h.ok (by unfold sB;rw [hw];rfl) rfl,fun q h1 h2=>by rw [yg hx hw];exact h.once q h1 h2,?_⟩
 rw [h.cnt]
 exact Bn fun q _ _=>by rw [yg hx hw]
theorem Nms.put {D:DB} {p x c:Int} {l:List Bl}(h:Nms D p x c l)(hx:0≤x)(hw0:0≤D.word p x)(hw:¬D.word p x=0)(he:kQ (D.word p x)=0)(hl:(l.getD (aW (D.word p x)).toNat (Bl.mk false)).v=false)(ho:D.of (aW (D.word p x)) 4 (D.at_ p).owner=true):
 Nms D p (x+1) (c+1) (l.set (aW (D.word p x)).toNat (Bl.mk true)):=by
 have hp:=IG hw0
 have P9:0≤aW (D.word p x)∧aW (D.word p x)<(D.S:Int):=by
  unfold of is has at ho
  simp only [Bool.and_eq_true,decide_eq_true_eq]at ho
  exact ho.1.1
 have step:∀q,D.named p (x+1) q=D.named p x q+(if aW (D.word p x)=q then 1 else 0):=fun q=>by
  rw [ko D p q hx]
  by_cases hq:aW (D.word p x)=q<;>simp [hq,hw]
 have h1:=h.once _ hp.1 hp.2
 rw [hl]at h1
 have h0:D.named p x (aW (D.word p x))=0:=by
  have UZ:0≤D.named p x (aW (D.word p x)):=oE
  have h2:=h1.2
  have:¬D.named p x (aW (D.word p x))=1:=by simpa using h2.symm
  omega
 refine⟨by simp [h.len],vk h.ok (by unfold sB;rw [he,ho];simp) rfl,fun q a b=>?_,?_⟩
 ·rw [step,List.getD_eq_getElem?_getD,List.getElem?_set]
  by_cases hq:aW (D.word p x)=q
  ·subst hq
   rw [if_pos rfl,if_pos rfl,if_pos (by rw [h.len];omega),h0]
   exact⟨by omega,rfl⟩
  ·rw [if_neg hq,if_neg (by omega),← List.getD_eq_getElem?_getD,Int.add_zero]
   exact h.once q a b
 ·rw [yN (f:=fun q=>D.named p x q==1) (q:=aW (D.word p x)) P9.1 (by rw [h0];rfl) (by rw [step,h0,if_pos rfl];rfl) (fun y _ _ hy=>by rw [step,if_neg (fun e=>hy e.symm),Int.add_zero]),if_pos P9.2,← h.cnt]
theorem Nms.done {D:DB} {p c:Int} {l:List Bl}(hS:D.S≤64)(h:Nms D p 256 c l)(hz:D.zero p 256 1024=true):D.FL p=(c==((D.pgs 4 (D.at_ p).owner D.S).length:Int)):=by
 have Py:=oD (f:=fun q=>D.named p 256 q==1) (g:=fun q=>D.of q 4 (D.at_ p).owner) (n:=(D.S:Int)) (by omega) fun q h1 h2 hq=>by
  have hq:D.named p 256 q=1:=by simpa using hq
  have:∃i,0≤i∧i<256∧(D.word p i !=0 && aW (D.word p i)==q)=true:=by
   apply Classical.byContradiction
   intro hn
   have:=Eo (f:=fun i=>D.word p i !=0 && aW (D.word p i)==q) (n:=256) fun i a b=>by
    cases hc:(D.word p i !=0 && aW (D.word p i)==q)
    ·rfl
    ·exact absurd ⟨i,a,b,hc⟩ hn
   unfold named at hq
   omega
  obtain⟨i,a,b,hi⟩:=this
  have hk:=oM.1 h.ok i a b
  simp only [Bool.and_eq_true,bne_iff_ne,ne_eq,beq_iff_eq]at hi
  unfold sB at hk
  simp only [Bool.or_eq_true,beq_iff_eq,hi.1,false_or,Bool.and_eq_true]at hk
  rw [← hi.2];exact hk.2
 unfold FL
 rw [hz,h.ok,Bool.true_and,Bool.true_and,IF,h.cnt,Bool.eq_iff_iff,oM,beq_iff_eq]
 constructor
 ·intro hA
  refine Int.le_antisymm Py.1 ?_
  refine(oD (by omega) fun q a b hq=>?_).1
  have:=hA q a b
  simp only [hq,Bool.true_and,Bool.not_eq_true',Bool.or_eq_false_iff,decide_eq_false_iff_not,beq_eq_false_iff_ne]at this
  have UZ:0≤D.named p 256 q:=oE
  simp only [beq_iff_eq]
  omega
 ·intro he q a b
  have h1:=(h.once q a (by omega)).1
  cases ho:D.of q 4 (D.at_ p).owner
  ·simp;omega
  ·have:=Py.2 he q a b ho
   have:D.named p 256 q=1:=by simpa using this
   simp [this]
end DB
namespace DB
structure Tbl(d:DB):Prop where
 fst:∀x,d.is x 1=true→(d.at_ x).state≠3→d.of (d.word x 0) 3 x=true∧∀q,d.of q 3 x=true→q=d.word x 0
 nz:∀x p,d.is x 1=true→(d.at_ x).state≠3→d.of p 3 x=true→∀o,256≤o→d.word p o=0
 nms:∀x p,d.is x 1=true→(d.at_ x).state≠3→d.of p 3 x=true→∀i,0≤i→i<256→d.word p i=0∨(kQ (d.word p i)=0∧d.of (aW (d.word p i)) 4 x=true)
 all:∀x p q,d.is x 1=true→(d.at_ x).state≠3→d.of p 3 x=true→d.of q 4 x=true→∃i,(0≤i∧i<256)∧d.word p i≠0∧aW (d.word p i)=q
 once:∀x p i j,d.is x 1=true→(d.at_ x).state≠3→d.of p 3 x=true→(0≤i∧i<256)→(0≤j∧j<256)→d.word p i≠0→d.word p j≠0→aW (d.word p i)=aW (d.word p j)→i=j
 mps:∀x p,d.is x 1=true→(d.at_ x).state≠3→d.of p 4 x=true→∀j,0≤j→j<1024→d.CW p j=true
 hit:∀x p,d.is x 1=true→(d.at_ x).state≠3→d.of p 5 x=true→∃q j,(d.of q 4 x=true∧(0≤j∧j<1024)∧d.jM p q j=true)∧∀q' j',d.of q' 4 x=true→(0≤j'∧j'<1024)→d.jM p q' j'=true→q'=q∧j'=j
structure Ens(d:DB):Prop where
 typ:∀x,d.has x=true→(d.at_ x).typ≠6
 sp:∀x,d.has x=true→(d.at_ x).typ≠0→(d.at_ x).typ≠1→d.is (d.at_ x).owner 1=true
 refs:∀x,d.is x 1=true→(d.at_ x).refs=(d.cnt x:Int)
 free:∀x,d.is x 0=true→∀o,d.word x o=0
 thr:∀x,d.is x 2=true→(d.at_ x).bB=false∧∀o,1≤o→d.word x o=0
 th:∀x,d.is x 1=true→d.word x 1<d.ax∧d.word x 2=0
 GZ:∀x y,d.is x 1=true→d.is y 1=true→d.word x 1=d.word y 1→x=y
 high:∀x,d.is x 1=true→∀o,37≤o→d.word x o=0
 low:∀x,d.is x 1=true→∀o,3≤o→o<11→d.word x o=0
 st:∀x,d.is x 1=true→(d.at_ x).state=1∨(d.at_ x).state=2∨(d.at_ x).state=3
 fin:∀x,d.is x 1=true→(d.at_ x).state=2→∀o,11≤o→d.word x o=0
 stop:∀x,d.is x 1=true→(d.at_ x).state=3→Dg.aw (d.mem.dgW x)=0∨∀o,11≤o→d.word x o=0
structure Val(d:DB):Prop where
 ua:d.Good
 ens:d.Ens
 tab:d.Tbl
theorem aM {d:DB} {p t:Int}(h:d.is p t=true):d.has p=true∧(d.at_ p).typ=t:=by simpa [is]using h
theorem dZ {d:DB} {p t:Int}(h:d.has p=true∧(d.at_ p).typ=t):d.is p t=true:=by simpa [is]using h
theorem dx {d:DB} {m:Mem}(x o:Int):(d.aD m).word x o=m.aY true x o:=rfl
theorem g8 {d:DB} {m:Mem}(hS:m.S=d.mem.S)(x t:Int):(d.aD m).is x t=d.is x t:=by
 unfold is has;rw [show(d.aD m).S=d.S from hS];rfl
theorem dX {d:DB} {m:Mem}(hS:m.S=d.mem.S)(x t o:Int):(d.aD m).of x t o=d.of x t o:=by
 unfold of;rw [g8 hS];rfl
theorem Ens.ay {d:DB} {m:Mem}(N:d.Ens)(hS:m.S=d.mem.S)(h0:∀x o,d.is x 0=true→m.aY true x o=d.word x o)(h1:∀x o,d.is x 1=true→¬(d.aE x=0∧11≤o∧o<37)→m.aY true x o=d.word x o)(h2:∀x o,d.is x 2=true→1≤o→m.aY true x o=d.word x o):(d.aD m).Ens:=by
 have hh:∀x,(d.aD m).has x=d.has x:=fun x=>by unfold has;rw [show(d.aD m).S=d.S from hS]
 have hi:=fun x t=>g8 hS (d:=d) x t
 refine⟨fun x hx=>N.typ x (by rw [← hh];exact hx),fun x hx a b=>?_,fun x hx=>?_,fun x hx o=>?_,fun x hx=>?_,fun x hx=>?_,fun x y hx hy he=>?_,fun x hx o ho=>?_,fun x hx o ha hb=>?_,fun x hx=>?_,fun x hx s o ho=>?_,fun x hx s=>?_⟩
 ·rw [hi];exact N.sp x (by rw [← hh];exact hx) a b
 ·rw [hi]at hx
  have e:(d.aD m).cnt x=d.cnt x:=by unfold cnt;rw [show(d.aD m).S=d.S from hS];rfl
  rw [e];exact N.refs x hx
 ·rw [hi]at hx;rw [dx,h0 x o hx];exact N.free x hx o
 ·rw [hi]at hx;exact⟨(N.thr x hx).1,fun o ho=>by rw [dx,h2 x o hx ho];exact(N.thr x hx).2 o ho⟩
 ·rw [hi]at hx
  rw [dx,dx,h1 x 1 hx (by omega),h1 x 2 hx (by omega)];exact N.th x hx
 ·rw [hi]at hx hy
  rw [dx,dx,h1 x 1 hx (by omega),h1 y 1 hy (by omega)]at he
  exact N.GZ x y hx hy he
 ·rw [hi]at hx;rw [dx,h1 x o hx (by omega)];exact N.high x hx o ho
 ·rw [hi]at hx;rw [dx,h1 x o hx (by omega)];exact N.low x hx o ha hb
 ·rw [hi]at hx;exact N.st x hx
 ·rw [hi]at hx
  have hb:¬d.aE x=0:=by rw [bo];have:(d.at_ x).state=2:=s;omega
  rw [dx,h1 x o hx (fun h9=>hb h9.1)];exact N.fin x hx s o ho
 ·rw [hi]at hx
  have hb:¬d.aE x=0:=by rw [bo];have:(d.at_ x).state=3:=s;omega
  have hw:∀o,m.aY true x o=d.word x o:=fun o=>h1 x o hx (fun h9=>hb h9.1)
  have e:m.dgW x=d.mem.dgW x:=List.map_congr_left fun i _=>congrArg U32.mk (hw _)
  rcases N.stop x hx s with h | h
  ·left;show Dg.aw (m.dgW x)=0;rw [e];exact h
  ·right;intro o ho;rw [dx,hw];exact h o ho
theorem yE {d:DB} {p t s:Int}(hp:d.has p=true)(hs:d.has s=true)(PF:s≠p)(q:Nat):(d.cl p t s).ent q=if(q:Int)=s then {d.ent q with refs:=(d.ent q).refs+1}else if(q:Int)=p then⟨t,s,0,0,false⟩else d.ent q:=by
 have e1:=dy (t:=t) hp hs (q:=(q:Int)) (by omega) PF
 rw [cT,cT]at e1
 rw [e1]
 by_cases e3:(q:Int)=s
 ·rw [if_pos e3,if_pos e3,← e3,cT]
 ·rw [if_neg e3,if_neg e3]
structure kW(d:DB)(p t s:Int):Prop where
 hp:d.has p=true
 hs:d.has s=true
 ts:(d.at_ s).typ=1
 fp:(d.at_ p).typ=0
 ne:s≠p
 eq:d.take p t s=d.cl p t s
theorem qN {d:DB} {p t s:Int}(h:d.bY p t s=0):kW d p t s:=by
 obtain⟨hp,hs,Vu,hr,hf,e⟩:=nP h
 exact⟨hp,hs,Vu,hf,by rintro rfl;omega,e⟩
theorem kW.is {d:DB} {p t s:Int}(k:kW d p t s) {x u:Int}(hu:u≠0)(h:(d.take p t s).is x u=true):(x=p∧u=t)∨(x≠p∧d.is x u=true):=by
 rw [k.eq]at h
 obtain⟨a,b⟩:=aM h
 have a:d.has x=true:=a
 rw [dy k.hp k.hs (ai a).1 k.ne]at b
 by_cases e1:x=s
 ·subst e1;rw [if_pos rfl]at b;exact .inr ⟨k.ne,dZ ⟨a,b⟩⟩
 ·rw [if_neg e1]at b
  by_cases e2:x=p
  ·rw [if_pos e2]at b;exact .inl ⟨e2,b.symm⟩
  ·rw [if_neg e2]at b;exact .inr ⟨e2,dZ ⟨a,b⟩⟩
theorem kW.was {d:DB} {p t s:Int}(k:kW d p t s) {x u:Int}(hu:u≠0)(h:d.is x u=true):(d.take p t s).is x u=true∧x≠p:=by
 obtain⟨a,b⟩:=aM h
 have n:x≠p:=by rintro rfl;have:=k.fp;omega
 rw [k.eq]
 refine⟨dZ ⟨a,?_⟩,n⟩
 rw [dy k.hp k.hs (ai a).1 k.ne]
 by_cases e1:x=s
 ·subst e1;rw [if_pos rfl];exact b
 ·rw [if_neg e1,if_neg n];exact b
theorem kW.same {d:DB} {p t s:Int}(k:kW d p t s) {x:Int}(hx:d.has x=true)(n:x≠p):((d.take p t s).at_ x).typ=(d.at_ x).typ∧((d.take p t s).at_ x).owner=(d.at_ x).owner∧((d.take p t s).at_ x).state=(d.at_ x).state∧((d.take p t s).at_ x).bB=(d.at_ x).bB:=by
 rw [k.eq,dy k.hp k.hs (ai hx).1 k.ne]
 by_cases e1:x=s
 ·subst e1;rw [if_pos rfl];exact⟨rfl,rfl,rfl,rfl⟩
 ·rw [if_neg e1,if_neg n];exact⟨rfl,rfl,rfl,rfl⟩
theorem kW.self {d:DB} {p t s:Int}(k:kW d p t s):(d.take p t s).at_ p=⟨t,s,0,0,false⟩:=by
 rw [k.eq,dy k.hp k.hs (ai k.hp).1 k.ne,if_neg (Ne.symm k.ne),if_pos rfl]
theorem kW.of {d:DB} {p t s:Int}(k:kW d p t s) {x u o:Int}(hu:u≠0):(d.take p t s).of x u o=true↔(x=p∧u=t∧o=s)∨d.of x u o=true:=by
 constructor
 ·intro h
  obtain⟨a,b,c⟩:=aP h
  rcases k.is hu (dZ ⟨a,b⟩)with⟨e,e2⟩ | ⟨n,h2⟩
  ·subst e;rw [k.self]at c;exact .inl ⟨rfl,e2,c.symm⟩
  ·have h3:=aM h2
   have:=k.same h3.1 n
   exact .inr (fJ ⟨h3.1,h3.2,by rw [← this.2.1];exact c⟩)
 ·rintro(⟨rfl,rfl,rfl⟩ | h)
  ·refine fJ ⟨?_,?_⟩
   ·rw [k.eq];exact k.hp
   ·rw [k.self];exact⟨rfl,rfl⟩
  ·obtain⟨a,b,c⟩:=aP h
   have w:=k.was hu (dZ ⟨a,b⟩)
   have:=k.same a w.2
   exact fJ ⟨(aM w.1).1,(aM w.1).2,by rw [this.2.1];exact c⟩
theorem cJ(d:DB)(p t s x o:Int):(d.take p t s).word x o=d.word x o:=by unfold word;rw [aO]
theorem xH(d:DB)(p t s:Int):(d.take p t s).ax=d.ax:=by unfold DB.take;split<;>rfl
theorem Ens.take {d:DB} {p t s:Int}(N:d.Ens)(k:kW d p t s)(ht:t=2∨t=4∨t=5):(d.take p t s).Ens:=by
 have hh:∀x,(d.take p t s).has x=d.has x:=fun x=>by rw [k.eq];rfl
 have hS:(d.take p t s).S=d.S:=by rw [k.eq];rfl
 have one:∀x,(d.take p t s).is x 1=true→x≠p∧d.is x 1=true:=fun x hx=>by
  rcases k.is (by omega) hx with⟨_,e⟩ | h
  ·omega
  ·exact h
 refine⟨fun x hx=>?_,fun x hx a b=>?_,fun x hx=>?_,fun x hx o=>?_,fun x hx=>?_,fun x hx=>?_,fun x y hx hy he=>?_,fun x hx o ho=>?_,fun x hx o ha hb=>?_,fun x hx=>?_,fun x hx st o ho=>?_,fun x hx st=>?_⟩
 ·rw [hh]at hx
  by_cases e:x=p
  ·rw [e,k.self];show t≠6;omega
  ·rw [(k.same hx e).1];exact N.typ x hx
 ·rw [hh]at hx
  by_cases e:x=p
  ·rw [e,k.self];exact(k.was (by omega) (dZ ⟨k.hs,k.ts⟩)).1
  ·have w:=k.same hx e
   rw [w.1]at a b;rw [w.2.1]
   exact(k.was (by omega) (N.sp x hx a b)).1
 ·obtain⟨n,h1⟩:=one x hx
  have Q1:=(aM h1).1
  have own:∀q:Nat,(q:Int)≠p→((d.take p t s).bm x q=true↔d.bm x q=true):=fun q hq=>by
   have e:=yE (t:=t) k.hp k.hs k.ne q
   unfold bm
   rw [k.eq,e]
   by_cases e1:(q:Int)=s
   ·rw [if_pos e1]
   ·rw [if_neg e1,if_neg hq]
  have VB:((p.toNat:Nat):Int)=p:=Int.toNat_of_nonneg (ai k.hp).1
  have hpS:p.toNat<d.S:=by have:=ai k.hp;omega
  have fpn:d.bm x p.toNat=false:=by
   rw [← Bool.not_eq_true];intro hq
   exact(bQ hq).2.1 k.fp
  have ep:=yE (t:=t) k.hp k.hs k.ne p.toNat
  rw [VB,if_neg (Ne.symm k.ne),if_pos rfl]at ep
  have hr:=N.refs x h1
  by_cases e1:x=s
  ·subst e1
   have hc:(d.take p t x).cnt x=d.cnt x+1:=by
    unfold cnt
    rw [hS]
    have u1:=g9 (f:=d.bm x) (g:=(d.take p t x).bm x) (p:=p.toNat) (cK (by rw [VB,k.eq,ep];exact⟨n.symm,by show t≠0;omega,rfl⟩)) fpn hpS (fun q _ hq=>by
     by_cases e:(q:Int)=p
     ·rw [show q=p.toNat by omega,fpn]at hq;cases hq
     ·exact(own q e).2 hq)
    have u2:=jR (f:=(d.take p t x).bm x) (g:=d.bm x) (p:=p.toNat) (n:=d.S) (fun q _ hq h=>(own q (by omega)).1 h)
    omega
   have ha:(d.take p t x).at_ x= {d.at_ x with refs:=(d.at_ x).refs+1}:=by rw [k.eq,dy k.hp k.hs (ai Q1).1 k.ne,if_pos rfl]
   rw [ha,hc]
   show(d.at_ x).refs+1=_
   omega
  ·have hc:(d.take p t s).cnt x=d.cnt x:=by
    unfold cnt
    rw [hS]
    have fp':(d.take p t s).bm x p.toNat=false:=by
     rw [← Bool.not_eq_true];intro hq
     have:=(bQ hq).2.2
     rw [k.eq,ep]at this
     exact e1 this.symm
    have u1:=er (f:=d.bm x) (g:=(d.take p t s).bm x) (n:=d.S) fun q _ hq=>by
     by_cases e:(q:Int)=p
     ·rw [show q=p.toNat by omega,fpn]at hq;cases hq
     ·exact(own q e).2 hq
    have u2:=er (f:=(d.take p t s).bm x) (g:=d.bm x) (n:=d.S) fun q _ hq=>by
     by_cases e:(q:Int)=p
     ·rw [show q=p.toNat by omega,fp']at hq;cases hq
     ·exact(own q e).1 hq
    omega
   have ha:(d.take p t s).at_ x=d.at_ x:=by rw [k.eq,dy k.hp k.hs (ai Q1).1 k.ne,if_neg e1,if_neg n]
   rw [ha,hc];exact hr
 ·obtain⟨a,b⟩:=aM hx
  rw [hh]at a
  by_cases e:x=p
  ·rw [e,k.self]at b;have:t=0:=b;omega
  ·rw [(k.same a e).1]at b
   rw [cJ];exact N.free x (dZ ⟨a,b⟩) o
 ·rcases k.is (by omega) hx with⟨e,e2⟩ | ⟨n,h⟩
  ·subst e
   refine⟨by rw [k.self],fun o _=>?_⟩
   rw [cJ];exact N.free x (dZ ⟨k.hp,k.fp⟩) o
  ·have w:=k.same (aM h).1 n
   exact⟨by rw [w.2.2.2];exact(N.thr x h).1,fun o ho=>by rw [cJ];exact(N.thr x h).2 o ho⟩
 ·rw [cJ,cJ,xH];exact N.th x (one x hx).2
 ·rw [cJ,cJ]at he;exact N.GZ x y (one x hx).2 (one y hy).2 he
 ·rw [cJ];exact N.high x (one x hx).2 o ho
 ·rw [cJ];exact N.low x (one x hx).2 o ha hb
 ·obtain⟨n,h⟩:=one x hx
  rw [(k.same (aM h).1 n).2.2.1];exact N.st x h
 ·obtain⟨n,h⟩:=one x hx
  rw [(k.same (aM h).1 n).2.2.1]at st
  rw [cJ];exact N.fin x h st o ho
 ·obtain⟨n,h⟩:=one x hx
  rw [(k.same (aM h).1 n).2.2.1]at st
  rw [aO]
  rcases N.stop x h st with h9 | h9
  ·exact .inl h9
  ·exact .inr fun o ho=>by rw [cJ];exact h9 o ho
theorem gw {d:DB} {p s:Int}(x t:Int):(d.setState p s).is x t=d.is x t:=by
 by_cases he:d.aT p s=0
 ·have e:d.setState p s=d.set p {d.at_ p with state:=s}:=by unfold DB.setState;rw [if_pos he]
  have hp:d.has p=true:=by
   cases hp:d.has p
   ·unfold aT at he;simp [hp]at he
   ·rfl
  rw [e]
  unfold is
  rw [dA]
  cases hx:d.has x
  ·rfl
  ·rw [bE (ai hp).1 (ai hx).1]
   by_cases e1:x=p
   ·subst e1;rw [if_pos rfl]
   ·rw [if_neg e1]
 ·have e:d.setState p s=d:=by unfold DB.setState;rw [if_neg he]
  rw [e]
theorem bK {d:DB} {p s x:Int}(hx:d.has x=true):((d.setState p s).at_ x).typ=(d.at_ x).typ∧((d.setState p s).at_ x).owner=(d.at_ x).owner∧((d.setState p s).at_ x).refs=(d.at_ x).refs∧((d.setState p s).at_ x).bB=(d.at_ x).bB∧(((d.setState p s).at_ x).state=(d.at_ x).state∨x=p∧((d.setState p s).at_ x).state=s):=by
 by_cases he:d.aT p s=0
 ·have e:d.setState p s=d.set p {d.at_ p with state:=s}:=by unfold DB.setState;rw [if_pos he]
  have hp:d.has p=true:=by
   cases hp:d.has p
   ·unfold aT at he;simp [hp]at he
   ·rfl
  rw [e,bE (ai hp).1 (ai hx).1]
  by_cases e1:x=p
  ·subst e1;rw [if_pos rfl];exact⟨rfl,rfl,rfl,rfl,.inr ⟨rfl,rfl⟩⟩
  ·rw [if_neg e1];exact⟨rfl,rfl,rfl,rfl,.inl rfl⟩
 ·have e:d.setState p s=d:=by unfold DB.setState;rw [if_neg he]
  rw [e];exact⟨rfl,rfl,rfl,rfl,.inl rfl⟩
theorem gW {d:DB} {p s:Int}(x:Int):(d.setState p s).has x=d.has x:=by unfold DB.setState;split<;>rfl
theorem bq {d:DB} {p s:Int}(x o:Int):(d.setState p s).word x o=d.word x o:=by unfold word;rw [bS]
theorem qO(d:DB)(p s:Int):(d.setState p s).ax=d.ax:=by unfold DB.setState;split<;>rfl
theorem Ens.setState {d:DB} {p s:Int}(N:d.Ens)(hs:s=2∨s=3)(h2:s=2→∀o,11≤o→d.word p o=0)(h3:s=3→d.is p 1=true→Dg.aw (d.mem.dgW p)=0∨∀o,11≤o→d.word p o=0):(d.setState p s).Ens:=by
 have hi:=fun x t=>gw (d:=d) (p:=p) (s:=s) x t
 have hS:(d.setState p s).S=d.S:=by show(d.setState p s).mem.S=_;rw [bS];rfl
 refine⟨fun x hx=>?_,fun x hx a b=>?_,fun x hx=>?_,fun x hx o=>?_,fun x hx=>?_,fun x hx=>?_,fun x y hx hy he=>?_,fun x hx o ho=>?_,fun x hx o ha hb=>?_,fun x hx=>?_,fun x hx st o ho=>?_,fun x hx st=>?_⟩
 ·rw [gW]at hx;rw [(bK hx).1];exact N.typ x hx
 ·rw [gW]at hx
  have w:=bK (p:=p) (s:=s) hx
  rw [w.1]at a b;rw [hi,w.2.1];exact N.sp x hx a b
 ·rw [hi]at hx
  have Q1:=(aM hx).1
  have hc:(d.setState p s).cnt x=d.cnt x:=by
   unfold cnt
   rw [hS]
   refine Nat.le_antisymm (er fun q hq h=>?_) (er fun q hq h=>?_)
   ·have w:=bK (d:=d) (p:=p) (s:=s) (x:=(q:Int)) (by unfold has;simp;exact hq)
    obtain⟨a,b,c⟩:=bQ h
    rw [← cT]at b c
    exact cK ⟨a,by rw [← cT,← w.1];exact b,by rw [← cT,← w.2.1];exact c⟩
   ·have w:=bK (d:=d) (p:=p) (s:=s) (x:=(q:Int)) (by unfold has;simp;exact hq)
    obtain⟨a,b,c⟩:=bQ h
    rw [← cT]at b c
    exact cK ⟨a,by rw [← cT,w.1];exact b,by rw [← cT,w.2.1];exact c⟩
  rw [(bK Q1).2.2.1,hc];exact N.refs x hx
 ·rw [hi]at hx;rw [bq];exact N.free x hx o
 ·rw [hi]at hx
  exact⟨by rw [(bK (aM hx).1).2.2.2.1];exact(N.thr x hx).1,fun o ho=>by rw [bq];exact(N.thr x hx).2 o ho⟩
 ·rw [hi]at hx;rw [bq,bq,qO];exact N.th x hx
 ·rw [hi]at hx hy;rw [bq,bq]at he;exact N.GZ x y hx hy he
 ·rw [hi]at hx;rw [bq];exact N.high x hx o ho
 ·rw [hi]at hx;rw [bq];exact N.low x hx o ha hb
 ·rw [hi]at hx
  rcases(bK (p:=p) (s:=s) (aM hx).1).2.2.2.2 with h | ⟨_,h⟩
  ·rw [h];exact N.st x hx
  ·rw [h];omega
 ·rw [hi]at hx;rw [bq]
  rcases(bK (p:=p) (s:=s) (aM hx).1).2.2.2.2 with h | ⟨e,h⟩
  ·exact N.fin x hx (h▸st) o ho
  ·subst e;exact h2 (h▸st) o ho
 ·rw [hi]at hx;rw [bS]
  have key:Dg.aw (d.mem.dgW x)=0∨∀o,11≤o→d.word x o=0:=by
   rcases(bK (p:=p) (s:=s) (aM hx).1).2.2.2.2 with h | ⟨e,h⟩
   ·exact N.stop x hx (h▸st)
   ·subst e;exact h3 (h▸st) hx
  rcases key with h9 | h9
  ·exact .inl h9
  ·exact .inr fun o ho=>by rw [bq];exact h9 o ho
theorem jm {d:DB} {p x:Int}(hp:d.has p=true)(ho:d.has (d.at_ p).owner=true)(hx:0≤x):(d.aX p).at_ x=if x=p then Ent.free else if x=(d.at_ p).owner∧(d.at_ p).typ≠1∧(d.at_ x).typ=1∧(d.at_ x).refs>0 then {d.at_ x with refs:=(d.at_ x).refs+ -1}else d.at_ x:=by
 have p0:=ai hp
 have o0:=ai ho
 have g:(d.aX p).at_ x=(if(d.at_ p).typ !=1 && ((d.set p .free).cp (d.at_ p).owner && decide (((d.set p .free).at_ (d.at_ p).owner).refs>0))then(d.set p .free).more (d.at_ p).owner (-1)else d.set p .free).at_ x:=rfl
 rw [g]
 by_cases Ra:((d.at_ p).typ !=1 && ((d.set p .free).cp (d.at_ p).owner && decide (((d.set p .free).at_ (d.at_ p).owner).refs>0)))=true
 ·rw [if_pos Ra]
  simp only [Bool.and_eq_true,cp,dA,bne_iff_ne,ne_eq,decide_eq_true_eq,beq_iff_eq]at Ra
  have NN:(d.at_ p).owner≠p:=by
   intro e1
   have h9:=Ra.2.2
   rw [e1,bE p0.1 p0.1,if_pos rfl]at h9;exact absurd h9 (by decide)
  have e1:(d.set p .free).at_ (d.at_ p).owner=d.at_ (d.at_ p).owner:=by rw [bE p0.1 o0.1,if_neg NN]
  rw [e1]at Ra
  unfold more
  rw [bE o0.1 hx,e1]
  by_cases e2:x=(d.at_ p).owner
  ·rw [if_pos e2,if_neg (by rw [e2];exact NN),if_pos ⟨e2,Ra.1,by rw [e2];exact Ra.2.1.2,by rw [e2];exact Ra.2.2⟩,e2]
  ·rw [if_neg e2,bE p0.1 hx]
   by_cases e3:x=p
   ·rw [if_pos e3,if_pos e3]
   ·rw [if_neg e3,if_neg e3,if_neg (fun h9=>e2 h9.1)]
 ·rw [if_neg Ra,bE p0.1 hx]
  by_cases e1:x=p
  ·rw [if_pos e1,if_pos e1]
  ·rw [if_neg e1,if_neg e1,if_neg]
   rintro⟨rfl,a,b,c⟩
   apply Ra
   simp only [Bool.and_eq_true,cp,dA,bne_iff_ne,ne_eq,decide_eq_true_eq,beq_iff_eq]
   rw [bE p0.1 o0.1,if_neg e1]
   exact⟨a,⟨ho,b⟩,c⟩
theorem iJ {d:DB} {p:Int}(x:Int):(d.aX p).has x=d.has x:=by
 unfold aX
 show(Mem.zero _ true p).has true x=_
 rw [ov];split<;>rfl
theorem sP {d:DB} {p:Int}:(d.aX p).S=d.S:=by
 unfold aX
 show(Mem.zero _ true p).S=_
 rw [Mem.qb];split<;>rfl
theorem lE {d:DB} {p:Int}:(d.aX p).mem=d.mem.zero true p:=by
 unfold aX
 have hm:∀c:Bool,(DB.ay (if c then(d.set p .free).more (d.at_ p).owner (-1)else d.set p .free) (·.zero true p)).mem=d.mem.zero true p:=by intro c;cases c<;>rfl
 exact hm _
theorem yu {d:DB} {p:Int}:(d.aX p).ax=d.ax:=by
 unfold aX
 have hm:∀c:Bool,(DB.ay (if c then(d.set p .free).more (d.at_ p).owner (-1)else d.set p .free) (·.zero true p)).ax=d.ax:=by intro c;cases c<;>rfl
 exact hm _
theorem xV {m:Mem} {p o:Int}:(m.zero true p).aY true p o=0:=by
 unfold Mem.aY
 rw [DB.ov]
 split
 ·rename_i h
  have h1:m.has true p=true:=by simp at h;exact h.1
  unfold Mem.zero
  rw [if_pos h1]
  show(if true=true∧p.toNat=p.toNat then(0:Int)else _)=0
  rw [if_pos ⟨rfl,rfl⟩]
 ·rfl
structure Fa(d:DB)(p:Int):Prop where
 hp:d.has p=true
 ho:d.has (d.at_ p).owner=true
 nt:(d.at_ p).typ≠0
 st:(d.at_ (d.at_ p).owner).state=3
 rf:(d.at_ p).typ=1→(d.at_ p).refs=0
theorem gone {d:DB} {p:Int}(hg:d.mG p=true):Fa d p:=by
 unfold mG at hg
 simp only [Bool.and_eq_true,bne_iff_ne,ne_eq,beq_iff_eq,Bool.or_eq_true]at hg
 obtain⟨hp,ho,ht,OT,hr⟩:=hg
 exact⟨hp,ho,ht,OT,fun h=>hr.resolve_left (fun h9=>h9 h)⟩
theorem Fa.same {d:DB} {p:Int}(k:Fa d p) {x:Int}(hx:d.has x=true)(n:x≠p):((d.aX p).at_ x).typ=(d.at_ x).typ∧((d.aX p).at_ x).owner=(d.at_ x).owner∧((d.aX p).at_ x).state=(d.at_ x).state∧((d.aX p).at_ x).bB=(d.at_ x).bB:=by
 rw [jm k.hp k.ho (ai hx).1,if_neg n]
 split<;>exact⟨rfl,rfl,rfl,rfl⟩
theorem Fa.is {d:DB} {p:Int}(k:Fa d p) {x u:Int}(hu:u≠0):(d.aX p).is x u=true↔x≠p∧d.is x u=true:=by
 constructor
 ·intro h
  obtain⟨a,b⟩:=aM h
  rw [iJ]at a
  by_cases n:x=p
  ·rw [jm k.hp k.ho (ai a).1,if_pos n]at b
   have:(0:Int)=u:=b
   omega
  ·rw [(k.same a n).1]at b;exact⟨n,dZ ⟨a,b⟩⟩
 ·rintro⟨n,h⟩
  obtain⟨a,b⟩:=aM h
  exact dZ ⟨by rw [iJ];exact a,by rw [(k.same a n).1];exact b⟩
theorem cW {d:DB} {p x o:Int}(n:x≠p):(d.aX p).word x o=d.word x o:=by
 unfold word;rw [lE,Mem.uN (Ne.symm n)]
theorem Ens.dB {d:DB} {p:Int}(N:d.Ens)(G:d.Good)(k:Fa d p):(d.aX p).Ens:=by
 have lone:∀x,d.has x=true→x≠p→(d.at_ x).typ≠0→(d.at_ x).typ≠1→(d.at_ x).owner≠p:=fun x hx n a b e=>by
  have h1:=N.sp x hx a b
  rw [e]at h1
  have h2:=N.refs p h1
  rw [k.rf (aM h1).2]at h2
  have x0:=ai hx
  have:=g9 (f:=fun _=>false) (g:=d.bm p) (p:=x.toNat) (n:=d.S) (cK (by
   have hxn:((x.toNat:Nat):Int)=x:=Int.toNat_of_nonneg x0.1
   rw [hxn];exact⟨n,a,e⟩)) rfl (by omega) (fun q _ h9=>by cases h9)
  unfold cnt at h2
  omega
 refine⟨fun x hx=>?_,fun x hx a b=>?_,fun x hx=>?_,fun x hx o=>?_,fun x hx=>?_,fun x hx=>?_,fun x y hx hy he=>?_,fun x hx o ho=>?_,fun x hx o ha hb=>?_,fun x hx=>?_,fun x hx st o ho=>?_,fun x hx st=>?_⟩
 ·rw [iJ]at hx
  by_cases n:x=p
  ·rw [jm k.hp k.ho (ai hx).1,if_pos n];show(0:Int)≠6;decide
  ·rw [(k.same hx n).1];exact N.typ x hx
 ·rw [iJ]at hx
  by_cases n:x=p
  ·rw [jm k.hp k.ho (ai hx).1,if_pos n]at a;exact absurd rfl a
  ·have w:=k.same hx n
   rw [w.1]at a b;rw [w.2.1]
   exact(k.is (by omega)).2 ⟨lone x hx n a b,N.sp x hx a b⟩
 ·obtain⟨n,h1⟩:=(k.is (by omega)).1 hx
  have Q1:=(aM h1).1
  have hr:=N.refs x h1
  have pn:((p.toNat:Nat):Int)=p:=Int.toNat_of_nonneg (ai k.hp).1
  have pS:p.toNat<d.S:=by have:=ai k.hp;omega
  have own:∀q:Nat,q<d.S→(q:Int)≠p→((d.aX p).bm x q=true↔d.bm x q=true):=fun q hq NN=>by
   have w:=k.same (x:=(q:Int)) (by unfold has;simp;exact hq) NN
   rw [cT,cT]at w
   unfold bm;rw [w.1,w.2.1]
  have pf:(d.aX p).bm x p.toNat=false:=by
   rw [← Bool.not_eq_true];intro hq
   have:=(bQ hq).2.1
   rw [show(d.aX p).ent p.toNat=(d.aX p).at_ p from rfl,jm k.hp k.ho (ai k.hp).1,if_pos rfl]at this
   exact this rfl
  have le:(d.aX p).cnt x≤d.cnt x:=by
   unfold cnt;rw [sP]
   exact er fun q hq h=>by
    by_cases e:(q:Int)=p
    ·rw [show q=p.toNat by omega,pf]at h;cases h
    ·exact(own q hq e).1 h
  have ge:d.cnt x≤(d.aX p).cnt x+1:=by
   unfold cnt;rw [sP]
   exact jR (p:=p.toNat) fun q hq NN h=>(own q hq (by omega)).2 h
  by_cases e1:x=(d.at_ p).owner
  ·have pt:(d.at_ p).typ≠1:=fun h=>n (e1.trans (G.own p k.hp h))
   have po:d.bm x p.toNat=true:=cK (by rw [pn];exact⟨Ne.symm n,k.nt,e1.symm⟩)
   have lt:(d.aX p).cnt x+1≤d.cnt x:=by
    unfold cnt;rw [sP]
    exact g9 po pf pS fun q hq h=>by
     by_cases e:(q:Int)=p
     ·rw [show q=p.toNat by omega];exact po
     ·exact(own q hq e).1 h
   rw [jm k.hp k.ho (ai Q1).1,if_neg n,if_pos ⟨e1,pt,(aM h1).2,by omega⟩]
   show(d.at_ x).refs+ -1=_
   omega
  ·have eq:d.cnt x≤(d.aX p).cnt x:=by
    unfold cnt;rw [sP]
    exact er fun q hq h=>by
     by_cases e:(q:Int)=p
     ·have:=(bQ h).2.2
      rw [show q=p.toNat by omega]at this
      exact absurd this.symm e1
     ·exact(own q hq e).2 h
   rw [jm k.hp k.ho (ai Q1).1,if_neg n,if_neg (fun h9=>e1 h9.1)]
   omega
 ·obtain⟨a,b⟩:=aM hx
  rw [iJ]at a
  by_cases n:x=p
  ·subst n;unfold word;rw [lE,xV]
  ·rw [(k.same a n).1]at b;rw [cW n];exact N.free x (dZ ⟨a,b⟩) o
 ·obtain⟨n,h⟩:=(k.is (by omega)).1 hx
  exact⟨by rw [(k.same (aM h).1 n).2.2.2];exact(N.thr x h).1,fun o ho=>by rw [cW n];exact(N.thr x h).2 o ho⟩
 ·obtain⟨n,h⟩:=(k.is (by omega)).1 hx
  rw [cW n,cW n,yu];exact N.th x h
 ·obtain⟨n,h⟩:=(k.is (by omega)).1 hx
  obtain⟨n2,h2⟩:=(k.is (by omega)).1 hy
  rw [cW n,cW n2]at he;exact N.GZ x y h h2 he
 ·obtain⟨n,h⟩:=(k.is (by omega)).1 hx
  rw [cW n];exact N.high x h o ho
 ·obtain⟨n,h⟩:=(k.is (by omega)).1 hx
  rw [cW n];exact N.low x h o ha hb
 ·obtain⟨n,h⟩:=(k.is (by omega)).1 hx
  rw [(k.same (aM h).1 n).2.2.1];exact N.st x h
 ·obtain⟨n,h⟩:=(k.is (by omega)).1 hx
  rw [(k.same (aM h).1 n).2.2.1]at st
  rw [cW n];exact N.fin x h st o ho
 ·obtain⟨n,h⟩:=(k.is (by omega)).1 hx
  rw [(k.same (aM h).1 n).2.2.1]at st
  rw [lE,Mem.sY (Ne.symm n)]
  rcases N.stop x h st with h9 | h9
  ·exact .inl h9
  ·exact .inr fun o ho=>by rw [cW n];exact h9 o ho
theorem mapOk_eq {d:DB} {p x j:Int}(h:d.of p 4 x=true):d.CW p j=(d.word p j==0 || (n8 (d.word p j)==0 && (if(fV (d.word p j)).dL then d.of (fV (d.word p j)).ak 5 x else decide ((fV (d.word p j)).ak<d.mem.I)))):=by
 unfold CW;rw [(aP h).2.2]
theorem hits_eq {d d':DB} {p q j:Int}(h:d'.word q j=d.word q j):d'.jM p q j=d.jM p q j:=by unfold jM;rw [h]
structure HA(d:DB)(x:Int):Prop where
 fst:d.of (d.word x 0) 3 x=true∧∀q,d.of q 3 x=true→q=d.word x 0
 nz:∀p,d.of p 3 x=true→∀o,256≤o→d.word p o=0
 nms:∀p,d.of p 3 x=true→∀i,0≤i→i<256→d.word p i=0∨(kQ (d.word p i)=0∧d.of (aW (d.word p i)) 4 x=true)
 all:∀p q,d.of p 3 x=true→d.of q 4 x=true→∃i,(0≤i∧i<256)∧d.word p i≠0∧aW (d.word p i)=q
 once:∀p i j,d.of p 3 x=true→(0≤i∧i<256)→(0≤j∧j<256)→d.word p i≠0→d.word p j≠0→aW (d.word p i)=aW (d.word p j)→i=j
 mps:∀p,d.of p 4 x=true→∀j,0≤j→j<1024→d.CW p j=true
 hit:∀p,d.of p 5 x=true→∃q j,(d.of q 4 x=true∧(0≤j∧j<1024)∧d.jM p q j=true)∧∀q' j',d.of q' 4 x=true→(0≤j'∧j'<1024)→d.jM p q' j'=true→q'=q∧j'=j
theorem Tbl.x {d:DB}(T:d.Tbl) {x:Int}(a:d.is x 1=true)(b:(d.at_ x).state≠3):d.HA x:=
 ⟨T.fst x a b,fun p=>T.nz x p a b,fun p=>T.nms x p a b,fun p q=>T.all x p q a b,fun p i j=>T.once x p i j a b,fun p=>T.mps x p a b,fun p=>T.hit x p a b⟩
theorem Tbl.mk' {d:DB}(h:∀x,d.is x 1=true→(d.at_ x).state≠3→d.HA x):d.Tbl:=
 ⟨fun x a b=>(h x a b).fst,fun x p a b=>(h x a b).nz p,fun x p a b=>(h x a b).nms p,fun x p q a b=>(h x a b).all p q,fun x p i j a b=>(h x a b).once p i j,fun x p a b=>(h x a b).mps p,fun x p a b=>(h x a b).hit p⟩
theorem HA.frame {d d':DB} {x:Int}(T:d.HA x)(hI:d'.mem.I=d.mem.I)(f:d'.word x 0=d.word x 0)(h2:∀p u,(u=3∨u=4∨u=5)→(d'.of p u x=true↔d.of p u x=true))(h3:∀p o,(d.of p 3 x=true∨d.of p 4 x=true)→d'.word p o=d.word p o):d'.HA x:=by
 refine⟨?_,fun p hp o ho=>?_,fun p hp i i0 i1=>?_,fun p q hp hq=>?_,fun p i j hp hi hj wi wj e=>?_,fun p hp j j0 j1=>?_,fun p hp=>?_⟩
 ·obtain⟨g,h⟩:=T.fst
  rw [f]
  exact⟨(h2 _ 3 (by omega)).2 g,fun q hq=>h q ((h2 q 3 (by omega)).1 hq)⟩
 ·have PZ:=(h2 p 3 (by omega)).1 hp
  rw [h3 p o (.inl PZ)];exact T.nz p PZ o ho
 ·have PZ:=(h2 p 3 (by omega)).1 hp
  rw [h3 p i (.inl PZ)]
  exact(T.nms p PZ i i0 i1).imp id fun⟨u,v⟩=>⟨u,(h2 _ 4 (by omega)).2 v⟩
 ·have PZ:=(h2 p 3 (by omega)).1 hp
  obtain⟨i,u,v,w⟩:=T.all p q PZ ((h2 q 4 (by omega)).1 hq)
  exact⟨i,u,by rw [h3 p i (.inl PZ)];exact v,by rw [h3 p i (.inl PZ)];exact w⟩
 ·have PZ:=(h2 p 3 (by omega)).1 hp
  rw [h3 p i (.inl PZ)]at wi e
  rw [h3 p j (.inl PZ)]at wj e
  exact T.once p i j PZ hi hj wi wj e
 ·have PZ:=(h2 p 4 (by omega)).1 hp
  have old:=T.mps p PZ j j0 j1
  rw [mapOk_eq PZ]at old
  rw [mapOk_eq hp,h3 p j (.inr PZ),hI]
  have ho:d'.of (fV (d.word p j)).ak 5 x=d.of (fV (d.word p j)).ak 5 x:=by
   rw [Bool.eq_iff_iff];exact h2 _ 5 (by omega)
  rw [ho];exact old
 ·obtain⟨q,j,⟨u,v,w⟩,z⟩:=T.hit p ((h2 p 5 (by omega)).1 hp)
  refine⟨q,j,⟨(h2 q 4 (by omega)).2 u,v,by rw [hits_eq (h3 q j (.inr u))];exact w⟩,fun q' j' u' v' w'=>?_⟩
  have u2:=(h2 q' 4 (by omega)).1 u'
  rw [hits_eq (h3 q' j' (.inr u2))]at w'
  exact z q' j' u2 v' w'
theorem Tbl.frame {d d':DB}(T:d.Tbl)(hI:d'.mem.I=d.mem.I)
 (h1:∀x,d'.is x 1=true→(d'.at_ x).state≠3→d.is x 1=true∧(d.at_ x).state≠3∧d'.word x 0=d.word x 0)
 (h2:∀x p u,d'.is x 1=true→(d'.at_ x).state≠3→(u=3∨u=4∨u=5)→(d'.of p u x=true↔d.of p u x=true))
 (h3:∀x p o,d'.is x 1=true→(d'.at_ x).state≠3→(d.of p 3 x=true∨d.of p 4 x=true)→d'.word p o=d.word p o):d'.Tbl:=
 Tbl.mk' fun x a b=>by
  obtain⟨c,e,f⟩:=h1 x a b
  exact(T.x c e).frame hI f (fun p u=>h2 x p u a b) (fun p o=>h3 x p o a b)
theorem vR {M:Mp}(h:M.err=0):n8 M.word=0∧fV M.word=M∧M.word≠0:=by
 obtain⟨s,p,w,e⟩:=M
 have hp:0≤p∧p<64:=by
  unfold Mp.err at h
  by_cases hp:0≤p∧p<64
  ·exact hp
  ·rw [if_neg hp]at h;omega
 have hw:Mp.word ⟨s,p,w,e⟩=256*p+1+Mp.bits ⟨s,p,w,e⟩:=by unfold Mp.word;rw [if_pos h]
 have hg:Mp.yq (Mp.word ⟨s,p,w,e⟩)=⟨s,p,w,e⟩:=by
  rw [hw]
  unfold Mp.yq Mp.bits
  have e1:∀(b:Bool)(x:Int),(x=1↔b=true)→decide (x=1)=b:=fun b x hx=>by
   cases b
   ·exact decide_eq_false (fun h9=>by have:=hx.1 h9;cases this)
   ·exact decide_eq_true (hx.2 rfl)
  congr 1
  ·apply e1;cases s<;>cases w<;>cases e<;>simp<;>omega
  ·cases s<;>cases w<;>cases e<;>simp<;>omega
  ·apply e1;cases s<;>cases w<;>cases e<;>simp<;>omega
  ·apply e1;cases s<;>cases w<;>cases e<;>simp<;>omega
 have hn:Mp.word ⟨s,p,w,e⟩≠0:=by
  rw [hw];unfold Mp.bits;cases s<;>cases w<;>cases e<;>simp<;>omega
 have ok:vS (Mp.word ⟨s,p,w,e⟩)=true:=by
  unfold vS;rw [hg];simp [h]
 refine⟨?_,?_,hn⟩
 ·unfold n8;rw [if_neg hn,if_pos ok]
 ·unfold fV;rw [if_pos ⟨hn,ok⟩,hg]
theorem Gd {p:Int}(h:0≤p∧p<64):kQ (cf p)=0∧aW (cf p)=p∧cf p≠0:=by
 have e:cf p=256*p+1:=by unfold cf;rw [if_pos h]
 have ok:xU (cf p)=true:=by unfold xU;rw [e];simp;omega
 have hn:cf p≠0:=by rw [e];omega
 refine⟨?_,?_,hn⟩
 ·unfold kQ;rw [if_neg hn,if_pos ok]
 ·unfold aW;rw [if_pos ok,e];omega
theorem Tbl.table {d D:DB} {p s i t:Int}(T:d.Tbl)(N:d.Ens)(k:kW d p 4 s)(p6:p<64)(hi:0≤i∧i<256)(ht:d.of t 3 s=true)(hz:d.word t i=0)(hI:D.mem.I=d.mem.I)
 (h1:∀x,D.is x 1=true→d.is x 1=true∧(D.at_ x).state=(d.at_ x).state)
 (Ov:∀x u o,u≠0→(D.of x u o=true↔(x=p∧u=4∧o=s)∨d.of x u o=true))
 (hw:∀x o,D.word x o=if x=t∧o=i then cf p else d.word x o):D.Tbl:=by
 have P:=Gd ⟨(ai k.hp).1,p6⟩
 have np:∀u x,d.of p u x=true→u=0:=fun u x h=>by have:=(aP h).2.1;have:=k.fp;omega
 have tn:t≠p:=by rintro rfl;have:=np _ _ ht;omega
 have o3:∀x q,D.of q 3 x=true→d.of q 3 x=true:=fun x q h=>by
  rcases(Ov q 3 x (by omega)).1 h with⟨_,h9,_⟩ | h
  ·omega
  ·exact h
 have o5:∀x q,D.of q 5 x=true→d.of q 5 x=true:=fun x q h=>by
  rcases(Ov q 5 x (by omega)).1 h with⟨_,h9,_⟩ | h
  ·omega
  ·exact h
 have w1:∀x,d.is x 1=true→D.word x 0=d.word x 0:=fun x hx=>by
  rw [hw,if_neg];rintro⟨rfl,_⟩
  have:=(aP ht).2.1;have:=(aM hx).2;omega
 have w4:∀x q o,d.of q 4 x=true→D.word q o=d.word q o:=fun x q o hq=>by
  rw [hw,if_neg];rintro⟨rfl,_⟩
  have:=(aP ht).2.1;have:=(aP hq).2.1;omega
 have wp:∀o,D.word p o=0:=fun o=>by
  rw [hw,if_neg (fun h9=>tn h9.1.symm)];exact N.free p (dZ ⟨k.hp,k.fp⟩) o
 have ts:∀x,d.of t 3 x=true→x=s:=fun x h=>(aP h).2.2.symm.trans (aP ht).2.2
 refine⟨fun x a b=>?_,fun x q a b hq o ho=>?_,fun x q a b hq j j0 j1=>?_,fun x q r a b hq hr=>?_,fun x q j l a b hq hj hl wj wl e=>?_,fun x q a b hq j j0 j1=>?_,fun x q a b hq=>?_⟩
 ·obtain⟨c,e⟩:=h1 x a
  rw [e]at b
  obtain⟨g,h⟩:=T.fst x c b
  rw [w1 x c]
  exact⟨(Ov _ 3 x (by omega)).2 (.inr g),fun q hq=>h q (o3 x q hq)⟩
 ·obtain⟨c,e⟩:=h1 x a
  rw [e]at b
  rw [hw,if_neg (by omega)];exact T.nz x q c b (o3 x q hq) o ho
 ·obtain⟨c,e⟩:=h1 x a
  rw [e]at b
  have Oy:=o3 x q hq
  rw [hw]
  by_cases h9:q=t∧j=i
  ·rw [if_pos h9]
   right
   refine⟨P.1,?_⟩
   rw [P.2.1,Ov p 4 x (by omega)]
   exact .inl ⟨rfl,rfl,ts x (h9.1▸Oy)⟩
  ·rw [if_neg h9]
   exact(T.nms x q c b Oy j j0 j1).imp id fun⟨u,v⟩=>⟨u,(Ov _ 4 x (by omega)).2 (.inr v)⟩
 ·obtain⟨c,e⟩:=h1 x a
  rw [e]at b
  have Oy:=o3 x q hq
  rcases(Ov r 4 x (by omega)).1 hr with⟨rfl,_,rfl⟩ | h
  ·have e9:q=t:=by
    have f1:=(T.fst _ c b).2
    rw [f1 q Oy,f1 t ht]
   subst e9
   exact⟨i,hi,by rw [hw,if_pos ⟨rfl,rfl⟩];exact P.2.2,by rw [hw,if_pos ⟨rfl,rfl⟩];exact P.2.1⟩
  ·obtain⟨j,u,v,w⟩:=T.all x q r c b Oy h
   have ne:¬(q=t∧j=i):=by rintro⟨rfl,rfl⟩;exact v hz
   exact⟨j,u,by rw [hw,if_neg ne];exact v,by rw [hw,if_neg ne];exact w⟩
 ·obtain⟨c,e1⟩:=h1 x a
  rw [e1]at b
  have Oy:=o3 x q hq
  have no:∀j,0≤j∧j<256→d.word q j≠0→aW (d.word q j)≠p:=fun j hj hn e9=>by
   rcases T.nms x q c b Oy j hj.1 hj.2 with h | ⟨_,h⟩
   ·exact hn h
   ·rw [e9]at h;have:=np _ _ h;omega
  rw [hw]at wj wl e
  rw [hw]at e
  by_cases c1:q=t∧j=i
  ·by_cases c2:q=t∧l=i
   ·omega
   ·rw [if_pos c1,if_neg c2,P.2.1]at e
    rw [if_neg c2]at wl
    exact absurd e.symm (no l hl wl)
  ·rw [if_neg c1]at wj e
   by_cases c2:q=t∧l=i
   ·rw [if_pos c2,P.2.1]at e
    exact absurd e (no j hj wj)
   ·rw [if_neg c2]at wl e
    exact T.once x q j l c b Oy hj hl wj wl e
 ·obtain⟨c,e⟩:=h1 x a
  rw [e]at b
  rw [mapOk_eq hq]
  rcases(Ov q 4 x (by omega)).1 hq with⟨rfl,_,rfl⟩ | h
  ·rw [wp];rfl
  ·have old:=T.mps x q c b h j j0 j1
   rw [mapOk_eq h]at old
   rw [w4 x q j h,hI]
   have ho:d.of (fV (d.word q j)).ak 5 x=true→D.of (fV (d.word q j)).ak 5 x=true:=fun h9=>(Ov _ 5 x (by omega)).2 (.inr h9)
   revert old
   cases (fV (d.word q j)).dL
   ·exact id
   ·simp only [if_true,Bool.or_eq_true,Bool.and_eq_true]
    exact fun h9=>h9.imp id fun⟨u,v⟩=>⟨u,ho v⟩
 ·obtain⟨c,e⟩:=h1 x a
  rw [e]at b
  obtain⟨r,j,⟨u,v,w⟩,z⟩:=T.hit x q c b (o5 x q hq)
  refine⟨r,j,⟨(Ov r 4 x (by omega)).2 (.inr u),v,by rw [hits_eq (w4 x r j u)];exact w⟩,fun r' j' u' v' w'=>?_⟩
  rcases(Ov r' 4 x (by omega)).1 u' with⟨rfl,_,rfl⟩ | u2
  ·unfold jM at w'
   rw [wp]at w'
   simp [n8]at w'
  ·rw [hits_eq (w4 x r' j' u2)]at w'
   exact z r' j' u2 v' w'
theorem Tbl.data {d D:DB} {p s P J:Int} {M:Mp}(T:d.Tbl)(k:kW d p 5 s)(hP:d.of P 4 s=true)(hJ:0≤J∧J<1024)(hz:d.word P J=0)(hM:M.err=0)(hs:M.dL=true)(hp:M.ak=p)(hI:D.mem.I=d.mem.I)
 (h1:∀x,D.is x 1=true→d.is x 1=true∧(D.at_ x).state=(d.at_ x).state)
 (Ov:∀x u o,u≠0→(D.of x u o=true↔(x=p∧u=5∧o=s)∨d.of x u o=true))
 (hw:∀x o,x≠p→D.word x o=if x=P∧o=J then M.word else d.word x o):D.Tbl:=by
 have W:=vR hM
 have np:∀u x,d.of p u x=true→u=0:=fun u x h=>by have:=(aP h).2.1;have:=k.fp;omega
 have nq:∀q u x,u≠0→d.of q u x=true→q≠p:=fun q u x hu h e=>by rw [e]at h;exact hu (np u x h)
 have Uc:∀x q u,u=3∨u=4→D.of q u x=true→d.of q u x=true:=fun x q u hu h=>by
  rcases(Ov q u x (by omega)).1 h with⟨_,h9,_⟩ | h
  ·omega
  ·exact h
 have w1:∀x,d.is x 1=true→D.word x 0=d.word x 0:=fun x hx=>by
  have h2:=(aM hx).2
  rw [hw x 0 (by rintro rfl;have:=k.fp;omega),if_neg]
  rintro⟨rfl,_⟩;have:=(aP hP).2.1;omega
 have w3:∀x q o,d.of q 3 x=true→D.word q o=d.word q o:=fun x q o hq=>by
  rw [hw q o (nq q 3 x (by omega) hq),if_neg];rintro⟨rfl,_⟩
  have:=(aP hP).2.1;have:=(aP hq).2.1;omega
 have w4:∀x q o,d.of q 4 x=true→D.word q o=if q=P∧o=J then M.word else d.word q o:=fun x q o hq=>hw q o (nq q 4 x (by omega) hq)
 have ps:∀x,d.of P 4 x=true→x=s:=fun x h=>(aP h).2.2.symm.trans (aP hP).2.2
 have none:∀x q j,d.is x 1=true→(d.at_ x).state≠3→d.of q 4 x=true→0≤j∧j<1024→d.jM p q j=false:=fun x q j c b hq hj=>by
  rw [← Bool.not_eq_true];intro h
  unfold jM at h
  simp only [Bool.and_eq_true,beq_iff_eq]at h
  have old:=T.mps x q c b hq j hj.1 hj.2
  rw [mapOk_eq hq,h.2.1]at old
  simp only [if_true,Bool.or_eq_true,beq_iff_eq,Bool.and_eq_true]at old
  rcases old with h0 | ⟨_,h0⟩
  ·have:=h.1;rw [h0]at this;simp [n8]at this
  ·rw [h.2.2]at h0;have:=np _ _ h0;omega
 refine⟨fun x a b=>?_,fun x q a b hq o ho=>?_,fun x q a b hq j j0 j1=>?_,fun x q r a b hq hr=>?_,fun x q j l a b hq hj hl wj wl e=>?_,fun x q a b hq j j0 j1=>?_,fun x q a b hq=>?_⟩
 ·obtain⟨c,e⟩:=h1 x a
  rw [e]at b
  obtain⟨g,h⟩:=T.fst x c b
  rw [w1 x c]
  exact⟨(Ov _ 3 x (by omega)).2 (.inr g),fun q hq=>h q (Uc x q 3 (by omega) hq)⟩
 ·obtain⟨c,e⟩:=h1 x a
  rw [e]at b
  have Oy:=Uc x q 3 (by omega) hq
  rw [w3 x q o Oy];exact T.nz x q c b Oy o ho
 ·obtain⟨c,e⟩:=h1 x a
  rw [e]at b
  have Oy:=Uc x q 3 (by omega) hq
  rw [w3 x q j Oy]
  exact(T.nms x q c b Oy j j0 j1).imp id fun⟨u,v⟩=>⟨u,(Ov _ 4 x (by omega)).2 (.inr v)⟩
 ·obtain⟨c,e⟩:=h1 x a
  rw [e]at b
  have Oy:=Uc x q 3 (by omega) hq
  obtain⟨j,u,v,w⟩:=T.all x q r c b Oy (Uc x r 4 (by omega) hr)
  exact⟨j,u,by rw [w3 x q j Oy];exact v,by rw [w3 x q j Oy];exact w⟩
 ·obtain⟨c,e1⟩:=h1 x a
  rw [e1]at b
  have Oy:=Uc x q 3 (by omega) hq
  rw [w3 x q j Oy]at wj e
  rw [w3 x q l Oy]at wl e
  exact T.once x q j l c b Oy hj hl wj wl e
 ·obtain⟨c,e⟩:=h1 x a
  rw [e]at b
  have Oy:=Uc x q 4 (by omega) hq
  rw [mapOk_eq hq,w4 x q j Oy]
  by_cases h9:q=P∧j=J
  ·rw [if_pos h9,W.1,W.2.1,hs,hp]
   have:D.of p 5 x=true:=(Ov p 5 x (by omega)).2 (.inl ⟨rfl,rfl,ps x (h9.1▸Oy)⟩)
   simp [this]
  ·rw [if_neg h9,hI]
   have old:=T.mps x q c b Oy j j0 j1
   rw [mapOk_eq Oy]at old
   have ho:d.of (fV (d.word q j)).ak 5 x=true→D.of (fV (d.word q j)).ak 5 x=true:=fun h9=>(Ov _ 5 x (by omega)).2 (.inr h9)
   revert old
   cases (fV (d.word q j)).dL
   ·exact id
   ·simp only [if_true,Bool.or_eq_true,Bool.and_eq_true]
    exact fun h9=>h9.imp id fun⟨u,v⟩=>⟨u,ho v⟩
 ·obtain⟨c,e⟩:=h1 x a
  rw [e]at b
  have new:∀q',d.of q' 4 x=true→q'=P→D.jM q q' J=(M.ak==q):=fun q' Oy e9=>by
   unfold jM
   rw [w4 x q' J Oy,if_pos ⟨e9,rfl⟩,W.1,W.2.1,hs];rfl
  have old:∀q' j',d.of q' 4 x=true→¬(q'=P∧j'=J)→D.jM q q' j'=d.jM q q' j':=fun q' j' Oy n=>hits_eq (by rw [w4 x q' j' Oy,if_neg n])
  rcases(Ov q 5 x (by omega)).1 hq with⟨rfl,_,rfl⟩ | Oy
  ·refine⟨P,J,⟨(Ov P 4 _ (by omega)).2 (.inr hP),hJ,by rw [new P hP rfl,hp];simp⟩,fun q' j' u' v' w'=>?_⟩
   have u2:=Uc _ q' 4 (by omega) u'
   by_cases n:q'=P∧j'=J
   ·exact n
   ·rw [old q' j' u2 n,none _ q' j' c b u2 v']at w';cases w'
  ·have qp:=nq q 5 x (by omega) Oy
   obtain⟨r,j,⟨u,v,w⟩,z⟩:=T.hit x q c b Oy
   have n:¬(r=P∧j=J):=by
    rintro⟨rfl,rfl⟩
    unfold jM at w
    rw [hz]at w;simp [n8]at w
   refine⟨r,j,⟨(Ov r 4 x (by omega)).2 (.inr u),v,by rw [old r j u n];exact w⟩,fun r' j' u' v' w'=>?_⟩
   have u2:=Uc x r' 4 (by omega) u'
   by_cases n':r'=P∧j'=J
   ·rw [n'.2,new r' u2 n'.1,hp]at w'
    have:p=q:=by simpa using w'
    exact absurd this.symm qp
   ·rw [old r' j' u2 n']at w'
    exact z r' j' u2 v' w'
theorem Tbl.share {d D:DB} {s P J:Int} {M:Mp}(T:d.Tbl)(hP:d.of P 4 s=true)(hz:d.word P J=0)(hM:M.err=0)(hs:M.dL=false)(hp:M.ak<(d.mem.I:Int))(hI:D.mem.I=d.mem.I)
 (h1:∀x,D.is x 1=true→d.is x 1=true∧(D.at_ x).state=(d.at_ x).state)
 (Ov:∀x u o,D.of x u o=d.of x u o)
 (hw:∀x o,D.word x o=if x=P∧o=J then M.word else d.word x o):D.Tbl:=by
 have W:=vR hM
 have w1:∀x,d.is x 1=true→D.word x 0=d.word x 0:=fun x hx=>by
  rw [hw x 0,if_neg]
  rintro⟨rfl,_⟩;have:=(aP hP).2.1;have:=(aM hx).2;omega
 have w3:∀x q o,d.of q 3 x=true→D.word q o=d.word q o:=fun x q o hq=>by
  rw [hw q o,if_neg];rintro⟨rfl,_⟩
  have:=(aP hP).2.1;have:=(aP hq).2.1;omega
 refine⟨fun x a b=>?_,fun x q a b hq o ho=>?_,fun x q a b hq j j0 j1=>?_,fun x q r a b hq hr=>?_,fun x q j l a b hq hj hl wj wl e=>?_,fun x q a b hq j j0 j1=>?_,fun x q a b hq=>?_⟩
 ·obtain⟨c,e⟩:=h1 x a
  rw [e]at b
  rw [w1 x c,Ov]
  obtain⟨g,h⟩:=T.fst x c b
  exact⟨g,fun q hq=>h q (by rw [← Ov];exact hq)⟩
 ·obtain⟨c,e⟩:=h1 x a
  rw [e]at b
  rw [Ov]at hq
  rw [w3 x q o hq];exact T.nz x q c b hq o ho
 ·obtain⟨c,e⟩:=h1 x a
  rw [e]at b
  rw [Ov]at hq
  rw [w3 x q j hq,Ov]
  exact T.nms x q c b hq j j0 j1
 ·obtain⟨c,e⟩:=h1 x a
  rw [e]at b
  rw [Ov]at hq hr
  obtain⟨j,u,v,w⟩:=T.all x q r c b hq hr
  exact⟨j,u,by rw [w3 x q j hq];exact v,by rw [w3 x q j hq];exact w⟩
 ·obtain⟨c,e1⟩:=h1 x a
  rw [e1]at b
  rw [Ov]at hq
  rw [w3 x q j hq]at wj e
  rw [w3 x q l hq]at wl e
  exact T.once x q j l c b hq hj hl wj wl e
 ·obtain⟨c,e⟩:=h1 x a
  rw [e]at b
  rw [mapOk_eq hq]
  rw [Ov]at hq
  rw [hw q j]
  by_cases h9:q=P∧j=J
  ·rw [if_pos h9,W.1,W.2.1,hs,hI]
   simp [hp]
  ·rw [if_neg h9,hI,Ov,← mapOk_eq hq]
   exact T.mps x q c b hq j j0 j1
 ·obtain⟨c,e⟩:=h1 x a
  rw [e]at b
  rw [Ov]at hq
  have new:D.jM q P J=false:=by
   unfold jM
   rw [hw P J,if_pos ⟨rfl,rfl⟩,W.2.1,hs];simp
  have old:∀q' j',¬(q'=P∧j'=J)→D.jM q q' j'=d.jM q q' j':=fun q' j' n=>hits_eq (by rw [hw q' j',if_neg n])
  obtain⟨r,j,⟨u,v,w⟩,z⟩:=T.hit x q c b hq
  have n:¬(r=P∧j=J):=by
   rintro⟨rfl,rfl⟩
   unfold jM at w
   rw [hz]at w;simp [n8]at w
  refine⟨r,j,⟨by rw [Ov];exact u,v,by rw [old r j n];exact w⟩,fun r' j' u' v' w'=>?_⟩
  rw [Ov]at u'
  by_cases n':r'=P∧j'=J
  ·rw [n'.1,n'.2,new]at w';cases w'
  ·rw [old r' j' n']at w'
   exact z r' j' u' v' w'
theorem eH {p x y:Int}(h:p≠x):∀(l:List Int)(m:Mem)(o:Int),(m.wrs p o l).aY true x y=m.aY true x y
 | [],_,_=>rfl
 | z::l,m,o=>by rw [Mem.wrs,eH h l,Mem.bL h]
structure tI(d D:DB)(s f:Int):Prop where
 hs:d.has s=true
 hf:d.has f=true
 fs:(d.at_ s).typ=0
 ff:(d.at_ f).typ=0
 ne:s≠f
 hh:∀x,D.has x=d.has x
 hS:D.S=d.S
 hI:D.mem.I=d.mem.I
 hb:D.ax=d.ax+1
 hat:∀x:Int,0≤x→D.at_ x=if x=f then⟨3,s,0,0,false⟩else if x=s then⟨1,s,1,1,false⟩else d.at_ x
 wo:∀x o,x≠s→D.word x o=d.word x o
 dg:∀x,x≠s→D.mem.dgW x=d.mem.dgW x
 w0:D.word s 0=f
 w1:D.word s 1=d.ax
 w2:D.word s 2=0
 wz:∀o,3≤o→¬(11≤o∧o<37)→D.word s o=d.word s o
theorem KP {d:DB} {s f:Int}(he:d.cn s f=0):tI d (d.bx s f) s f:=by
 have e:d.bx s f=(d.aJ s f).ay (·.wrs s 11 Dg.new.save):=by unfold bx;rw [if_pos he]
 unfold cn at he
 have h1:¬d.bj s≠0:=by grind
 have h2:¬d.bj f≠0:=by grind
 have h3:¬s=f:=by grind
 have h4:¬d.bp s≠0:=by grind
 have h5:¬d.bp f≠0:=by grind
 have h6:¬d.ax≥64:=by grind
 have hs:=dW h1
 have hf:=dW h2
 have r1:=ai hs
 have r2:=ai hf
 have ht:d.aQ s f=0:=by rw [fe h1 h2 h3 h4 h5,if_neg h6]
 have e2:d.aJ s f=d.aZ s f:=by unfold aJ;rw [if_pos ht]
 rw [e,e2]
 have hm:((d.aZ s f).ay (·.wrs s 11 Dg.new.save)).mem=(((d.mem.write true s 0 f).write true s 1 d.ax).write true s 2 0).wrs s 11 Dg.new.save:=rfl
 have hS:((d.aZ s f).ay (·.wrs s 11 Dg.new.save)).S=d.S:=by
  show(((((d.mem.write true s 0 f).write true s 1 d.ax).write true s 2 0)).wrs s 11 Dg.new.save).S=_
  rw [Mem.fP,Mem.aV,Mem.aV,Mem.aV];rfl
 have fT:∀(m:Mem)(b:Bool)(p o v:Int),(m.write b p o v).I=m.I:=fun m b p o v=>by unfold Mem.write;split<;>rfl
 have Af:∀(l:List Int)(m:Mem)(o:Int),(m.wrs s o l).I=m.I:=by
  intro l
  induction l with
  | nil=>intro m o;rfl
  | cons x l ih=>intro m o;rw [Mem.wrs,ih,fT]
 have hh:∀x,((d.aZ s f).ay (·.wrs s 11 Dg.new.save)).has x=d.has x:=fun x=>by unfold has;rw [hS]
 have q1:(d.mem.write true s 0 f).has true s=true:=by rw [DB.cC];exact hs
 have q2:((d.mem.write true s 0 f).write true s 1 d.ax).has true s=true:=by rw [DB.cC];exact q1
 have q3:(((d.mem.write true s 0 f).write true s 1 d.ax).write true s 2 0).has true s=true:=by rw [DB.cC];exact q2
 have wl:Dg.new.save.length=26:=Dg.gx Dg.ju
 have ws:∀o,¬(11≤o∧o<37)→((d.aZ s f).ay (·.wrs s 11 Dg.new.save)).word s o=if o=2 then 0 else if o=1 then d.ax else if o=0 then f else d.word s o:=fun o ho=>by
  unfold word
  rw [hm,Mem.jG _ _ 11 q3 (by omega) (by rw [wl];decide),if_neg (by rw [wl];omega),Mem.cx q2 (by decide),Mem.cx q1 (by decide),Mem.cx hs (by decide)]
 have wo:∀x o,x≠s→((d.aZ s f).ay (·.wrs s 11 Dg.new.save)).word x o=d.word x o:=fun x o hx=>by
  unfold word
  rw [hm,eH (Ne.symm hx),Mem.bL (Ne.symm hx),Mem.bL (Ne.symm hx),Mem.bL (Ne.symm hx)]
 refine⟨hs,hf,dF hs h4,dF hf h5,h3,hh,hS,?_,rfl,fun x hx=>?_,wo,fun x hx=>?_,?_,?_,?_,fun o h9 h8=>?_⟩
 ·rw [hm,Af,fT,fT,fT]
 ·show((d.set s ⟨1,s,1,1,false⟩).set f ⟨3,s,0,0,false⟩).at_ x=_
  rw [bE r2.1 hx,bE r1.1 hx]
 ·exact List.map_congr_left fun i _=>congrArg U32.mk (wo x _ hx)
 ·rw [ws 0 (by omega)];rfl
 ·rw [ws 1 (by omega)];rfl
 ·rw [ws 2 (by omega)];rfl
 ·rw [ws o h8,if_neg (by omega),if_neg (by omega),if_neg (by omega)]
theorem tI.is {d D:DB} {s f:Int}(k:tI d D s f) {x u:Int}(hu:u≠0):D.is x u=true↔(x=f∧u=3)∨(x=s∧u=1)∨d.is x u=true:=by
 constructor
 ·intro h
  obtain⟨a,b⟩:=aM h
  rw [k.hh]at a
  rw [k.hat x (ai a).1]at b
  by_cases e1:x=f
  ·rw [if_pos e1]at b;exact .inl ⟨e1,b.symm⟩
  ·rw [if_neg e1]at b
   by_cases e2:x=s
   ·rw [if_pos e2]at b;exact .inr (.inl ⟨e2,b.symm⟩)
   ·rw [if_neg e2]at b;exact .inr (.inr (dZ ⟨a,b⟩))
 ·rintro(⟨rfl,rfl⟩ | ⟨rfl,rfl⟩ | h)
  ·exact dZ ⟨by rw [k.hh];exact k.hf,by rw [k.hat _ (ai k.hf).1,if_pos rfl]⟩
  ·exact dZ ⟨by rw [k.hh];exact k.hs,by rw [k.hat _ (ai k.hs).1,if_neg k.ne,if_pos rfl]⟩
  ·obtain⟨a,b⟩:=aM h
   refine dZ ⟨by rw [k.hh];exact a,?_⟩
   rw [k.hat _ (ai a).1,if_neg (by rintro rfl;have:=k.ff;omega),if_neg (by rintro rfl;have:=k.fs;omega)];exact b
theorem tI.same {d D:DB} {s f:Int}(k:tI d D s f) {x:Int}(hx:d.has x=true)(h:(d.at_ x).typ≠0):D.at_ x=d.at_ x∧x≠s∧x≠f:=by
 have n1:x≠f:=by rintro rfl;exact h k.ff
 have n2:x≠s:=by rintro rfl;exact h k.fs
 exact⟨by rw [k.hat _ (ai hx).1,if_neg n1,if_neg n2],n2,n1⟩
theorem Ens.lone {d:DB}(N:d.Ens)(G:d.Good) {s x:Int}(hs:(d.at_ s).typ=0)(hx:d.has x=true)(ht:(d.at_ x).typ≠0):(d.at_ x).owner≠s:=fun e=>by
 by_cases h1:(d.at_ x).typ=1
 ·have:=G.own x hx h1
  rw [this]at e;rw [e]at ht;exact ht hs
 ·have:=(aM (N.sp x hx ht h1)).2
  rw [e]at this;omega
theorem tI.of {d D:DB} {s f:Int}(k:tI d D s f)(N:d.Ens)(G:d.Good) {x u o:Int}(hu:u≠0)(h1:u≠1):D.of x u o=true↔(x=f∧u=3∧o=s)∨(d.of x u o=true∧o≠s):=by
 constructor
 ·intro h
  obtain⟨a,b,c⟩:=aP h
  rcases(k.is hu).1 (dZ ⟨a,b⟩)with⟨rfl,rfl⟩ | ⟨_,rfl⟩ | h2
  ·rw [k.hat _ (ai k.hf).1,if_pos rfl]at c
   exact .inl ⟨rfl,rfl,c.symm⟩
  ·exact absurd rfl h1
  ·obtain⟨p,q⟩:=aM h2
   have w:=k.same p (by omega)
   rw [w.1]at c
   exact .inr ⟨fJ ⟨p,q,c⟩,fun e=>N.lone G k.fs p (by omega) (c.trans e)⟩
 ·rintro(⟨rfl,rfl,rfl⟩ | ⟨h,_⟩)
  ·exact fJ ⟨by rw [k.hh];exact k.hf,by rw [k.hat _ (ai k.hf).1,if_pos rfl];exact⟨rfl,rfl⟩⟩
  ·obtain⟨p,q,c⟩:=aP h
   have w:=k.same p (by omega)
   exact fJ ⟨by rw [k.hh];exact p,by rw [w.1];exact⟨q,c⟩⟩
theorem Tbl.space {d D:DB} {s f:Int}(T:d.Tbl)(N:d.Ens)(G:d.Good)(k:tI d D s f):D.Tbl:=by
 have wf:∀o,D.word f o=0:=fun o=>by rw [k.wo f o k.ne.symm];exact N.free f (dZ ⟨k.hf,k.ff⟩) o
 refine Tbl.mk' fun x a b=>?_
 by_cases e:x=s
 ·subst e
  have o3:∀q,D.of q 3 x=true→q=f:=fun q h=>by
   rcases(k.of N G (by omega) (by omega)).1 h with h | h
   ·exact h.1
   ·exact absurd rfl h.2
  have o4:∀q u,u=4∨u=5→D.of q u x=true→False:=fun q u hu h=>by
   rcases(k.of N G (by omega) (by omega)).1 h with h | h
   ·omega
   ·exact absurd rfl h.2
  refine⟨?_,fun p hp o ho=>?_,fun p hp i i0 i1=>?_,fun p q hp hq=>?_,fun p i j hp hi hj wi wj e=>?_,fun p hp j j0 j1=>?_,fun p hp=>?_⟩
  ·rw [k.w0]
   exact⟨(k.of N G (by omega) (by omega)).2 (.inl ⟨rfl,rfl,rfl⟩),o3⟩
  ·rw [o3 p hp];exact wf o
  ·rw [o3 p hp];exact .inl (wf i)
  ·exact(o4 q 4 (by omega) hq).elim
  ·rw [o3 p hp]at wi;exact absurd (wf i) wi
  ·exact(o4 p 4 (by omega) hp).elim
  ·exact(o4 p 5 (by omega) hp).elim
 ·have hx:d.is x 1=true:=by
   rcases(k.is (by omega)).1 a with⟨_,h⟩ | ⟨h,_⟩ | h
   ·omega
   ·exact absurd h e
   ·exact h
  have w:=k.same (aM hx).1 (by have:=(aM hx).2;omega)
  rw [w.1]at b
  refine(T.x hx b).frame k.hI (k.wo x 0 e) (fun p u hu=>?_) (fun p o hp=>k.wo p o ?_)
  ·rw [k.of N G (by omega) (by omega)]
   exact⟨fun h=>h.elim (fun h9=>absurd h9.2.2 e) (fun h9=>h9.1),fun h=>.inr ⟨h,e⟩⟩
  ·rintro rfl
   rcases hp with h | h<;>(have:=(aP h).2.1;have:=k.fs;omega)
theorem Ens.space {d D:DB} {s f:Int}(N:d.Ens)(G:d.Good)(k:tI d D s f):D.Ens:=by
 have one:∀x,D.is x 1=true→x=s∨(x≠s∧d.is x 1=true∧D.at_ x=d.at_ x):=fun x hx=>by
  rcases(k.is (by omega)).1 hx with⟨_,h⟩ | ⟨h,_⟩ | h
  ·omega
  ·exact .inl h
  ·have w:=k.same (aM h).1 (by have:=(aM h).2;omega)
   exact .inr ⟨w.2.1,h,w.1⟩
 have zs:∀o,d.word s o=0:=N.free s (dZ ⟨k.hs,k.fs⟩)
 have sa:D.at_ s=⟨1,s,1,1,false⟩:=by rw [k.hat _ (ai k.hs).1,if_neg k.ne,if_pos rfl]
 have fa:D.at_ f=⟨3,s,0,0,false⟩:=by rw [k.hat _ (ai k.hf).1,if_pos rfl]
 have fn:((f.toNat:Nat):Int)=f:=Int.toNat_of_nonneg (ai k.hf).1
 have fS:f.toNat<d.S:=by have:=ai k.hf;omega
 have acr:∀q:Nat,q<d.S→d.has (q:Int)=true:=fun q hq=>by unfold has;simp;exact hq
 refine⟨fun x hx=>?_,fun x hx a b=>?_,fun x hx=>?_,fun x hx o=>?_,fun x hx=>?_,fun x hx=>?_,fun x y hx hy he=>?_,fun x hx o ho=>?_,fun x hx o ha hb=>?_,fun x hx=>?_,fun x hx st o ho=>?_,fun x hx st=>?_⟩
 ·rw [k.hh]at hx
  rw [k.hat x (ai hx).1]
  split
  ·show(3:Int)≠6;decide
  ·split
   ·show(1:Int)≠6;decide
   ·exact N.typ x hx
 ·rw [k.hh]at hx
  rw [k.hat x (ai hx).1]at a b ⊢
  by_cases e1:x=f
  ·rw [if_pos e1];exact(k.is (by omega)).2 (.inr (.inl ⟨rfl,rfl⟩))
  ·rw [if_neg e1]at a b ⊢
   by_cases e2:x=s
   ·rw [if_pos e2]at b;exact absurd rfl b
   ·rw [if_neg e2]at a b ⊢;exact(k.is (by omega)).2 (.inr (.inr (N.sp x hx a b)))
 ·have own:∀q:Nat,q<d.S→∀y:Int,(y≠s→(D.bm y q=true↔d.bm y q=true))∧(D.bm s q=true→q=f.toNat):=fun q hq y=>by
   have hq1:=acr q hq
   have ha:=k.hat (q:Int) (by omega)
   refine⟨fun hy=>⟨fun h=>?_,fun h=>?_⟩,fun h=>?_⟩
   ·obtain⟨a,b,c⟩:=bQ h
    rw [← cT]at b c
    rw [ha]at b c
    by_cases e1:(q:Int)=f
    ·rw [if_pos e1]at c;exact absurd c.symm hy
    ·rw [if_neg e1]at b c
     by_cases e2:(q:Int)=s
     ·rw [if_pos e2]at c;exact absurd c.symm hy
     ·rw [if_neg e2,cT]at b c;exact cK ⟨a,b,c⟩
   ·obtain⟨a,b,c⟩:=bQ h
    have w:=k.same hq1 (by rw [cT];exact b)
    rw [cT,cT]at w
    exact cK ⟨a,by rw [w.1];exact b,by rw [w.1];exact c⟩
   ·obtain⟨a,b,c⟩:=bQ h
    rw [← cT]at b c
    rw [ha]at b c
    by_cases e1:(q:Int)=f
    ·omega
    ·rw [if_neg e1,if_neg a]at b c
     exact absurd c (N.lone G k.fs hq1 b)
  rcases one x hx with rfl | ⟨n,h,ea⟩
  ·rw [sa]
   have u1:=g9 (f:=fun _=>false) (g:=D.bm x) (p:=f.toNat) (n:=d.S) (cK (by
    rw [fn,show D.ent f.toNat=D.at_ f from rfl,fa]
    exact⟨k.ne.symm,(by show(3:Int)≠0;decide),rfl⟩)) rfl fS (fun q _ h9=>by cases h9)
   have u2:=jR (f:=D.bm x) (g:=fun _=>false) (p:=f.toNat) (n:=d.S) (fun q hq NN h9=>absurd ((own q hq x).2 h9) NN)
   have u3:lG (fun _=>false) d.S=0:=by unfold lG;simp
   show(1:Int)=_
   unfold cnt
   rw [k.hS];omega
  ·rw [ea]
   have hc:D.cnt x=d.cnt x:=by
    unfold cnt
    rw [k.hS]
    exact Nat.le_antisymm (er fun q hq h9=>((own q hq x).1 n).1 h9) (er fun q hq h9=>((own q hq x).1 n).2 h9)
   rw [hc];exact N.refs x h
 ·obtain⟨a,b⟩:=aM hx
  rw [k.hh]at a
  rw [k.hat x (ai a).1]at b
  by_cases e1:x=f
  ·rw [if_pos e1]at b;cases b
  ·rw [if_neg e1]at b
   by_cases e2:x=s
   ·rw [if_pos e2]at b;cases b
   ·rw [if_neg e2]at b
    rw [k.wo x o e2];exact N.free x (dZ ⟨a,b⟩) o
 ·rcases(k.is (by omega)).1 hx with⟨_,h⟩ | ⟨_,h⟩ | h
  ·omega
  ·omega
  ·have w:=k.same (aM h).1 (by have:=(aM h).2;omega)
   exact⟨by rw [w.1];exact(N.thr x h).1,fun o ho=>by rw [k.wo x o w.2.1];exact(N.thr x h).2 o ho⟩
 ·rcases one x hx with rfl | ⟨n,h,ea⟩
  ·rw [k.w1,k.w2,k.hb];exact⟨by omega,rfl⟩
  ·have:=N.th x h
   rw [k.wo x 1 n,k.wo x 2 n,k.hb];exact⟨by omega,this.2⟩
 ·rcases one x hx with rfl | ⟨n,h,ea⟩
  ·rcases one y hy with rfl | ⟨n2,h2,_⟩
   ·rfl
   ·rw [k.w1,k.wo y 1 n2]at he
    have:=(N.th y h2).1;omega
  ·rcases one y hy with rfl | ⟨n2,h2,_⟩
   ·rw [k.w1,k.wo x 1 n]at he
    have:=(N.th x h).1;omega
   ·rw [k.wo x 1 n,k.wo y 1 n2]at he
    exact N.GZ x y h h2 he
 ·rcases one x hx with rfl | ⟨n,h,ea⟩
  ·rw [k.wz o (by omega) (by omega)];exact zs o
  ·rw [k.wo x o n];exact N.high x h o ho
 ·rcases one x hx with rfl | ⟨n,h,ea⟩
  ·rw [k.wz o ha (by omega)];exact zs o
  ·rw [k.wo x o n];exact N.low x h o ha hb
 ·rcases one x hx with rfl | ⟨n,h,ea⟩
  ·rw [sa];exact .inl rfl
  ·rw [ea];exact N.st x h
 ·rcases one x hx with rfl | ⟨n,h,ea⟩
  ·rw [sa]at st;cases st
  ·rw [ea]at st;rw [k.wo x o n];exact N.fin x h st o ho
 ·rcases one x hx with rfl | ⟨n,h,ea⟩
  ·rw [sa]at st;cases st
  ·rw [ea]at st;rw [k.dg x n]
   rcases N.stop x h st with h9 | h9
   ·exact .inl h9
   ·exact .inr fun o ho=>by rw [k.wo x o n];exact h9 o ho
theorem xv(m:Mem):∀(k:Nat),k≤m.S→∀(p o:Nat),p<k→(m.dm k).pg true p o=0
 | 0,_,p,o,h=>by omega
 | k+1,hk,p,o,h=>by
  show((m.dm k).zero true k).pg true p o=0
  unfold Mem.zero
  rw [if_pos (by unfold Mem.has Mem.cnt;simp;omega)]
  show(if true=true∧p=(k:Int).toNat then 0 else(m.dm k).pg true p o)=0
  by_cases h1:p=k
  ·rw [if_pos (by simp [h1])]
  ·rw [if_neg (by simp;omega)]
   exact xv m k (by omega) p o (by omega)
theorem Gr(m:Mem)(p o:Int):(DB.new m).word p o=0:=by
 show(m.dm m.S).aY true p o=0
 unfold Mem.aY
 split
 ·rename_i h
  simp only [Bool.and_eq_true]at h
  refine xv m m.S (Nat.le_refl _) _ _ ?_
  have:=Mem.dG h.1
  have e:(m.dm m.S).cnt true=m.S:=Mem.l6 m m.S
  omega
 ·rfl
theorem IN(m:Mem):(DB.new m).Val:=by
 have no:∀x u,u≠0→(DB.new m).is x u=true→False:=fun x u hu h=>by
  have:(0:Int)=u:=(aM h).2
  exact hu this.symm
 refine⟨Gs m,⟨fun x _=>?_,fun x _ h=>absurd rfl h,fun x h=>(no x 1 (by omega) h).elim,fun x _ o=>Gr m x o,fun x h=>(no x 2 (by omega) h).elim,fun x h=>(no x 1 (by omega) h).elim,fun x _ h=>(no x 1 (by omega) h).elim,fun x h=>(no x 1 (by omega) h).elim,fun x h=>(no x 1 (by omega) h).elim,fun x h=>(no x 1 (by omega) h).elim,fun x h=>(no x 1 (by omega) h).elim,fun x h=>(no x 1 (by omega) h).elim⟩,Tbl.mk' fun x h=>(no x 1 (by omega) h).elim⟩
 show(0:Int)≠6
 decide
theorem fT(m:Mem)(b:Bool)(p o v:Int):(m.write b p o v).I=m.I:=by unfold Mem.write;split<;>rfl
theorem Af(s:Int):∀(l:List Int)(m:Mem)(o:Int),(m.wrs s o l).I=m.I
 | [],_,_=>rfl
 | x::l,m,o=>by rw [Mem.wrs,Af s l,fT]
theorem Lq(m:Mem)(s:Bool)(p:Int)(s':Bool)(p':Int):(m.copy s p s' p').I=m.I:=by unfold Mem.copy;split<;>rfl
theorem Mz(kk:List Int)(m:Mem)(s k a:Int)(l:List U32):(m.msd kk s k a l).I=m.I:=by
 unfold Mem.msd;split
 ·exact Af ..
 ·rfl
theorem sr {kk:List Int} {m:Mem} {s k a x o:Int} {l:List U32}(hw:m.Wf)(hs:m.has true s=true)(ha:0≤a∧a<4294967296)(hk:k=1∨k=2∨k=3∨k=4)(hl:dP l)(hn:¬(x=s∧11≤o∧o<37)):(m.msd kk s k a l).aY true x o=m.aY true x o:=by
 unfold Mem.msd
 split
 ·rename_i h
  have F:=Dg.lI (K:=kk) (l:=opW k a l) (Dg.eo (Mem.jn hw s) h) (lu ha hk hl)
  have wl:=Dg.gx F.1
  by_cases e:x=s
  ·subst e
   rw [Mem.jG _ _ 11 hs (by omega) (by rw [wl];decide),if_neg (by rw [wl];omega)]
  ·exact eH (Ne.symm e) _ _ _
 ·rfl
theorem qZ {kk:List Int} {D:DB} {s k a:Int} {l:List U32}(N:D.Ens)(T:D.Tbl)(hw:D.mem.Wf)(hs:D.aE s=0)(ha:0≤a∧a<4294967296)(hk:k=1∨k=2∨k=3∨k=4)(hl:dP l):(D.ay (fun m=>m.msd kk s k a l)).Ens∧(D.ay (fun m=>m.msd kk s k a l)).Tbl:=by
 have b:=bo.1 hs
 have hS:(D.mem.msd kk s k a l).S=D.mem.S:=Mem.gS ..
 have pk:=fun(x o:Int)(hn:¬(x=s∧11≤o∧o<37))=>sr (kk:=kk) hw (show D.mem.has true s=true from b.1) ha hk hl hn
 have ns:∀x u,u≠1→D.is x u=true→x≠s:=fun x u hu h e=>by have:=(aM h).2;rw [e]at this;exact hu (this.symm.trans b.2.1)
 refine⟨N.ay hS (fun x o h=>pk x o (fun h9=>ns x 0 (by omega) h h9.1)) (fun x o h hn=>pk x o (fun h9=>hn ⟨by rw [h9.1];exact hs,h9.2⟩)) (fun x o h _=>pk x o (fun h9=>ns x 2 (by omega) h h9.1)),?_⟩
 refine T.frame (Mz ..) (fun x h1 h2=>?_) (fun x p u _ _ _=>by rw [show(D.ay (fun m=>m.msd kk s k a l)).of p u x=D.of p u x from dX hS p u x]) (fun x p o _ _ hp=>pk p o ?_)
 ·have h1:D.is x 1=true:=by rw [← g8 hS];exact h1
  exact⟨h1,h2,pk x 0 (by omega)⟩
 ·rintro⟨rfl,_⟩
  rcases hp with h | h<;>(have:=(aP h).2.1;omega)
theorem nJ(v:Int):0≤vaJ v∧vaJ v<1024:=by unfold vaJ;split<;>omega
theorem rQ {d:DB} {s p b:Int}(N:d.Ens)(T:d.Tbl)(k:kW d p 2 s):((d.take p 2 s).ay (·.write true p 0 b)).Ens∧((d.take p 2 s).ay (·.write true p 0 b)).Tbl:=by
 have hS:((d.take p 2 s).mem.write true p 0 b).S=(d.take p 2 s).mem.S:=Mem.aV ..
 have other:∀x o,x≠p→((d.take p 2 s).mem.write true p 0 b).aY true x o=d.word x o:=fun x o hx=>by
  rw [Mem.bL (Ne.symm hx),aO];rfl
 refine⟨(N.take k (by omega)).ay hS (fun x o h=>?_) (fun x o h _=>?_) (fun x o h ho=>?_),?_⟩
 ·have n:x≠p:=by rintro rfl;have:=(aM h).2;rw [k.self]at this;cases this
  rw [other x o n,cJ]
 ·have n:x≠p:=by rintro rfl;have:=(aM h).2;rw [k.self]at this;cases this
  rw [other x o n,cJ]
 ·by_cases n:x=p
  ·subst n
   have hp:(d.take x 2 s).mem.has true x=true:=by rw [aO];exact k.hp
   rw [Mem.cx hp (by decide),if_neg (by omega)];rfl
  ·rw [other x o n,cJ]
 ·refine T.frame ?_ (fun x h1 h2=>?_) (fun x q u _ _ hu=>?_) (fun x q o _ _ hq=>?_)
  ·show((d.take p 2 s).mem.write true p 0 b).I=_
   rw [fT,aO]
  ·have h1:(d.take p 2 s).is x 1=true:=by rw [← g8 hS];exact h1
   rcases k.is (by omega) h1 with⟨_,h⟩ | ⟨n,h⟩
   ·omega
   ·have w:=k.same (aM h).1 n
    have h2:((d.take p 2 s).at_ x).state≠3:=h2
    rw [w.2.2.1]at h2
    exact⟨h,h2,other x 0 n⟩
  ·rw [show((d.take p 2 s).ay (·.write true p 0 b)).of q u x=(d.take p 2 s).of q u x from dX hS q u x,k.of (by omega)]
   exact⟨fun h=>h.resolve_left (by omega),.inr⟩
  ·refine other q o ?_
   rintro rfl
   rcases hq with h | h<;>(have:=(aP h).2.1;have:=k.fp;omega)
theorem uE {d:DB} {s p i:Int}(N:d.Ens)(T:d.Tbl)(G:d.Good)(R7:d.S≤64)(hi:0≤i)(he:d.cN s p i=0):((d.take p 4 s).add s i p).Ens∧((d.take p 4 s).add s i p).Tbl:=by
 obtain⟨ht,ha⟩:=G.Mv R7 hi he
 have k:=qN ht
 unfold cN at he
 have h1:¬d.aE s≠0:=by grind
 have h3:¬256≤i:=by grind
 have h5:d.word (d.tbl s) i=0:=by grind
 obtain⟨t1,t0,t2,t3,t4⟩:=nO G ht h1
 have Ov:d.of (d.tbl s) 3 s=true:=by
  unfold tbl;rw [if_pos t0];exact G.tbl s (by omega)
 have e:(d.take p 4 s).add s i p=(d.take p 4 s).ay (·.write true (d.tbl s) i (cf p)):=by
  unfold add;rw [if_pos ha,t2]
 rw [e]
 have hS:((d.take p 4 s).mem.write true (d.tbl s) i (cf p)).S=(d.take p 4 s).mem.S:=Mem.aV ..
 have hh:(d.take p 4 s).mem.has true (d.tbl s)=true:=by rw [aO];exact(aP Ov).1
 have hw:∀x o,((d.take p 4 s).ay (·.write true (d.tbl s) i (cf p))).word x o=if x=d.tbl s∧o=i then cf p else d.word x o:=fun x o=>by
  show((d.take p 4 s).mem.write true (d.tbl s) i (cf p)).aY true x o=_
  by_cases e1:x=d.tbl s
  ·subst e1
   rw [Mem.cx hh (by unfold Mem.dq;simp;omega)]
   by_cases e2:o=i
   ·rw [if_pos e2,if_pos ⟨rfl,e2⟩]
   ·rw [if_neg e2,if_neg (fun h9=>e2 h9.2),aO];rfl
  ·rw [Mem.bL (Ne.symm e1),if_neg (fun h9=>e1 h9.1),aO];rfl
 have nt:∀x u,u≠3→(d.take p 4 s).is x u=true→x≠d.tbl s:=fun x u hu h e9=>by
  have h2:=(aM h).2
  rw [e9,(k.same (aP Ov).1 t3).1,(aP Ov).2.1]at h2
  exact hu h2.symm
 have same:∀x o,x≠d.tbl s→((d.take p 4 s).mem.write true (d.tbl s) i (cf p)).aY true x o=(d.take p 4 s).word x o:=fun x o hx=>by
  rw [Mem.bL (Ne.symm hx)];rfl
 refine⟨(N.take k (by omega)).ay hS (fun x o h=>same x o (nt x 0 (by omega) h)) (fun x o h _=>same x o (nt x 1 (by omega) h)) (fun x o h _=>same x o (nt x 2 (by omega) h)),?_⟩
 have p64:p<64:=by have:=(ai k.hp).2;omega
 refine T.table N k p64 ⟨hi,by omega⟩ Ov h5 ?_ (fun x h=>?_) (fun x u o hu=>?_) hw
 ·show((d.take p 4 s).mem.write true (d.tbl s) i (cf p)).I=_
  rw [fT,aO]
 ·have h:(d.take p 4 s).is x 1=true:=by rw [← g8 hS];exact h
  rcases k.is (by omega) h with⟨_,h9⟩ | ⟨n,h9⟩
  ·omega
  ·exact⟨h9,(k.same (aM h9).1 n).2.2.1⟩
 ·rw [show((d.take p 4 s).ay (·.write true (d.tbl s) i (cf p))).of x u o=(d.take p 4 s).of x u o from dX hS x u o]
  exact k.of hu
theorem uH {d:DB} {s w n:Int}(N:d.Ens)(T:d.Tbl)(acI:d.mem.I≤64)(hn:0≤n)(he:d.cY s w n=0):(d.put s (bI w) (Mp.mk false n (paW w) false)).Ens∧(d.put s (bI w) (Mp.mk false n (paW w) false)).Tbl:=by
 obtain⟨_,_,h3,h4⟩:=Good.shares acI hn he
 obtain⟨o1,o2,o3,_⟩:=qq h4
 obtain⟨s1,s2,s3,s4⟩:=jC o3
 have e:d.put s (bI w) (Mp.mk false n (paW w) false)=d.ay (·.write true (d.plP s (bI w)) (vaJ (bI w)) (Mp.mk false n (paW w) false).word):=by unfold put;rw [if_pos h4]
 rw [e]
 generalize hPp:d.plP s (bI w)=P at *
 generalize hJp:vaJ (bI w)=J at *
 have hJ:0≤J∧J<1024:=by rw [← hJp];exact nJ _
 have hS:(d.mem.write true P J (Mp.mk false n (paW w) false).word).S=d.mem.S:=Mem.aV ..
 have hw:∀x o,(d.ay (·.write true P J (Mp.mk false n (paW w) false).word)).word x o=if x=P∧o=J then(Mp.mk false n (paW w) false).word else d.word x o:=fun x o=>by
  show(d.mem.write true P J (Mp.mk false n (paW w) false).word).aY true x o=_
  by_cases e1:x=P
  ·subst e1
   rw [Mem.cx (show d.mem.has true x=true from(aP o1).1) (by unfold Mem.dq;simp;omega)]
   by_cases e2:o=J
   ·rw [if_pos e2,if_pos ⟨rfl,e2⟩]
   ·rw [if_neg e2,if_neg (fun h9=>e2 h9.2)];rfl
  ·rw [Mem.bL (Ne.symm e1),if_neg (fun h9=>e1 h9.1)];rfl
 have nt:∀x u,u≠4→d.is x u=true→x≠P:=fun x u hu h e9=>by
  have h2:=(aM h).2
  rw [e9,(aP o1).2.1]at h2
  exact hu h2.symm
 have same:∀x o,x≠P→(d.mem.write true P J (Mp.mk false n (paW w) false).word).aY true x o=d.word x o:=fun x o hx=>Mem.bL (Ne.symm hx)
 refine⟨N.ay hS (fun x o h=>same x o (nt x 0 (by omega) h)) (fun x o h _=>same x o (nt x 1 (by omega) h)) (fun x o h _=>same x o (nt x 2 (by omega) h)),?_⟩
 exact T.share o1 s4 o2 rfl h3 (fT ..) (fun x h=>⟨by rw [← g8 hS];exact h,rfl⟩) (fun x u o=>dX hS x u o) hw
theorem tc {d:DB} {s p w n:Int}(G:d.Good)(hS:d.S≤64)(hn:0≤n)(he:d.cH s p w n=0):((d.take p 5 s).ay (·.copy true p false n)).plP s (bI w)=d.plP s (bI w)∧d.of (d.plP s (bI w)) 4 s=true∧d.word (d.plP s (bI w)) (vaJ (bI w))=0∧kW d p 5 s:=by
 obtain⟨_,ht,_,hp⟩:=G.KH hS hn he
 have k:=qN ht
 unfold cH at he
 have h1:¬d.aE s≠0:=by grind
 have h6:d.eD s (bI w)=0:=by grind
 obtain⟨t1,t0,t2,t3,t4⟩:=nO G ht h1
 obtain⟨s1,s2,s3,s4⟩:=jC (vK h6)
 have pf:kQ (d.word (d.tbl s) (vaI (bI w)))=0∧d.of (aW (d.word (d.tbl s) (vaI (bI w)))) 4 s=true:=by simpa [iC]using s3
 obtain⟨o1,o2,o3,_⟩:=qq hp
 obtain⟨u1,_,_,_⟩:=jC o3
 have ww:∀x y,x≠p→((d.take p 5 s).ay (·.copy true p false n)).word x y=d.word x y:=fun x y hx=>by
  show((d.take p 5 s).mem.copy true p false n).aY true x y=_
  rw [Mem.fz (Ne.symm hx),aO];rfl
 have hTb:((d.take p 5 s).ay (·.copy true p false n)).tbl s=d.tbl s:=by
  rw [← t2]
  unfold DB.tbl
  rw [if_pos u1,if_pos t1,ww s 0 k.ne,cJ]
 refine⟨?_,pf.2,s4,k⟩
 unfold plP
 rw [hTb,ww _ _ t3]
theorem yK {d:DB} {s p w n:Int}(N:d.Ens)(T:d.Tbl)(G:d.Good)(R7:d.S≤64)(hn:0≤n)(he:d.cH s p w n=0):(d.bz s p w n).Ens∧(d.bz s p w n).Tbl:=by
 obtain⟨e0,hP,hz,k⟩:=tc G R7 hn he
 obtain⟨_,_,_,hp⟩:=G.KH R7 hn he
 have hM:(Mp.mk true p (paW w) (paX w)).err=0:=(qq hp).2.1
 have e:d.bz s p w n=(d.take p 5 s).aD (((d.take p 5 s).mem.copy true p false n).write true (d.plP s (bI w)) (vaJ (bI w)) (Mp.mk true p (paW w) (paX w)).word):=by
  unfold bz put;rw [if_pos hp,e0];rfl
 rw [e]
 have hJ:=nJ (bI w)
 generalize hPp:d.plP s (bI w)=P at *
 generalize hJp:vaJ (bI w)=J at *
 have Pp:P≠p:=by rintro rfl;have:=(aP hP).2.1;have:=k.fp;omega
 have hS:(((d.take p 5 s).mem.copy true p false n).write true P J (Mp.mk true p (paW w) (paX w)).word).S=(d.take p 5 s).mem.S:=by rw [Mem.aV,Mem.iP]
 have hh:((d.take p 5 s).mem.copy true p false n).has true P=true:=by rw [Mem.jN,aO];exact(aP hP).1
 have hw:∀x o,x≠p→((d.take p 5 s).aD (((d.take p 5 s).mem.copy true p false n).write true P J (Mp.mk true p (paW w) (paX w)).word)).word x o=if x=P∧o=J then(Mp.mk true p (paW w) (paX w)).word else d.word x o:=fun x o hx=>by
  rw [dx]
  by_cases e1:x=P
  ·subst e1
   rw [Mem.cx hh (by unfold Mem.dq;simp;omega)]
   by_cases e2:o=J
   ·rw [if_pos e2,if_pos ⟨rfl,e2⟩]
   ·rw [if_neg e2,if_neg (fun h9=>e2 h9.2),Mem.fz (Ne.symm hx),aO];rfl
  ·rw [Mem.bL (Ne.symm e1),if_neg (fun h9=>e1 h9.1),Mem.fz (Ne.symm hx),aO];rfl
 have nt:∀x u,u≠4→u≠5→(d.take p 5 s).is x u=true→x≠P∧x≠p:=fun x u hu h5 h=>by
  have h2:=(aM h).2
  refine⟨fun e9=>?_,fun e9=>?_⟩
  ·rw [e9,(k.same (aP hP).1 Pp).1,(aP hP).2.1]at h2
   exact hu h2.symm
  ·rw [e9,k.self]at h2
   exact h5 h2.symm
 have same:∀x o,x≠P∧x≠p→(((d.take p 5 s).mem.copy true p false n).write true P J (Mp.mk true p (paW w) (paX w)).word).aY true x o=(d.take p 5 s).word x o:=fun x o hx=>by
  rw [Mem.bL (Ne.symm hx.1),Mem.fz (Ne.symm hx.2)];rfl
 refine⟨(N.take k (by omega)).ay hS (fun x o h=>same x o (nt x 0 (by omega) (by omega) h)) (fun x o h _=>same x o (nt x 1 (by omega) (by omega) h)) (fun x o h _=>same x o (nt x 2 (by omega) (by omega) h)),?_⟩
 refine T.data k hP hJ hz hM rfl rfl ?_ (fun x h=>?_) (fun x u o hu=>?_) hw
 ·show(((d.take p 5 s).mem.copy true p false n).write true P J _).I=_
  rw [fT,Lq,aO]
 ·have h:(d.take p 5 s).is x 1=true:=by rw [← g8 hS];exact h
  rcases k.is (by omega) h with⟨_,h9⟩ | ⟨n,h9⟩
  ·omega
  ·exact⟨h9,(k.same (aM h9).1 n).2.2.1⟩
 ·rw [dX hS]
  exact k.of hu
theorem ik {d:DB} {p t s:Int}(k:kW d p t s)(hs:¬d.aE s≠0):(d.take p t s).aE s=0:=by
 have b:=fO hs
 have w:=k.same k.hs k.ne
 exact bo.2 ⟨by rw [k.eq];exact k.hs,by rw [w.1];exact k.ts,by rw [w.2.2.1];exact b.2.2⟩
theorem jS {kk:List Int} {d:DB} {o:LOp}(ho:o.Ok)(V:d.Val)(hw:d.mem.Wf):(d.call kk o).Val:=by
 suffices h:(d.call kk o).Ens∧(d.call kk o).Tbl from⟨Eu ho V.ua hw,h.1,h.2⟩
 by_cases he:d.bh o=0
 ·have G:=V.ua
  have N:=V.ens
  have T:=V.tab
  have hS:d.S≤64:=hw.2.1
  obtain⟨a1,a2,a3,a4⟩:=ho
  unfold bh at he
  unfold call
  by_cases k1:o.k=1
  ·rw [if_pos k1]at he ⊢
   have k:=KP he
   exact⟨N.space G k,T.space N G k⟩
  ·rw [if_neg k1]at he ⊢
   by_cases k2:o.k=2
   ·rw [if_pos k2]at he ⊢
    have QO:=he
    unfold bM at QO
    have h1:¬d.aE o.a≠0:=by grind
    have h2:¬d.bj o.b≠0:=by grind
    have h3:¬d.bp o.b≠0:=by grind
    have k:=qN (G.nM hS h1 h2 h3 (t:=2) (by omega))
    have v:=rQ (b:=o.c) N T k
    unfold bC
    rw [if_pos he]
    exact qZ (D:=(d.take o.b 2 o.a).ay (·.write true o.b 0 o.c)) v.1 v.2 (lB hw a3 h1 h2 h3).wf (by rw [de (f:=fun m=>m.write true o.b 0 o.c) (Mem.aV ..)];exact ik k h1) a3 (by omega) eB
   ·rw [if_neg k2]at he ⊢
    by_cases k3:o.k=3
    ·rw [if_pos k3]at he ⊢
     have QO:=he
     unfold cN at QO
     have h1:¬d.aE o.a≠0:=by grind
     have h2:¬d.bj o.b≠0:=by grind
     have h3:¬d.bp o.b≠0:=by grind
     have k:=qN (G.nM hS h1 h2 h3 (t:=4) (by omega))
     have v:=uE N T G hS a3.1 he
     unfold dt
     rw [if_pos he]
     exact qZ v.1 v.2 (mX hw h1 h2 h3).wf (by rw [BC];exact ik k h1) a3 (by omega) eB
    ·rw [if_neg k3]at he ⊢
     by_cases k4:o.k=4
     ·rw [if_pos k4]at he ⊢
      have QO:=he
      unfold cH at QO
      have h1:¬d.aE o.a≠0:=by grind
      have h2:¬d.bj o.b≠0:=by grind
      have h3:¬d.bp o.b≠0:=by grind
      have k:=qN (G.nM hS h1 h2 h3 (t:=5) (by omega))
      have v:=yK N T G hS a4.1 he
      have K:Kept d (d.bz o.a o.b o.c o.d) o.a:=pO hw h1 h2 h3
      unfold ez
      rw [if_pos he]
      have e:(d.bz o.a o.b o.c o.d).ay (fun m=>m.msd kk o.a 3 o.c (m.words true o.b.toNat))=(d.bz o.a o.b o.c o.d).ay (fun m=>m.msd kk o.a 3 o.c ((d.bz o.a o.b o.c o.d).mem.words true o.b.toNat)):=by
       unfold ay;rfl
      rw [e]
      exact qZ v.1 v.2 K.wf (by rw [bz,pE,de (f:=fun m=>m.copy true o.b false o.d) (Mem.iP ..)];exact ik k h1) a3 (by omega) (Mem.iu K.wf _ _)
     ·rw [if_neg k4]at he ⊢
      have QO:=he
      unfold cY at QO
      have h1:¬d.aE o.a≠0:=by grind
      have v:=uH N T hw.2.2 a3.1 he
      unfold du
      rw [if_pos he]
      exact qZ v.1 v.2 (mY (s:=o.a) hw).wf (by rw [pE];omega) a2 (by omega) eB
 ·rw [Dj he];exact⟨V.ens,V.tab⟩
theorem tj {d:DB} {o:LOp}(V:d.Val):(d.beside o).Val:=by
 suffices h:(d.beside o).Ens∧(d.beside o).Tbl from⟨yS V.ua,h.1,h.2⟩
 have N:=V.ens
 have T:=V.tab
 unfold beside
 by_cases k6:o.k=6
 ·rw [if_pos k6]
  have hS:(d.mem.write false o.a (o.b % 1024) o.c).S=d.mem.S:=Mem.aV ..
  have pk:∀x y,(d.mem.write false o.a (o.b % 1024) o.c).aY true x y=d.word x y:=fun x y=>Mem.su
  refine⟨N.ay hS (fun x y _=>pk x y) (fun x y _ _=>pk x y) (fun x y _ _=>pk x y),?_⟩
  exact T.frame (fT ..) (fun x h1 h2=>⟨by rw [← g8 hS];exact h1,h2,pk x 0⟩) (fun x p u _ _ _=>by rw [show(d.ay (·.write false o.a (o.b % 1024) o.c)).of p u x=d.of p u x from dX hS p u x]) (fun x p y _ _ _=>pk p y)
 rw [if_neg k6]
 by_cases k7:o.k=7
 ·rw [if_pos k7]
  by_cases hb:d.jk o.a=true
  ·rw [if_pos hb]
   have b0:d.has o.a=true∧(d.at_ o.a).typ=1∧(d.at_ o.a).state=1:=by simpa [jk,and_assoc]using hb
   have hS:(d.mem.wrs o.a 11 (List.replicate 26 0)).S=d.mem.S:=Mem.fP ..
   have TK:d.aE o.a=0:=bo.2 b0
   have pk:∀x y,¬(x=o.a∧11≤y∧y<37)→(d.mem.wrs o.a 11 (List.replicate 26 0)).aY true x y=d.word x y:=fun x y hn=>by
    by_cases e:x=o.a
    ·subst e
     rw [Mem.jG _ _ 11 (show d.mem.has true o.a=true from b0.1) (by omega) (by decide),if_neg (by simp only [List.length_replicate];omega)];rfl
    ·exact eH (Ne.symm e) _ _ _
   have pz:∀y,11≤y→(d.mem.wrs o.a 11 (List.replicate 26 0)).aY true o.a y=0:=fun y hy=>by
    by_cases h37:y<37
    ·rw [Mem.jG _ _ 11 (show d.mem.has true o.a=true from b0.1) (by omega) (by decide),if_pos (by simp only [List.length_replicate];omega),List.getD_eq_getElem?_getD,List.getElem?_replicate]
     split<;>rfl
    ·rw [pk o.a y (by omega)];exact N.high o.a (dZ ⟨b0.1,b0.2.1⟩) y (by omega)
   have ns:∀x u,u≠1→d.is x u=true→x≠o.a:=fun x u hu h e=>by have:=(aM h).2;rw [e]at this;exact hu (this.symm.trans b0.2.1)
   have N1:(d.ay (·.wrs o.a 11 (List.replicate 26 0))).Ens:=N.ay hS (fun x y h=>pk x y (fun h9=>ns x 0 (by omega) h h9.1)) (fun x y h hn=>pk x y (fun h9=>hn ⟨by rw [h9.1];exact TK,h9.2⟩)) (fun x y h _=>pk x y (fun h9=>ns x 2 (by omega) h h9.1))
   refine⟨N1.setState (by omega) (fun _ y hy=>pz y hy) (fun h=>by omega),?_⟩
   refine T.frame ?_ (fun x h1 h2=>?_) (fun x p u h1 h2 hu=>?_) (fun x p y _ _ hp=>?_)
   ·rw [bS];exact Af ..
   ·rw [gw]at h1
    have h1':d.is x 1=true:=by rw [← g8 hS];exact h1
    refine⟨h1',?_,?_⟩
    ·rcases(bK (d:=d.ay (·.wrs o.a 11 (List.replicate 26 0))) (p:=o.a) (s:=2) (aM h1).1).2.2.2.2 with h | ⟨e,h⟩
     ·rw [h]at h2;exact h2
     ·rw [e];omega
    ·rw [bq];exact pk x 0 (by omega)
   ·have ho:∀t y,((d.ay (·.wrs o.a 11 (List.replicate 26 0))).setState o.a 2).of p t y=(d.ay (·.wrs o.a 11 (List.replicate 26 0))).of p t y:=fun t y=>by
     unfold of
     rw [gw]
     cases hp:(d.ay (·.wrs o.a 11 (List.replicate 26 0))).is p t
     ·rfl
     ·rw [(bK (aM hp).1).2.1]
    rw [ho,show(d.ay (·.wrs o.a 11 (List.replicate 26 0))).of p u x=d.of p u x from dX hS p u x]
   ·rw [bq]
    refine pk p y ?_
    rintro⟨rfl,_⟩
    rcases hp with h | h<;>(have:=(aP h).2.1;omega)
  ·rw [if_neg hb];exact⟨N,T⟩
 rw [if_neg k7]
 by_cases k8:o.k=8
 ·rw [if_pos k8]
  refine⟨N.setState (by omega) (fun h=>by omega) (fun _ hi=>?_),?_⟩
  ·rcases N.st o.a hi with s | s | s
   ·exact .inl (V.ua.inv o.a (bo.2 ⟨(aM hi).1,(aM hi).2,s⟩))
   ·exact .inr (N.fin o.a hi s)
   ·exact N.stop o.a hi s
  ·refine T.frame (by rw [bS]) (fun x h1 h2=>?_) (fun x p u h1 h2 hu=>?_) (fun x p y _ _ _=>bq p y)
   ·rw [gw]at h1
    refine⟨h1,?_,bq x 0⟩
    rcases(bK (p:=o.a) (s:=3) (aM h1).1).2.2.2.2 with h | ⟨e,h⟩
    ·rw [h]at h2;exact h2
    ·exact absurd h h2
   ·have ho:(d.setState o.a 3).of p u x=d.of p u x:=by
     unfold of
     rw [gw]
     cases hp:d.is p u
     ·rfl
     ·rw [(bK (aM hp).1).2.1]
    rw [ho]
 rw [if_neg k8]
 by_cases k9:o.k=9
 ·rw [if_pos k9]
  by_cases hg:d.mG o.a=true
  ·rw [if_pos hg]
   have k:=gone hg
   by_cases he:d.cR o.a=0
   ·have e:d.dB o.a=d.aX o.a:=by unfold DB.dB;rw [if_pos he]
    rw [e]
    refine⟨N.dB V.ua k,?_⟩
    refine T.frame ?_ (fun x h1 h2=>?_) (fun x p u h1 h2 hu=>?_) (fun x p y h1 h2 hp=>?_)
    ·rw [lE];unfold Mem.zero;split<;>rfl
    ·obtain⟨n,h⟩:=(k.is (by omega)).1 h1
     rw [(k.same (aM h).1 n).2.2.1]at h2
     exact⟨h,h2,cW n⟩
    ·obtain⟨n,h⟩:=(k.is (by omega)).1 h1
     rw [(k.same (aM h).1 n).2.2.1]at h2
     constructor
     ·intro h9
      obtain⟨a,b,c⟩:=aP h9
      obtain⟨m,q⟩:=(k.is (by omega)).1 (dZ ⟨a,b⟩)
      have w:=k.same (aM q).1 m
      exact fJ ⟨(aM q).1,(aM q).2,by rw [← w.2.1];exact c⟩
     ·intro h9
      obtain⟨a,b,c⟩:=aP h9
      have m:p≠o.a:=by rintro rfl;rw [← c]at h2;exact h2 k.st
      have w:=k.same a m
      exact fJ ⟨by rw [iJ];exact a,by rw [w.1];exact b,by rw [w.2.1];exact c⟩
    ·obtain⟨n,h⟩:=(k.is (by omega)).1 h1
     rw [(k.same (aM h).1 n).2.2.1]at h2
     refine cW ?_
     rintro rfl
     rcases hp with h9 | h9<;>(have c:=(aP h9).2.2;rw [← c]at h2;exact h2 k.st)
   ·have e:d.dB o.a=d:=by unfold DB.dB;rw [if_neg he]
    rw [e];exact⟨N,T⟩
  ·rw [if_neg hg];exact⟨N,T⟩
 ·rw [if_neg k9];exact⟨N,T⟩
end DB
theorem BF(K:List Int)(s:S8)(a b:List U32):cw K s (a++b)=cw K (cw K s a).1 ((cw K s a).2++b):=by
 refine kB (K:=K) (p:=fun s a=>cw K s (a++b)=cw K (cw K s a).1 ((cw K s a).2++b)) (fun s l h=>?_) (fun s l h ih=>?_) _ s a rfl
 ·simp only [dS h]
 ·simp only [eO h]
  rw [eO (by simp;omega),List.take_append_of_le_length h,List.drop_append_of_le_length h,ih]
theorem Dg.Jm {K:List Int} {d:Dg} {a b:List U32}(h:d.n+a.length+b.length≤36028797018963968):(d.add K a).add K b=d.add K (a++b):=by
 unfold Dg.add
 rw [if_neg (show ¬(a.length:Int)>36028797018963968 - d.n by omega),if_neg (show ¬((a++b).length:Int)>36028797018963968 - d.n by rw [List.length_append];omega)]
 simp only
 rw [if_neg (show ¬(b.length:Int)>36028797018963968 - (d.n+a.length)by omega),← List.append_assoc,BF K d.st (d.waits++a) b]
 rw [List.length_append]
 congr 1
 omega
namespace DB
def iB(d:DB)(s:Int):Int:=((List.range d.S).map fun(q:Nat)=>if d.of (q:Int) 4 s then fN (fun j=>d.word (q:Int) j !=0) 1024 else 0).sum
end DB
theorem FO {g:Nat→Int} {b:Int}:∀ {n:Nat},(∀q,q<n→g q≤b)→((List.range n).map g).sum≤b*n
 | 0,_=>by simp
 | n+1,h=>by
  rw [List.range_succ,List.map_append,List.sum_append]
  have h1:=FO (n:=n) fun q hq=>h q (by omega)
  have h2:=h n (by omega)
  simp
  rw [Int.mul_add]
  omega
namespace DB
theorem FT {d:DB} {s:Int}(hS:d.S≤64):d.iB s≤65536:=by
 have:=FO (g:=fun(q:Nat)=>if d.of (q:Int) 4 s then fN (fun j=>d.word (q:Int) j !=0) 1024 else 0) (b:=1024) (n:=d.S) fun q _=>by
  show(if d.of (q:Int) 4 s then _ else _)≤_
  split
  ·exact Di (by omega)
  ·omega
 unfold iB
 omega
theorem K9 {d:DB} {s:Int}(hS:d.S≤64):d.cnt s≤64:=by
 have:d.cnt s≤d.S:=by
  unfold cnt lG
  exact Nat.le_trans (List.length_filter_le _ _) (by rw [List.length_range];exact Nat.le_refl _)
 omega
theorem nQ {g h:Nat→Int}:∀ {n:Nat},(∀q,q<n→g q≤h q)→((List.range n).map g).sum≤((List.range n).map h).sum
 | 0,_=>by simp
 | n+1,hh=>by
  rw [List.range_succ,List.map_append,List.sum_append,List.map_append,List.sum_append]
  have h1:=nQ (n:=n) fun q hq=>hh q (by omega)
  have h2:=hh n (by omega)
  simp;omega
theorem uF {g h:Nat→Int} {a:Nat}:∀ {n:Nat},a<n→g a+1≤h a→(∀q,q<n→g q≤h q)→((List.range n).map g).sum+1≤((List.range n).map h).sum
 | 0,h0,_,_=>by omega
 | n+1,h0,h1,hh=>by
  rw [List.range_succ,List.map_append,List.sum_append,List.map_append,List.sum_append]
  have h2:=hh n (by omega)
  by_cases e:a=n
  ·subst e
   have h3:=nQ (n:=a) fun q hq=>hh q (by omega)
   simp;omega
  ·have h3:=uF (n:=n) (by omega) h1 fun q hq=>hh q (by omega)
   simp;omega
theorem CA {d d':DB} {x q:Int}(h:d.of q 4 x=true→d'.of q 4 x=true∧∀j,0≤j→j<1024→d.word q j≠0→d'.word q j≠0):(if d.of q 4 x then fN (fun j=>d.word q j !=0) 1024 else 0)≤(if d'.of q 4 x then fN (fun j=>d'.word q j !=0) 1024 else 0):=by
 by_cases ho:d.of q 4 x=true
 ·obtain⟨a,b⟩:=h ho
  rw [if_pos ho,if_pos a]
  exact(oD (by omega) fun j j0 j1 hj=>by
   have:=b j j0 j1 (by simpa using hj)
   simpa using this).1
 ·rw [if_neg ho]
  split
  ·exact oE
  ·exact Int.le_refl _
theorem kd {d d':DB} {x:Int}(hS:d'.S=d.S)(h:∀q,d.of q 4 x=true→d'.of q 4 x=true∧∀j,0≤j→j<1024→d.word q j≠0→d'.word q j≠0):d.iB x≤d'.iB x:=by
 unfold iB
 rw [hS]
 exact nQ fun q _=>CA (h q)
theorem AJ {d d':DB} {x P J:Int}(hS:d'.S=d.S)(hP:d.of P 4 x=true)(hJ:0≤J∧J<1024)(hz:d.word P J=0)(hn:d'.word P J≠0)(h:∀q,d.of q 4 x=true→d'.of q 4 x=true∧∀j,0≤j→j<1024→d.word q j≠0→d'.word q j≠0):d.iB x+1≤d'.iB x:=by
 have P0:=ai (aP hP).1
 have Pn:((P.toNat:Nat):Int)=P:=Int.toNat_of_nonneg P0.1
 unfold iB
 rw [hS]
 refine uF (a:=P.toNat) (by omega) ?_ fun q _=>CA (h q)
 rw [Pn]
 obtain⟨a,b⟩:=h P hP
 rw [if_pos hP,if_pos a]
 obtain⟨u,v⟩:=oD (f:=fun j=>d.word P j !=0) (g:=fun j=>d'.word P j !=0) (n:=1024) (by omega) fun j j0 j1 hj=>by
  have:=b j j0 j1 (by simpa using hj)
  simpa using this
 have:fN (fun j=>d.word P j !=0) 1024≠fN (fun j=>d'.word P j !=0) 1024:=fun e=>by
  have:=v e J hJ.1 hJ.2 (by simpa using hn)
  simp [hz]at this
 omega
theorem qX {d:DB} {o:LOp}(V:d.Val)(hw:d.mem.Wf)(ho:o.Ok)(h1:¬o.k=1)(he:d.bh o=0) {q x:Int}(hq:d.of q 4 x=true):(d.pre o).of q 4 x=true∧∀j,d.word q j≠0→(d.pre o).word q j≠0:=by
 have G:=V.ua
 have hS:d.S≤64:=hw.2.1
 have q4:=(aP hq).2.1
 obtain⟨a1,a2,a3,a4⟩:=ho
 unfold bh at he
 rw [if_neg h1]at he
 unfold pre
 by_cases k2:o.k=2
 ·rw [if_pos k2]at he ⊢
  unfold bM at he
  have k:=qN (G.nM hS (s:=o.a) (p:=o.b) (t:=2) (by grind) (by grind) (by grind) (by omega))
  have n:q≠o.b:=by rintro rfl;have:=k.fp;omega
  refine⟨?_,fun j hj=>?_⟩
  ·rw [show((d.take o.b 2 o.a).ay (·.write true o.b 0 o.c)).of q 4 x=(d.take o.b 2 o.a).of q 4 x from dX (Mem.aV ..) q 4 x]
   exact(k.of (by omega)).2 (.inr hq)
  ·show((d.take o.b 2 o.a).mem.write true o.b 0 o.c).aY true q j≠0
   rw [Mem.bL (Ne.symm n),aO];exact hj
 ·rw [if_neg k2]at he ⊢
  by_cases k3:o.k=3
  ·rw [if_pos k3]at he ⊢
   obtain⟨ht,ha⟩:=G.Mv hS a3.1 he
   have k:=qN ht
   have e:=add_eq (d.take o.b 4 o.a) o.a o.c o.b
   have qt:(d.take o.b 4 o.a).of q 4 x=true:=(k.of (by omega)).2 (.inr hq)
   refine⟨?_,fun j hj=>?_⟩
   ·rw [e.1,dX e.2];exact qt
   ·show((d.take o.b 4 o.a).add o.a o.c o.b).mem.aY true q j≠0
    rw [xY (by rw [(aP qt).2.1];decide),aO];exact hj
  ·rw [if_neg k3]at he ⊢
   by_cases k4:o.k=4
   ·rw [if_pos k4]at he ⊢
    obtain⟨e0,hP,hz,k⟩:=tc G hS a4.1 he
    obtain⟨_,_,_,hp⟩:=G.KH hS a4.1 he
    have e:d.bz o.a o.b o.c o.d=(d.take o.b 5 o.a).aD (((d.take o.b 5 o.a).mem.copy true o.b false o.d).write true (d.plP o.a (bI o.c)) (vaJ (bI o.c)) (Mp.mk true o.b (paW o.c) (paX o.c)).word):=by
     unfold bz put;rw [if_pos hp,e0];rfl
    have n:q≠o.b:=by rintro rfl;have:=k.fp;omega
    rw [e]
    have hS2:(((d.take o.b 5 o.a).mem.copy true o.b false o.d).write true (d.plP o.a (bI o.c)) (vaJ (bI o.c)) (Mp.mk true o.b (paW o.c) (paX o.c)).word).S=(d.take o.b 5 o.a).mem.S:=by rw [Mem.aV,Mem.iP]
    refine⟨by rw [dX hS2];exact(k.of (by omega)).2 (.inr hq),fun j hj=>?_⟩
    rw [dx]
    by_cases e1:q=d.plP o.a (bI o.c)
    ·have hh:((d.take o.b 5 o.a).mem.copy true o.b false o.d).has true (d.plP o.a (bI o.c))=true:=by rw [Mem.jN,aO];exact(aP hP).1
     have hJ:=nJ (bI o.c)
     rw [e1,Mem.cx hh (by unfold Mem.dq;simp;omega)]
     by_cases e2:j=vaJ (bI o.c)
     ·rw [e1,e2]at hj;exact absurd hz hj
     ·rw [if_neg e2,← e1,Mem.fz (Ne.symm n),aO];exact hj
    ·rw [Mem.bL (Ne.symm e1),Mem.fz (Ne.symm n),aO];exact hj
   ·rw [if_neg k4]at he ⊢
    obtain⟨_,_,h3,h4⟩:=Good.shares hw.2.2 a3.1 he
    obtain⟨o1,o2,o3,_⟩:=qq h4
    obtain⟨s1,s2,s3,s4⟩:=jC o3
    have e:=put_eq d o.a (bI o.b) (Mp.mk false o.c (paW o.b) false)
    refine⟨by rw [e.1,dX e.2];exact hq,fun j hj=>?_⟩
    show(d.put o.a (bI o.b) (Mp.mk false o.c (paW o.b) false)).mem.aY true q j≠0
    unfold put
    rw [if_pos h4]
    show(d.mem.write true _ _ _).aY true q j≠0
    by_cases e1:q=d.plP o.a (bI o.b)
    ·have hJ:=nJ (bI o.b)
     rw [e1,Mem.cx (show d.mem.has true _=true from(aP o1).1) (by unfold Mem.dq;simp;omega)]
     by_cases e2:j=vaJ (bI o.b)
     ·rw [e1,e2]at hj;exact absurd s4 hj
     ·rw [if_neg e2,← e1];exact hj
    ·rw [Mem.bL (Ne.symm e1)];exact hj
theorem D2 {d:DB} {o:LOp}(hw:d.mem.Wf)(ho:o.Ok)(h:¬o.k=1∧¬o.k=2∧¬o.k=3∧¬o.k=4)(he:d.bh o=0):∃P J,d.of P 4 o.a=true∧(0≤J∧J<1024)∧d.word P J=0∧(d.pre o).word P J≠0:=by
 obtain⟨a1,a2,a3,a4⟩:=ho
 unfold bh at he
 rw [if_neg h.1,if_neg h.2.1,if_neg h.2.2.1,if_neg h.2.2.2]at he
 obtain⟨_,_,h3,h4⟩:=Good.shares hw.2.2 a3.1 he
 obtain⟨o1,o2,o3,_⟩:=qq h4
 obtain⟨s1,s2,s3,s4⟩:=jC o3
 have hJ:=nJ (bI o.b)
 refine⟨d.plP o.a (bI o.b),vaJ (bI o.b),o1,hJ,s4,?_⟩
 unfold pre
 rw [if_neg h.2.1,if_neg h.2.2.1,if_neg h.2.2.2]
 show(d.put o.a (bI o.b) (Mp.mk false o.c (paW o.b) false)).mem.aY true _ _≠0
 unfold put
 rw [if_pos h4]
 show(d.mem.write true _ _ _).aY true _ _≠0
 rw [Mem.cx (show d.mem.has true _=true from(aP o1).1) (by unfold Mem.dq;simp;omega),if_pos rfl]
 exact(vR o2).2.2
theorem vT {d:DB} {o:LOp}(V:d.Val)(hw:d.mem.Wf)(ho:o.Ok)(h1:¬o.k=1)(he:d.bh o=0):
 Kept d (d.pre o) o.a∧(d.pre o).Ens∧(d.pre o).aE o.a=0∧d.aE o.a=0∧(d.pre o).S=d.S∧
 ((o.k=2∨o.k=3∨o.k=4)→((d.pre o).at_ o.a).refs=(d.at_ o.a).refs+1)∧((d.at_ o.a).refs≤((d.pre o).at_ o.a).refs)∧∀x,d.is x 1=true→x≠o.a→(d.pre o).at_ x=d.at_ x:=by
 have G:=V.ua
 have N:=V.ens
 have T:=V.tab
 have hS:d.S≤64:=hw.2.1
 obtain⟨a1,a2,a3,a4⟩:=ho
 unfold bh at he
 rw [if_neg h1]at he
 have tk:∀t,kW d o.b t o.a→(d.take o.b t o.a).S=d.S∧((d.take o.b t o.a).at_ o.a).refs=(d.at_ o.a).refs+1∧∀x,d.is x 1=true→x≠o.a→(d.take o.b t o.a).at_ x=d.at_ x:=fun t k=>by
  refine⟨by rw [k.eq];rfl,?_,fun x hx n=>?_⟩
  ·rw [k.eq,dy k.hp k.hs (ai k.hs).1 k.ne,if_pos rfl]
  ·have Sa:=aM hx
   rw [k.eq,dy k.hp k.hs (ai Sa.1).1 k.ne,if_neg n,if_neg]
   rintro rfl;have:=k.fp;omega
 unfold pre
 by_cases k2:o.k=2
 ·rw [if_pos k2]at he
  simp only [if_pos k2]
  unfold bM at he
  have c1:¬d.aE o.a≠0:=by grind
  have c2:¬d.bj o.b≠0:=by grind
  have c3:¬d.bp o.b≠0:=by grind
  have k:=qN (G.nM hS c1 c2 c3 (t:=2) (by omega))
  obtain⟨e1,e2,e3⟩:=tk 2 k
  exact⟨lB hw a3 c1 c2 c3,(rQ N T k).1,by rw [de (f:=fun m=>m.write true o.b 0 o.c) (Mem.aV ..)];exact ik k c1,by omega,(Mem.aV ..).trans e1,fun _=>e2,by show _≤((d.take o.b 2 o.a).at_ o.a).refs;omega,e3⟩
 ·rw [if_neg k2]at he
  simp only [if_neg k2]
  by_cases k3:o.k=3
  ·rw [if_pos k3]at he
   simp only [if_pos k3]
   have QO:=he
   unfold cN at QO
   have c1:¬d.aE o.a≠0:=by grind
   have c2:¬d.bj o.b≠0:=by grind
   have c3:¬d.bp o.b≠0:=by grind
   have k:=qN (G.nM hS c1 c2 c3 (t:=4) (by omega))
   obtain⟨e1,e2,e3⟩:=tk 4 k
   have e:=add_eq (d.take o.b 4 o.a) o.a o.c o.b
   have ha:∀x,((d.take o.b 4 o.a).add o.a o.c o.b).at_ x=(d.take o.b 4 o.a).at_ x:=fun x=>by rw [e.1];rfl
   exact⟨mX hw c1 c2 c3,(uE N T G hS a3.1 he).1,by rw [BC];exact ik k c1,by omega,e.2.trans e1,fun _=>by rw [ha];exact e2,by rw [ha];omega,fun x hx n=>by rw [ha];exact e3 x hx n⟩
  ·rw [if_neg k3]at he
   simp only [if_neg k3]
   by_cases k4:o.k=4
   ·rw [if_pos k4]at he
    simp only [if_pos k4]
    have QO:=he
    unfold cH at QO
    have c1:¬d.aE o.a≠0:=by grind
    have c2:¬d.bj o.b≠0:=by grind
    have c3:¬d.bp o.b≠0:=by grind
    have k:=qN (G.nM hS c1 c2 c3 (t:=5) (by omega))
    obtain⟨e1,e2,e3⟩:=tk 5 k
    have e:=put_eq ((d.take o.b 5 o.a).ay (·.copy true o.b false o.d)) o.a (bI o.c) (Mp.mk true o.b (paW o.c) (paX o.c))
    have ha:∀x,(d.bz o.a o.b o.c o.d).at_ x=(d.take o.b 5 o.a).at_ x:=fun x=>by unfold bz;rw [e.1];rfl
    exact⟨pO hw c1 c2 c3,(yK N T G hS a4.1 he).1,by rw [bz,pE,de (f:=fun m=>m.copy true o.b false o.d) (Mem.iP ..)];exact ik k c1,by omega,(e.2.trans (Mem.iP ..)).trans e1,fun _=>by rw [ha];exact e2,by rw [ha];omega,fun x hx n=>by rw [ha];exact e3 x hx n⟩
   ·rw [if_neg k4]at he
    simp only [if_neg k4]
    have QO:=he
    unfold cY at QO
    have c1:¬d.aE o.a≠0:=by grind
    have e:=put_eq d o.a (bI o.b) (Mp.mk false o.c (paW o.b) false)
    have ha:∀x,(d.put o.a (bI o.b) (Mp.mk false o.c (paW o.b) false)).at_ x=d.at_ x:=fun x=>by rw [e.1];rfl
    exact⟨mY hw,(uH N T hw.2.2 a3.1 he).1,by rw [pE];omega,by omega,e.2,fun h=>by omega,by rw [ha];exact Int.le_refl _,fun x _ _=>ha x⟩
structure Run(kk:List Int)(d:DB)(s:Int)(W:List U32):Prop where
 dg:d.aE s=0→Dg.load (d.mem.dgW s)=Dg.new.add kk W
 len:d.aE s=0→(W.length:Int)≤1026*d.cnt s+2*d.iB s
 ok:dP W
theorem Run.few {kk:List Int} {d:DB} {s:Int} {W:List U32}(R:Run kk d s W)(hS:d.S≤64)(h:d.aE s=0):(W.length:Int)≤196736:=by
 have:=R.len h
 have:=FT (s:=s) hS
 have:=K9 (s:=s) hS
 omega
theorem Run.steady {kk:List Int} {d D:DB} {x:Int} {W:List U32}(R:Run kk d x W)(h:D.aE x=0→d.aE x=0∧D.mem.dgW x=d.mem.dgW x∧d.cnt x≤D.cnt x∧d.iB x≤D.iB x):Run kk D x W:=
 ⟨fun hx=>by obtain⟨a,b,_,_⟩:=h hx;rw [b];exact R.dg a,fun hx=>by obtain⟨a,_,c,e⟩:=h hx;have:=R.len a;omega,R.ok⟩
def ki(d:DB)(o:LOp):List U32:=if o.k=4 then opW 3 o.c (d.mem.words false o.d.toNat)else opW (opK o) (opA o) []
theorem oJ {kk:List Int} {d:DB} {o:LOp}(ho:o.Ok)(h1:¬o.k=1)(he:d.bh o=0):∃k a l,d.call kk o=(d.pre o).ay (fun m=>m.msd kk o.a k a l)∧opW k a l=ki (d.pre o) o∧(0≤a∧a<4294967296)∧(k=1∨k=2∨k=3∨k=4)∧(o.k=4→l=(d.pre o).mem.words false o.d.toNat)∧(¬o.k=4→l= []):=by
 by_cases h4:o.k=4
 ·exact⟨3,o.c,_,(vd h4 ho he).1,by unfold ki;rw [if_pos h4],ho.2.2.1,by omega,fun _=>rfl,fun h=>absurd h4 h⟩
 ·refine⟨opK o,opA o,[],G8 h1 h4 he,by unfold ki;rw [if_neg h4],?_,?_,fun h=>absurd h h4,fun _=>rfl⟩
  ·unfold opA;have:=ho;unfold LOp.Ok at this;split;omega;split<;>omega
  ·unfold opK;split;omega;split<;>omega
theorem gC {d:DB}(N:d.Ens) {x:Int}(h:d.aE x=0):(d.at_ x).refs=d.cnt x:=N.refs x (dZ ⟨(bo.1 h).1,(bo.1 h).2.1⟩)
theorem Run.other {kk:List Int} {d:DB} {o:LOp} {x:Int} {W:List U32}(R:Run kk d x W)(V:d.Val)(hw:d.mem.Wf)(ho:o.Ok)(h1:¬o.k=1)(he:d.bh o=0)(n:x≠o.a):Run kk (d.call kk o) x W:=by
 obtain⟨K,N,b1,b0,hS,r1,r2,ha⟩:=vT V hw ho h1 he
 obtain⟨k,a,l,e,_⟩:=oJ (kk:=kk) ho h1 he
 have V':=jS (kk:=kk) ho V hw
 refine R.steady fun hx=>?_
 have Sa:=hx
 rw [e,de (f:=fun m=>Mem.msd kk m o.a k a l) (Mem.gS ..) x]at hx
 obtain⟨u,v⟩:=K.bd x hx
 refine⟨u,?_,?_,?_⟩
 ·rw [e]
  show((d.pre o).mem.msd kk o.a k a l).dgW x=_
  rw [Mem.Da (Ne.symm n),v]
 ·have c1:=gC V'.ens Sa
  have c0:=gC V.ens u
  have ea:(d.call kk o).at_ x=d.at_ x:=by rw [e];exact ha x (dZ ⟨(bo.1 u).1,(bo.1 u).2.1⟩) n
  rw [ea]at c1;omega
 ·have hS':(d.call kk o).S=d.S:=by rw [e];exact(Mem.gS ..).trans hS
  refine kd hS' fun q hq=>?_
  obtain⟨p1,p2⟩:=qX V hw ho h1 he hq
  refine⟨by rw [e];rw [show((d.pre o).ay (fun m=>m.msd kk o.a k a l)).of q 4 x=(d.pre o).of q 4 x from dX (Mem.gS ..) q 4 x];exact p1,fun j _ _ hj=>?_⟩
  obtain⟨_,_,_,e',_,a3,a4,a5,a6⟩:=oJ (kk:=kk) ho h1 he
  rw [e']
  show((d.pre o).mem.msd kk o.a _ _ _).aY true q j≠0
  rw [sr K.wf (bo.1 b1).1 a3 a4 (by
   by_cases h4:o.k=4
   ·rw [a5 h4];exact Mem.iu K.wf _ _
   ·rw [a6 h4];exact eB) (by
   rintro⟨rfl,_⟩
   have:=(aP p1).2.1;have:=(bo.1 b1).2.1;omega)]
  exact p2 j hj
theorem II {d:DB} {o:LOp}(hw:d.mem.Wf)(ho:o.Ok):dP (ki d o):=by
 unfold ki
 split
 ·exact lu ho.2.2.1 (by omega) (Mem.iu hw _ _)
 ·refine lu ?_ ?_ eB
  ·unfold opA;have:=ho;unfold LOp.Ok at this;split;omega;split<;>omega
  ·unfold opK;split;omega;split<;>omega
theorem Gj {d:DB} {o:LOp}:(ki d o).length=if o.k=4 then 1026 else 2:=by
 unfold ki opW
 split
 ·simp [Mem.words]
 ·rfl
theorem Run.self {kk:List Int} {d:DB} {o:LOp} {W:List U32}(R:Run kk d o.a W)(V:d.Val)(hw:d.mem.Wf)(ho:o.Ok)(h1:¬o.k=1)(he:d.bh o=0)(hk:1≤o.k∧o.k≤5):Run kk (d.call kk o) o.a (W++ki (d.pre o) o):=by
 obtain⟨K,N,b1,b0,hS,r1,r2,ha⟩:=vT V hw ho h1 he
 obtain⟨k,a,l,e,ew,a3,a4,a5,a6⟩:=oJ (kk:=kk) ho h1 he
 have V':=jS (kk:=kk) ho V hw
 have hl:dP l:=by
  by_cases h4:o.k=4
  ·rw [a5 h4];exact Mem.iu K.wf _ _
  ·rw [a6 h4];exact eB
 have R7:d.S≤64:=hw.2.1
 have few:=R.few R7 b0
 have L:=Gj (d:=d.pre o) (o:=o)
 have Ll:(ki (d.pre o) o).length≤1026:=by rw [L];split<;>omega
 have hS':(d.call kk o).S=d.S:=by rw [e];exact(Mem.gS ..).trans hS
 have word':∀q j,(d.pre o).of q 4 o.a=true→(d.call kk o).word q j=(d.pre o).word q j:=fun q j hq=>by
  rw [e]
  show((d.pre o).mem.msd kk o.a k a l).aY true q j=_
  rw [sr K.wf (bo.1 b1).1 a3 a4 hl (by rintro⟨rfl,_⟩;have:=(aP hq).2.1;have:=(bo.1 b1).2.1;omega)];rfl
 have of':∀q,(d.call kk o).of q 4 o.a=(d.pre o).of q 4 o.a:=fun q=>by rw [e];exact dX (Mem.gS ..) q 4 o.a
 refine⟨fun hx=>?_,fun hx=>?_,fun x hx=>?_⟩
 ·have h0:Dg.aw ((d.pre o).mem.dgW o.a)=0:=Gc V.ua h1 he
  have hd:(d.pre o).mem.dgW o.a=d.mem.dgW o.a:=(K.bd o.a b1).2
  have F:=Dg.lI (K:=kk) (l:=opW k a l) (Dg.eo (Mem.jn K.wf o.a) h0) (lu a3 a4 hl)
  have M:=(Mem.yh (kk:=kk) K.wf (bo.1 b1).1 h0 a3 a4 hl).2
  rw [e]
  show Dg.load (((d.pre o).mem.msd kk o.a k a l).dgW o.a)=_
  rw [M,(Dg.ml F).2,hd,R.dg b0,ew]
  exact Dg.Jm (by show(0:Int)+_+_≤_;omega)
 ·have c1:=gC V'.ens hx
  have c0:=gC V.ens b0
  have ea:((d.call kk o).at_ o.a).refs=((d.pre o).at_ o.a).refs:=by rw [e];rfl
  rw [ea]at c1
  have sm:d.iB o.a≤(d.call kk o).iB o.a:=kd hS' fun q hq=>by
   obtain⟨p1,p2⟩:=qX V hw ho h1 he hq
   exact⟨by rw [of'];exact p1,fun j _ _ hj=>by rw [word' q j p1];exact p2 j hj⟩
  have R0:=R.len b0
  rw [List.length_append,L]
  by_cases h4:o.k=4
  ·rw [if_pos h4]
   have:=r1 (by omega)
   omega
  ·rw [if_neg h4]
   by_cases h23:o.k=2∨o.k=3
   ·have:=r1 (by omega)
    omega
   ·obtain⟨P,J,p1,p2,p3,p4⟩:=D2 hw ho ⟨h1,by omega,by omega,h4⟩ he
    have pp:=(qX V hw ho h1 he p1).1
    have:=AJ (d':=d.call kk o) (x:=o.a) hS' p1 p2 p3 (by rw [word' P J pp];exact p4) fun q hq=>by
     obtain⟨u1,u2⟩:=qX V hw ho h1 he hq
     exact⟨by rw [of'];exact u1,fun j _ _ hj=>by rw [word' q j u1];exact u2 j hj⟩
    omega
 ·rcases List.mem_append.1 hx with h | h
  ·exact R.ok x h
  ·exact II K.wf ho x h
theorem Dg.IQ(kk:List Int):Dg.new.add kk []=Dg.new:=by
 unfold Dg.add
 rw [if_neg (by decide)]
 rw [dS (by simp [Dg.new])]
 rfl
theorem Run.space {kk:List Int} {d D:DB} {s f:Int}(k:tI d D s f)(hd:D.mem.dgW s=Dg.new.save.map U32.mk):Run kk D s []:=
 ⟨fun _=>by rw [hd,(Dg.ml Dg.ye).2,Dg.IQ],fun _=>by
  have:0≤D.iB s:=by
   have:=nQ (g:=fun _=>0) (h:=fun(q:Nat)=>if D.of (q:Int) 4 s then fN (fun j=>D.word (q:Int) j !=0) 1024 else 0) (n:=D.S) fun q _=>by
    show(0:Int)≤if D.of (q:Int) 4 s then _ else _
    split
    ·exact oE
    ·exact Int.le_refl _
   have z:((List.range D.S).map (fun _=>(0:Int))).sum=0:=by
    generalize D.S=n
    induction n with
    | zero=>rfl
    | succ n ih=>rw [List.range_succ,List.map_append,List.sum_append,ih];rfl
   unfold iB;omega
  simp;omega,eB⟩
theorem FR {d:DB} {s f:Int}(he:d.cn s f=0):(d.bx s f).mem.dgW s=Dg.new.save.map U32.mk:=by
 have k:=KP he
 have e:d.bx s f=(d.aJ s f).ay (·.wrs s 11 Dg.new.save):=by unfold bx;rw [if_pos he]
 have hs:(d.aJ s f).mem.has true s=true:=by
  have:=(k.hh s).trans k.hs
  rw [e]at this
  have h2:((d.aJ s f).mem.wrs s 11 Dg.new.save).has true s=true:=this
  rwa [Mem.jl]at h2
 rw [e]
 exact Mem.sZ hs (Dg.gx Dg.ju)
theorem Run.MZ {kk:List Int} {d D:DB} {s f x:Int} {W:List U32}(R:Run kk d x W)(V:d.Val)(VD:D.Val)(k:tI d D s f)(n:x≠s):Run kk D x W:=by
 refine R.steady fun hx=>?_
 have b:=bo.1 hx
 have b1:d.has x=true:=by rw [← k.hh];exact b.1
 have ha:=k.hat x (ai b1).1
 have nf:x≠f:=by rintro rfl;rw [ha,if_pos rfl]at b;cases b.2.1
 rw [if_neg nf,if_neg n]at ha
 have u:d.aE x=0:=bo.2 ⟨b1,by rw [← ha];exact b.2.1,by rw [← ha];exact b.2.2⟩
 refine⟨u,k.dg x n,?_,?_⟩
 ·have c1:=gC VD.ens hx
  have c0:=gC V.ens u
  rw [ha]at c1;omega
 ·refine kd k.hS fun q hq=>?_
  have q1:=aP hq
  have w:=k.same q1.1 (by omega)
  exact⟨(k.of V.ens V.ua (by omega) (by omega)).2 (.inr ⟨hq,n⟩),fun j _ _ hj=>by rw [k.wo q j w.2.1];exact hj⟩
theorem Run.beside {kk:List Int} {d:DB} {o:LOp} {x:Int} {W:List U32}(R:Run kk d x W)(V:d.Val):Run kk (d.beside o) x W:=by
 have VD:=tj (o:=o) V
 refine R.steady fun hx=>?_
 have c1:=gC VD.ens hx
 have key:d.aE x=0∧(d.beside o).mem.dgW x=d.mem.dgW x∧((d.beside o).at_ x).refs=(d.at_ x).refs∧(d.beside o).S=d.S∧∀q,d.of q 4 x=true→(d.beside o).of q 4 x=true∧∀j,d.word q j≠0→(d.beside o).word q j≠0:=by
  clear c1 VD
  revert hx
  unfold DB.beside
  by_cases k6:o.k=6
  ·rw [if_pos k6]
   intro hx
   rw [de (f:=fun m=>m.write false o.a (o.b % 1024) o.c) (Mem.aV ..)]at hx
   refine⟨hx,Mem.Db,rfl,Mem.aV ..,fun q hq=>⟨by rw [show(d.ay (·.write false o.a (o.b % 1024) o.c)).of q 4 x=d.of q 4 x from dX (Mem.aV ..) q 4 x];exact hq,fun j hj=>?_⟩⟩
   show(d.mem.write false o.a (o.b % 1024) o.c).aY true q j≠0
   rw [Mem.su];exact hj
  rw [if_neg k6]
  by_cases k7:o.k=7
  ·rw [if_pos k7]
   by_cases hb:d.jk o.a=true
   ·rw [if_pos hb]
    intro hx
    have b0:d.has o.a=true∧(d.at_ o.a).typ=1∧(d.at_ o.a).state=1:=by simpa [jk,and_assoc]using hb
    have n:x≠o.a:=fun e=>by
     refine mC (d:=d.ay (·.wrs o.a 11 (List.replicate 26 0))) (p:=o.a) ?_ (e▸hx)
     unfold jk at hb ⊢
     have:(d.ay fun m=>m.wrs o.a 11 (List.replicate 26 0)).has o.a=d.has o.a:=Mem.jl o.a true o.a (List.replicate 26 0) d.mem 11
     rw [this];exact hb
    have Q1:=fw (by omega) hx
    rw [de (f:=fun m=>m.wrs o.a 11 (List.replicate 26 0)) (Mem.fP ..)]at Q1
    have hxh:(d.ay (·.wrs o.a 11 (List.replicate 26 0))).has x=true:=by
     have:=(bo.1 Q1).1
     rw [show(d.ay (·.wrs o.a 11 (List.replicate 26 0))).has x=d.has x from Mem.jl o.a true x (List.replicate 26 0) d.mem 11];exact this
    refine⟨Q1,?_,?_,?_,fun q hq=>⟨?_,fun j hj=>?_⟩⟩
    ·rw [bS];exact Mem.oy (Ne.symm n) _ _ _
    ·rw [(bK hxh).2.2.1];rfl
    ·show(DB.setState _ _ _).mem.S=_;rw [bS];exact Mem.fP ..
    ·have hS:(d.mem.wrs o.a 11 (List.replicate 26 0)).S=d.mem.S:=Mem.fP ..
     have h1:(d.ay (·.wrs o.a 11 (List.replicate 26 0))).of q 4 x=true:=by
      rw [show(d.ay (·.wrs o.a 11 (List.replicate 26 0))).of q 4 x=d.of q 4 x from dX hS q 4 x];exact hq
     obtain⟨a,b,c⟩:=aP h1
     have w:=bK (p:=o.a) (s:=2) a
     exact fJ ⟨by rw [gW];exact a,by rw [w.1];exact b,by rw [w.2.1];exact c⟩
    ·rw [bq]
     show(d.mem.wrs o.a 11 (List.replicate 26 0)).aY true q j≠0
     rw [eH (by rintro rfl;have:=(aP hq).2.1;omega)];exact hj
   ·rw [if_neg hb];exact fun hx=>⟨hx,rfl,rfl,rfl,fun q hq=>⟨hq,fun j hj=>hj⟩⟩
  rw [if_neg k7]
  by_cases k8:o.k=8
  ·rw [if_pos k8]
   intro hx
   have Q1:=fw (by omega) hx
   have w:=bK (p:=o.a) (s:=3) (bo.1 Q1).1
   refine⟨Q1,by rw [bS],w.2.2.1,by show(DB.setState _ _ _).mem.S=_;rw [bS];rfl,fun q hq=>⟨?_,fun j hj=>by rw [bq];exact hj⟩⟩
   obtain⟨a,b,c⟩:=aP hq
   have w:=bK (p:=o.a) (s:=3) a
   exact fJ ⟨by rw [gW];exact a,by rw [w.1];exact b,by rw [w.2.1];exact c⟩
  rw [if_neg k8]
  by_cases k9:o.k=9
  ·rw [if_pos k9]
   by_cases hg:d.mG o.a=true
   ·rw [if_pos hg]
    have k:=gone hg
    by_cases he:d.cR o.a=0
    ·have e:d.dB o.a=d.aX o.a:=by unfold DB.dB;rw [if_pos he]
     rw [e]
     intro hx
     have b:=bo.1 hx
     obtain⟨n,h⟩:=(k.is (by omega)).1 (dZ ⟨b.1,b.2.1⟩)
     have w:=k.same (aM h).1 n
     have st:(d.at_ x).state=1:=by rw [← w.2.2.1];exact b.2.2
     have no:x≠(d.at_ o.a).owner:=by rintro rfl;rw [k.st]at st;omega
     refine⟨bo.2 ⟨(aM h).1,(aM h).2,st⟩,?_,?_,sP,fun q hq=>?_⟩
     ·rw [lE];exact Mem.sY (Ne.symm n)
     ·rw [jm k.hp k.ho (ai (aM h).1).1,if_neg n,if_neg (fun h9=>no h9.1)]
     ·obtain⟨a,b,c⟩:=aP hq
      have m:q≠o.a:=by rintro rfl;exact no c.symm
      have w:=k.same a m
      exact⟨fJ ⟨by rw [iJ];exact a,by rw [w.1];exact b,by rw [w.2.1];exact c⟩,fun j hj=>by rw [cW m];exact hj⟩
    ·have e:d.dB o.a=d:=by unfold DB.dB;rw [if_neg he]
     rw [e];exact fun hx=>⟨hx,rfl,rfl,rfl,fun q hq=>⟨hq,fun j hj=>hj⟩⟩
   ·rw [if_neg hg];exact fun hx=>⟨hx,rfl,rfl,rfl,fun q hq=>⟨hq,fun j hj=>hj⟩⟩
  ·rw [if_neg k9];exact fun hx=>⟨hx,rfl,rfl,rfl,fun q hq=>⟨hq,fun j hj=>hj⟩⟩
 obtain⟨u,v,r,hS,t⟩:=key
 have c0:=gC V.ens u
 exact⟨u,v,by rw [r]at c1;omega,kd hS fun q hq=>⟨(t q hq).1,fun j _ _ hj=>(t q hq).2 j hj⟩⟩
end DB
end Go.Proofs.YtinhphjfnedhgaaGreatDoor
namespace Go.Proofs.YtinhphjfnedhgaaGreatDoor
open Go.Proofs.Tryz (prog)
open Go Go.RowKit V
open Go.IntKind (i64 u32 u64)
section
set_option maxRecDepth 100000
def tF(opsA:Option Addr)(opsN:Nat)(opsC:Nat)(R:aC)(w:World):Prop:=
 ∃S3:Option Addr,∃RW:Nat,∃T7:Nat,∃wv,(Instr.makeSlice 230 (.int .i64 0) (.int .i64 ((opsN:Nat):Int)):Sem Value).run prog w= .ok (.slice S3 RW T7) wv∧
 ∀n:Int,n=0→
 ∃I:Nat→Option Addr→Nat→Nat→Int→Int→World→Prop,(∃m,I m S3 RW T7 n 0 wv)∧∀(m:Nat)(QQ:Nat→Value)(piecesA:Option Addr)(piecesN:Nat)(piecesC:Nat)(n1:Int)(Qb:Int),∀M5,I m piecesA piecesN piecesC n1 Qb M5→
 split (decide ((Qb:Int)<((opsN:Nat):Int))) (
  (0≤(Qb:Int)∧(Qb:Int)<((opsN:Nat):Int))∧
  au opsA fun ZK=>
  ∃YZ:Int,∃YY:Int,∃x21cA:Option Addr,∃x21cN:Nat,∃x21cC:Nat,(M5.cell? ((ZK.add (Int.toNat Qb*3)).add 0)=some (.int .i64 YZ)∧M5.cell? ((ZK.add (Int.toNat Qb*3)).add 1)=some (.int .u32 YY)∧M5.cell? ((ZK.add (Int.toNat Qb*3)).add 2)=some (.slice x21cA x21cN x21cC))∧
  ∀(Nc:Nat)(M8:World),Nc=M5.heap.size→M8=M5.alloc (.cells (#[(.int .i64 0),(.int .u32 0),(.slice none 0 0)]) 64)→
  aF M8 (Addr.mk Nc 0 none) [(.int .i64 YZ),(.int .u32 YY),(.slice x21cA x21cN x21cC)] fun Nb=>
  ∃YU:Int,∃YT:Int,∃x23cA:Option Addr,∃x23cN:Nat,∃x23cC:Nat,(Nb.cell? ((Addr.mk Nc 0 none).add 0)=some (.int .i64 YU)∧Nb.cell? ((Addr.mk Nc 0 none).add 1)=some (.int .u32 YT)∧Nb.cell? ((Addr.mk Nc 0 none).add 2)=some (.slice x23cA x23cN x23cC))∧
  Calls prog 134 #[(.agg #[(.int .i64 YU),(.int .u32 YT),(.slice x23cA x23cN x23cC)])] Nb fun e Nf=>
  ∃TY:Value,∃Vm:Int,e= .returned (.tuple #[TY,(.int .i64 Vm)])∧
  split ((Vm:Int) !=0) (
   R (.tuple #[(.slice none 0 0),(.int .i64 Vm)]) Nf) (
   Value.oneCell' TY=true∧
   ∀(N8:Nat)(Np:World),N8=Nf.heap.size→Np=Nf.alloc (.cells #[TY] 218)→
   ∃SJ:Option Addr,∃SH:Nat,∃SI:Nat,∃NK,(Builtin.append_ #[230,230] 230 #[(.slice piecesA piecesN piecesC),(.slice (some (Addr.mk N8 0 none)) 1 1)]:Sem Value).run prog Np= .ok (.slice SJ SH SI) NK∧
   Calls prog 139 #[TY] NK fun e NG=>
   ∃UA:Int,e= .returned (.int .i64 UA)∧
   ∀n2:Int,n2=(i64.wrap (n1+UA))→
   ∃m1,m1<m∧I m1 SJ SH SI n2 (i64.wrap (Qb+1)) NG)) (
  split (decide ((n1:Int)>262144)) (
   R (.tuple #[(.slice none 0 0),(.int .i64 2)]) M5) (
   ∃Yh:Option Addr,∃Yf:Nat,∃Yg:Nat,∃M8,(Instr.makeSlice 62 (.int .i64 0) (.int .i64 n1):Sem Value).run prog M5= .ok (.slice Yh Yf Yg) M8∧
   ∃I1:Nat→Option Addr→Nat→Nat→Int→World→Prop,(∃m2,I1 m2 Yh Yf Yg 0 M8)∧∀(m2:Nat)(NR:Nat→Value)(outA:Option Addr)(outN:Nat)(outC:Nat)(RG:Int),∀Nb,I1 m2 outA outN outC RG Nb→
   split (decide ((RG:Int)<((piecesN:Nat):Int))) (
    (0≤(RG:Int)∧(RG:Int)<((piecesN:Nat):Int))∧
    au piecesA fun p47=>
    ∃Ux:Value,Nb.cell? (p47.add (Int.toNat RG*1))=some Ux∧
    Ki prog aL Ux "warden/measure.lay" #[(.slice outA outN outC)] Nb fun e Nf=>
    ∃XQ:Option Addr,∃XO:Nat,∃XP:Nat,e= .returned (.slice XQ XO XP)∧
    ∃m3,m3<m2∧I1 m3 XQ XO XP (i64.wrap (RG+1)) Nf) (
    R (.tuple #[(.slice outA outN outC),(.int .i64 0)]) Nb)))
def BW:Ann:=(.node none .leaf (.node none .leaf (.node none .leaf (.node none (.node none .leaf (.node none (.node (some ⟨[(4,.one (.slice)),(5,.one (.int .i64)),(18,.one (.int .i64))],[2,3,4,5,7,8,9,18,19,20,21,22,23,24,25,26,27,28,29,30,31,32,33,34,35,36,37,38]⟩) .leaf .leaf) .leaf)) (.node none .leaf (.node none .leaf (.node none (.node none .leaf (.node none (.node (some ⟨[(10,.one (.slice)),(45,.one (.int .i64))],[10,12,45,46,47,48,49,50,51,52]⟩) .leaf .leaf) .leaf)) .leaf)))))))
theorem QEncode_eq(opsA:Option Addr)(opsN:Nat)(opsC:Nat)(R:aC)(w:World):tF opsA opsN opsC R w=vcF prog aL [4,5] Tryz.f72 BW [(.slice opsA opsN opsC)] R none w:=by kernel_rfl
theorem um(opsA:Option Addr)(opsN:Nat)(opsC:Nat) {R:aC} {w:World}(h:tF opsA opsN opsC R w):Calls prog 72 #[(.slice opsA opsN opsC)] w fun e w'=>∃v,e= .returned v∧R v w':=
 aj Tryz.func72 ar aa ((QEncode_eq opsA opsN opsC R w).mp h)
def qF(oa:Int)(ob:Int)(ocA:Option Addr)(ocN:Nat)(ocC:Nat)(R:aC)(w:World):Prop:=
 ∀(gv:Nat)(wv:World),gv=w.heap.size→wv=w.alloc (.cells #[(.int .i64 oa),(.int .u32 ob),(.slice ocA ocN ocC)] 64)→
 ∃J:Bool→World→Prop,(
  ∃x6:Int,wv.cell? ((Addr.mk gv 0 none).add 0)=some (.int .i64 x6)∧
  split ((x6:Int)==3) (
   ∃Rq:Option Addr,∃QX:Nat,∃RX:Nat,wv.cell? ((Addr.mk gv 0 none).add 2)=some (.slice Rq QX RX)∧
   ∀x4:Bool,x4=((((QX:Nat):Int):Int)==1024)→
   J x4 wv) (
   ∀x4:Bool,x4=false→
   J x4 wv))∧∀(NR:Nat→Value)(x4:Bool),∀M5,J x4 M5→
 split x4 (
  ∃Qi:Int,M5.cell? ((Addr.mk gv 0 none).add 1)=some (.int .u32 Qi)∧
  ∃S0:Option Addr,∃SY:Nat,∃SZ:Nat,M5.cell? ((Addr.mk gv 0 none).add 2)=some (.slice S0 SY SZ)∧
  R (.tuple #[(.iface 258 (.agg #[(.int .u32 Qi),(.slice S0 SY SZ)])),(.int .i64 0)]) M5) (
  ∃J1:Bool→World→Prop,(
   ∃O7:Int,M5.cell? ((Addr.mk gv 0 none).add 0)=some (.int .i64 O7)∧
   split (decide ((O7:Int)≥1)) (
    ∃Qh:Int,M5.cell? ((Addr.mk gv 0 none).add 0)=some (.int .i64 Qh)∧
    split (decide ((Qh:Int)<5)) (
     ∃SK:Int,M5.cell? ((Addr.mk gv 0 none).add 0)=some (.int .i64 SK)∧
     split ((SK:Int) !=3) (
      ∃SG:Option Addr,∃RU:Nat,∃SF:Nat,M5.cell? ((Addr.mk gv 0 none).add 2)=some (.slice SG RU SF)∧
      ∀NU:Bool,NU=((((RU:Nat):Int):Int)==0)→
      J1 NU M5) (
      ∀NU:Bool,NU=false→
      J1 NU M5)) (
     ∀NU:Bool,NU=false→
     J1 NU M5)) (
    ∀NU:Bool,NU=false→
    J1 NU M5))∧∀(Oq:Nat→Value)(NU:Bool),∀M8,J1 NU M8→
  split NU (
   ∃x41:Int,M8.cell? ((Addr.mk gv 0 none).add 0)=some (.int .i64 x41)∧
   ∃Pg:Int,M8.cell? ((Addr.mk gv 0 none).add 1)=some (.int .u32 Pg)∧
   R (.tuple #[(.iface 260 (.agg #[(.int .i64 x41),(.int .u32 Pg)])),(.int .i64 0)]) M8) (
   R (.tuple #[.nilIface,(.int .i64 150)]) M8))
def zl:Ann:=(.node none .leaf (.node none (.node none (.node none (.node (some ⟨[(4,.one (.bool))],[4,5,6,7,8,9,10,11,12,13]⟩) .leaf .leaf) (.node none .leaf (.node none (.node (some ⟨[(20,.one (.bool))],[20,21,22,23,24,25,26,27,28,29,30,31,32,33,34,35,36,37,38,39]⟩) .leaf .leaf) .leaf))) .leaf) .leaf))
theorem QPieceOf_eq(oa:Int)(ob:Int)(ocA:Option Addr)(ocN:Nat)(ocC:Nat)(R:aC)(w:World):qF oa ob ocA ocN ocC R w=vcF prog aL [4,20] Tryz.f134 zl [(.agg #[(.int .i64 oa),(.int .u32 ob),(.slice ocA ocN ocC)])] R none w:=by kernel_rfl
theorem tD(oa:Int)(ob:Int)(ocA:Option Addr)(ocN:Nat)(ocC:Nat) {R:aC} {w:World}(h:qF oa ob ocA ocN ocC R w):Calls prog 134 #[(.agg #[(.int .i64 oa),(.int .u32 ob),(.slice ocA ocN ocC)])] w fun e w'=>∃v,e= .returned v∧R v w':=
 aj Tryz.func134 ar aa ((QPieceOf_eq oa ob ocA ocN ocC R w).mp h)
def oQ(sa:Int)(sb:Int)(outA:Option Addr)(outN:Nat)(outC:Nat)(R:aC)(w:World):Prop:=
 ∀(gv:Nat)(wv:World),gv=w.heap.size→wv=w.alloc (.cells #[(.int .i64 sa),(.int .u32 sb)] 260)→
 ∃x7:Int,wv.cell? ((Addr.mk gv 0 none).add 0)=some (.int .i64 x7)∧
 ∃NW:Int,wv.cell? ((Addr.mk gv 0 none).add 1)=some (.int .u32 NW)∧
 ∀(Nc:Nat)(M5:World),Nc=wv.heap.size→M5=wv.alloc (.cells #[(.int .u32 (u32.wrap x7)),(.int .u32 NW)] 29)→
 ∃Px:Option Addr,∃Qc:Nat,∃PT:Nat,∃M8,(Builtin.append_ #[62,62] 62 #[(.slice outA outN outC),(.slice (some (Addr.mk Nc 0 none)) 2 2)]:Sem Value).run prog M5= .ok (.slice Px Qc PT) M8∧
 R (.slice Px Qc PT) M8
def wS:Ann:= .leaf
theorem QLayshort_eq(sa:Int)(sb:Int)(outA:Option Addr)(outN:Nat)(outC:Nat)(R:aC)(w:World):oQ sa sb outA outN outC R w=vcF prog aL [] Tryz.f219 wS [(.agg #[(.int .i64 sa),(.int .u32 sb)]),(.slice outA outN outC)] R none w:=by kernel_rfl
theorem qS(sa:Int)(sb:Int)(outA:Option Addr)(outN:Nat)(outC:Nat) {R:aC} {w:World}(h:oQ sa sb outA outN outC R w):Calls prog 219 #[(.agg #[(.int .i64 sa),(.int .u32 sb)]),(.slice outA outN outC)] w fun e w'=>∃v,e= .returned v∧R v w':=
 aj Tryz.func219 ar aa ((QLayshort_eq sa sb outA outN outC R w).mp h)
def qG(la:Int)(lbA:Option Addr)(lbN:Nat)(lbC:Nat)(outA:Option Addr)(outN:Nat)(outC:Nat)(R:aC)(w:World):Prop:=
 ∀(gv:Nat)(wv:World),gv=w.heap.size→wv=w.alloc (.cells #[(.int .u32 la),(.slice lbA lbN lbC)] 258)→
 ∃b:Nat→Nat→Prop,
 b 2 (((Addr.mk gv 0 none).add 0).block)∧
 ∃x7:Int,wv.drew.cell? ((Addr.mk gv 0 none).add 0)=some (.int .u32 x7)∧
 b 6 (((Addr.mk gv 0 none).add 1).block)∧
 ∃QB:Option Addr,∃Qz:Nat,∃QA:Nat,wv.drew.cell? ((Addr.mk gv 0 none).add 1)=some (.slice QB Qz QA)∧
 ∀(Nc:Nat)(M5:World),Nc=wv.drew.heap.size→M5=wv.drew.alloc (.cells #[(.int .u32 3),(.int .u32 x7)] 29)→
 Kept (bW b [0,5,6]) wv.drew M5∧∃b1:Nat→Nat→Prop,(∀i k,b i k→b1 i k)∧
 ∃TN:Option Addr,∃TD:Nat,∃Ve:Nat,∃M8,(Builtin.append_ #[62,62] 62 #[(.slice outA outN outC),(.slice (some (Addr.mk Nc 0 none)) 2 2)]:Sem Value).run prog M5= .ok (.slice TN TD Ve) M8∧
 Kept (bW b1 [5,6]) M5 M8∧∃b2:Nat→Nat→Prop,(∀i k,b1 i k→b2 i k)∧
 ∃Px:Option Addr,∃Qc:Nat,∃PT:Nat,∃Nb,(Builtin.append_ #[62,62] 62 #[(.slice TN TD Ve),(.slice QB Qz QA)]:Sem Value).run prog M8= .ok (.slice Px Qc PT) Nb∧
 Kept (bW b2 [1]) M8 Nb∧∃b3:Nat→Nat→Prop,(∀i k,b2 i k→b3 i k)∧
 R (.slice Px Qc PT) Nb
def zp:Ann:= .leaf
theorem QLaylong_eq(la:Int)(lbA:Option Addr)(lbN:Nat)(lbC:Nat)(outA:Option Addr)(outN:Nat)(outC:Nat)(R:aC)(w:World):qG la lbA lbN lbC outA outN outC R w=vcF prog aL [] Tryz.f218 zp [(.agg #[(.int .u32 la),(.slice lbA lbN lbC)]),(.slice outA outN outC)] R none w:=by kernel_rfl
theorem tE(la:Int)(lbA:Option Addr)(lbN:Nat)(lbC:Nat)(outA:Option Addr)(outN:Nat)(outC:Nat) {R:aC} {w:World}(h:qG la lbA lbN lbC outA outN outC R w):Calls prog 218 #[(.agg #[(.int .u32 la),(.slice lbA lbN lbC)]),(.slice outA outN outC)] w fun e w'=>∃v,e= .returned v∧R v w':=
 aj Tryz.func218 ar aa ((QLaylong_eq la lbA lbN lbC outA outN outC R w).mp h)
def qI(bookA:Option Addr)(bookN:Nat)(bookC:Nat)(ak:Int)(oa:Int)(ob:Int)(ocA:Option Addr)(ocN:Nat)(ocC:Nat)(R:aC)(w:World):Prop:=
 ∀(gv:Nat)(wv:World),gv=w.heap.size→wv=w.alloc (.cells #[(.int .i64 oa),(.int .u32 ob),(.slice ocA ocN ocC)] 64)→
 ∀i:Int,i=0→
 ∃I:Nat→Int→World→Prop,(∃m,I m i wv)∧∀(m:Nat)(NR:Nat→Value)(i1:Int),∀M5,I m i1 M5→
 split (decide ((i1:Int)<((bookN:Nat):Int))) (
  (0≤(i1:Int)∧(i1:Int)<((bookN:Nat):Int))∧
  au bookA fun ZL=>
  ∃OY:Int,M5.cell? ((ZL.add (Int.toNat i1*2)).add 0)=some (.int .i64 OY)∧
  split ((OY:Int)==ak) (
   ∃b:Nat→Nat→Prop,
   (0≤(i1:Int)∧(i1:Int)<((bookN:Nat):Int))∧
   au bookA fun p24=>
   b 6 (((p24.add (Int.toNat i1*2)).add 1).block)∧
   ∃SP:Option Addr,∃SM:Nat,∃SO:Nat,M5.drew.cell? ((p24.add (Int.toNat i1*2)).add 1)=some (.slice SP SM SO)∧
   b 7 ((Addr.mk gv 0 none).block)∧
   ∃YO:Int,∃YN:Int,∃x27cA:Option Addr,∃x27cN:Nat,∃x27cC:Nat,(M5.drew.cell? ((Addr.mk gv 0 none).add 0)=some (.int .i64 YO)∧M5.drew.cell? ((Addr.mk gv 0 none).add 1)=some (.int .u32 YN)∧M5.drew.cell? ((Addr.mk gv 0 none).add 2)=some (.slice x27cA x27cN x27cC))∧
   ∀(N8:Nat)(M8:World),N8=M5.drew.heap.size→M8=M5.drew.alloc (.cells #[(.int .i64 YO),(.int .u32 YN),(.slice x27cA x27cN x27cC)] 64)→
   Kept (bW b [0,1,2,3,4,5,6]) M5.drew M8∧∃b1:Nat→Nat→Prop,(∀i k,b i k→b1 i k)∧
   ∃TT:Option Addr,∃Rn:Nat,∃TS:Nat,∃Nb,(Builtin.append_ #[57,57] 57 #[(.slice SP SM SO),(.slice (some (Addr.mk N8 0 none)) 1 1)]:Sem Value).run prog M8= .ok (.slice TT Rn TS) Nb∧
   Kept (bW b1 [0,1,2,3]) M8 Nb∧∃b2:Nat→Nat→Prop,(∀i k,b1 i k→b2 i k)∧
   (0≤(i1:Int)∧(i1:Int)<((bookN:Nat):Int))∧
   au bookA fun p30=>
   aF Nb ((p30.add (Int.toNat i1*2)).add 1) [(.slice TT Rn TS)] fun Nf=>
   ∃b3:Nat→Nat→Prop,(∀i k,b2 i k→b3 i k)∧
   ∀i2:Int,i2=(i64.wrap (i1+1))→
   ∃m1,m1<m∧I m1 i2 Nf) (
   ∀i2:Int,i2=(i64.wrap (i1+1))→
   ∃m1,m1<m∧I m1 i2 M5)) (
  R (.tuple #[]) M5)
def z2:Ann:=(.node none .leaf (.node none .leaf (.node none (.node (some ⟨[(6,.one (.int .i64))],[6,7,8,9,10,11,12,13,14,15,16,17,18,19,20,21,22,23,24,25,26,27,28,29,30,31]⟩) .leaf .leaf) .leaf)))
theorem L17Noted_eq(bookA:Option Addr)(bookN:Nat)(bookC:Nat)(ak:Int)(oa:Int)(ob:Int)(ocA:Option Addr)(ocN:Nat)(ocC:Nat)(R:aC)(w:World):qI bookA bookN bookC ak oa ob ocA ocN ocC R w=vcF prog aL [6] Tryz.f21 z2 [(.slice bookA bookN bookC),(.int .i64 ak),(.agg #[(.int .i64 oa),(.int .u32 ob),(.slice ocA ocN ocC)])] R none w:=by kernel_rfl
theorem tN(bookA:Option Addr)(bookN:Nat)(bookC:Nat)(ak:Int)(oa:Int)(ob:Int)(ocA:Option Addr)(ocN:Nat)(ocC:Nat) {R:aC} {w:World}(h:qI bookA bookN bookC ak oa ob ocA ocN ocC R w):Calls prog 21 #[(.slice bookA bookN bookC),(.int .i64 ak),(.agg #[(.int .i64 oa),(.int .u32 ob),(.slice ocA ocN ocC)])] w fun e w'=>∃v,e= .returned v∧R v w':=
 aj Tryz.func21 ar aa ((L17Noted_eq bookA bookN bookC ak oa ob ocA ocN ocC R w).mp h)
end
end Go.Proofs.YtinhphjfnedhgaaGreatDoor
namespace Go.Proofs.YtinhphjfnedhgaaGreatDoor
open Go.Proofs.Tryz (prog)
open Go Go.RowKit V
open Go.IntKind (i64 u32 u64)
open Enc (enc)
section
set_option maxRecDepth 100000
structure MOW.Ok(x:MOW):Prop where
 a:0≤x.a∧x.a<4294967296
 l:dP x.l
 k:(x.k=3∧x.n=x.l.length∧x.l.length=1024)∨((x.k=1∨x.k=2∨x.k=4)∧x.A=none∧x.n=0∧x.c=0∧x.l= [])
theorem MOW.Ok.len {x:MOW}(h:MOW.Ok x):x.n=x.l.length:=by
 rcases h.k with h | ⟨_,_,h,_,h2⟩
 ·exact h.2.1
 ·rw [h2,h];rfl
def cm(es:List MOW):List U32:=es.flatMap fun x=>opW x.k x.a x.l
theorem u5(es:List MOW)(o:MOW):cm (es++ [o])=cm es++opW o.k o.a o.l:=by simp [cm]
theorem yF {es:List MOW}(h:∀x,x∈es→MOW.Ok x):2*es.length≤(cm es).length:=by
 induction es with
 | nil=>simp
 | cons x r ih=>
  have:=ih fun y hy=>h y (List.mem_cons_of_mem _ hy)
  have e:cm (x::r)=opW x.k x.a x.l++cm r:=rfl
  rw [e,List.length_append]
  have:2≤(opW x.k x.a x.l).length:=by unfold opW;simp
  rw [List.length_cons];omega
theorem pP {es:List MOW}(j:Nat):(cm (es.take j)).length≤(cm es).length:=by
 conv=>rhs;rw [← List.take_append_drop j es]
 unfold cm
 rw [List.flatMap_append,List.length_append];omega
theorem u6 {es:List MOW} {j:Nat} {x:MOW}(h:es[j]? =some x):cm (es.take (j+1))=cm (es.take j)++opW x.k x.a x.l:=by
 rw [List.take_add_one,h,Option.toList_some,u5]
theorem J8 {α:Type} [Enc α] {P:Program} {w:World} {t e:TypeId} {z:Value} {bytes:Nat}(hT:SN P t e z (Enc.size α) bytes) {n:Int}(h0:0≤n)(hn:(bytes:Int)*n≤281474976710656)(Qr:n≤9000000000000000000) {K:Option Addr→Nat→Nat→World→Prop}
 (hK:∀A c w2,Own w2 (fun k=>w.heap.size≤k) e A 0 c ([]:List α)→Pu w w2→K A 0 c w2):∃(A:Option Addr)(N C:Nat)(w2:World),(Instr.makeSlice t (.int .i64 0) (.int .i64 n):Sem Value).run P w= .ok (.slice A N C) w2∧K A N C w2:=by
 obtain⟨i,hi,hz,hs,hb⟩:=hT.info
 have hr:=run_make (P:=P) w t e i z hT.und hi hz .i64 .i64 0 n (Int.le_refl _) h0 (by rw [hb];exact hn) (by omega)
 have hm:Made w w.heap.size (madeCells z.cells (n.toNat *i.size)) e (w.alloc (.cells (madeCells z.cells (n.toNat *i.size)) e)):=made rfl rfl
 refine⟨_,_,_,_,hr,hK _ _ _ ⟨⟨⟨by simp,.inr ⟨_,n.toNat,_,rfl,Nat.zero_le _,hm.blk,Nat.zero_le _,by simp only [maxLen];omega,by rw [size_madeCells,hs],by simp⟩⟩,fun a ha=>?_⟩,rfl⟩ hm.pu⟩
 injection ha with ha
 rw [← ha];exact Nat.le_refl _
theorem snU:SN prog 62 29 (.int .u32 0) 1 4:=nX.sn
theorem MD:SN prog 57 64 (.agg #[.int .i64 0,.int .u32 0,.slice none 0 0]) 3 40:=SN.of (by kernel_rfl) (by kernel_rfl) (by rfl) (by omega)
theorem LA:SN prog 230 218 .nilIface 1 16:=SN.of (by kernel_rfl) (by kernel_rfl) (by rfl) (by omega)
def pcV(x:MOE):Value:=if x.k=3 then .iface 258 (.agg #[.int .u32 x.a,.slice x.A x.n x.c])else .iface 260 (.agg #[.int .i64 x.k,.int .u32 x.a])
structure Pc where
 o:MOE
instance:Enc Pc:=⟨fun x=>[pcV x.o],1,fun _=>rfl,fun x u hu=>by
 obtain rfl:=List.mem_singleton.1 hu
 unfold pcV;split<;>rfl,by omega⟩
section
variable {w w':World} {Z Y:Nat→Prop} {A:Option Addr} {n c:Nat} {out:List U32}
theorem F9 {x:MOE}(hk:(x.k=3∧x.n=1024)∨((x.k=1∨x.k=2∨x.k=4)∧x.n=0)):Calls prog 134 #[.agg #[.int .i64 x.k,.int .u32 x.a,.slice x.A x.n x.c]] w fun e w'=>∃v,e= .returned v∧v= .tuple #[pcV x,.int .i64 0]∧Pu w w':=by
 refine tD _ _ _ _ _ ?_
 refine mkd fun g w1 m=>?_
 have r0:w1.cell? ((Addr.mk g 0 none).add 0)=some (.int .i64 x.k):=m.blk.at rfl
 have r1:w1.cell? ((Addr.mk g 0 none).add 1)=some (.int .u32 x.a):=m.blk.at rfl
 have r2:w1.cell? ((Addr.mk g 0 none).add 2)=some (.slice x.A x.n x.c):=m.blk.at rfl
 refine⟨fun b w'=>b=decide (x.k=3)∧w'=w1,⟨_,r0,aK (fun h=>⟨_,_,_,r2,?_⟩) (fun h=>?_)⟩,?_⟩
 ·rintro _ rfl
  have hn:x.n=1024:=by omega
  exact⟨by rw [hn];simp [h],rfl⟩
 ·rintro _ rfl
  exact⟨by simp [h],rfl⟩
 rintro _ b w2 ⟨rfl,rfl⟩
 refine aq (fun h=>⟨_,r1,_,_,_,r2,by unfold pcV;rw [if_pos h],m.pu⟩) (fun h=>?_)
 refine⟨fun b w'=>b=true∧w'=w2,⟨_,r0,aq (fun _=>⟨_,r0,aq (fun _=>⟨_,r0,aN (fun _=>⟨_,_,_,r2,?_⟩) (fun h2=>absurd h2 h)⟩) (fun h2=>absurd h2 (by omega))⟩) (fun h2=>absurd h2 (by omega))⟩,?_⟩
 ·rintro _ rfl
  have hn:x.n=0:=by omega
  exact⟨by rw [hn];rfl,rfl⟩
 rintro _ b w3 ⟨rfl,rfl⟩
 exact dV ⟨_,r0,_,r1,by unfold pcV;rw [if_neg h],m.pu⟩
theorem KG {a:Int}:Calls prog 139 #[.iface 258 (.agg #[.int .u32 a,.slice A n c])] w fun e w'=>∃v,e= .returned v∧v= .int .i64 (i64.wrap (2+((n:Nat):Int)))∧Pu w w':=by
 refine aj (R:=fun v w'=>v= .int .i64 (i64.wrap (2+((n:Nat):Int)))∧Pu w w') Tryz.func139 ar aa ((show(∀(g:Nat)(w1:World),g=w.heap.size→w1=w.alloc (.cells #[.int .u32 0,.slice none 0 0] 258)→aF w1 (Addr.mk g 0 none) [.int .u32 a,.slice A n c] fun w2=>
  ∃(A':Option Addr)(n' c':Nat),w2.cell? ((Addr.mk g 0 none).add 1)=some (.slice A' n' c')∧((fun v w'=>v= .int .i64 (i64.wrap (2+((n:Nat):Int)))∧Pu w w':aC) (.int .i64 (i64.wrap (2+((n':Nat):Int)))) w2))=vcF prog aL [] Tryz.f139 .leaf [.iface 258 (.agg #[.int .u32 a,.slice A n c])] (fun v w'=>v= .int .i64 (i64.wrap (2+((n:Nat):Int)))∧Pu w w') none w by kernel_rfl).mp ?_)
 exact mkd fun g w1 m=>bP m.blk (by simp) fun w2 s=>⟨_,_,_,s.blk.at rfl,rfl,m.pu.stored s (.inr (by rw [m.num];exact Nat.le_refl _))⟩
theorem KF {k a:Int}:Calls prog 139 #[.iface 260 (.agg #[.int .i64 k,.int .u32 a])] w fun e w'=>∃v,e= .returned v∧v= .int .i64 2∧Pu w w':=
 aj (R:=fun v w'=>v= .int .i64 2∧Pu w w') Tryz.func139 ar aa ((show((fun v w'=>v= .int .i64 2∧Pu w w':aC) (.int .i64 2) w)=vcF prog aL [] Tryz.f139 .leaf [.iface 260 (.agg #[.int .i64 k,.int .u32 a])] (fun v w'=>v= .int .i64 2∧Pu w w') none w by kernel_rfl).mp ⟨rfl,Ch.refl _ _⟩)
theorem LI {x:MOE}(hk:(x.k=3∧x.n=1024)∨((x.k=1∨x.k=2∨x.k=4)∧x.n=0)):Calls prog 139 #[pcV x] w fun e w'=>∃v,e= .returned v∧v= .int .i64 (2+x.n:Int)∧Pu w w':=by
 unfold pcV
 by_cases h:x.k=3
 ·have hn:x.n=1024:=by omega
  rw [if_pos h]
  refine KG.mono ?_
  rintro e w' ⟨v,rfl,rfl,q⟩
  exact⟨_,rfl,by rw [aA (by omega)],q⟩
 ·have hn:x.n=0:=by omega
  rw [if_neg h]
  refine KF.mono ?_
  rintro e w' ⟨v,rfl,rfl,q⟩
  exact⟨_,rfl,by rw [hn];rfl,q⟩
theorem F8 {g:Nat} {x y:Int} {T:TypeId}(b:Blk w g #[.int .u32 x,.int .u32 y] T):Rd w (fun k=>k=g) (some (Addr.mk g 0 none)) 2 2 [U32.mk x,U32.mk y]:=
 ⟨rfl,Nat.le_refl _,fun k hk=>by rw [hk];exact b.lt,fun i z hz=>⟨_,rfl,rfl,fun j hj=>by
  have hj:j=0:=by have:Enc.size U32=1:=rfl;omega
  subst hj
  match i,hz with
  | 0,hz=>injection hz with hz;subst hz;exact b.at2 (i:=0) (j:=0) rfl
  | 1,hz=>injection hz with hz;subst hz;exact b.at2 (i:=1) (j:=0) rfl
  | i+2,hz=>simp at hz⟩⟩
def Laid(w:World)(Z:Nat→Prop)(out:List U32)(v:Value)(w':World):Prop:=
 (∃(A':Option Addr)(c':Nat)(Z':Nat→Prop),v= .slice A' out.length c'∧Own w' Z' 29 A' out.length c' out∧∀b,Z' b→(Z b∨w.heap.size≤b)∧b<w'.heap.size)∧Ch Z w w'
theorem LJ {k a:Int}(h:Own w Z 29 A n c out)(hb:(n+2)*4≤140737488355328):Calls prog 219 #[.agg #[.int .i64 k,.int .u32 a],.slice A n c] w fun e w'=>∃v,e= .returned v∧Laid w Z (out++ [U32.mk (u32.wrap k),U32.mk a]) v w':=by
 refine qS _ _ _ _ _ ?_
 refine mkd fun g w1 m=>⟨_,m.blk.at rfl,_,m.blk.at rfl,mkd fun g1 w2 m1=>?_⟩
 have h2:Own w2 (fun b=>Z b∨w2.heap.size≤b) 29 A n c out:=((h.pu m.pu).pu m1.pu).mono fun b hb=>.inl hb
 have NA:w.heap.size≤w2.heap.size:=(m.pu.trans m1.pu).size
 refine Own.apps h2 snU (F8 m1.blk) (by omega) (by omega) (.inr (Nat.le_refl _)) (fun A' c' w3 ho hc=>?_) (fun hm=>absurd hm (by omega))
 have e:(out++ [U32.mk (u32.wrap k),U32.mk a]).length=n+2:=by simp [h.len]
 refine⟨⟨A',c',fun k=>(Z k∨w2.heap.size≤k)∧k<w3.heap.size,by rw [e],by rw [e];exact ho.within,fun b hb=>⟨hb.1.imp id (Nat.le_trans NA),hb.2⟩⟩,?_⟩
 exact(((Ch.refl Z w).made m).made m1).call hc fun b hb=>hb.imp id (Nat.le_trans NA)
theorem LK {a:Int} {B:Option Addr} {m d:Nat} {l:List U32}(h:Own w Z 29 A n c out)(hZ:∀b,Z b→b<w.heap.size)(hw:Rd w Y B m d l)(hYZ:∀b,Y b→¬Z b)(hm:m=1024)(hb:(n+1026)*4≤140737488355328):Calls prog 218 #[.agg #[.int .u32 a,.slice B m d],.slice A n c] w fun e w'=>∃v,e= .returned v∧Laid w Z (out++([U32.mk 3,U32.mk a]++l)) v w':=by
 refine tE _ _ _ _ _ _ _ ?_
 refine mkd fun g w1 m1=>?_
 have b1:=(Pu.aU w1).blk m1.blk
 have hZg:¬(Z g∨w1.heap.size≤g):=by
  rintro(h9 | h9)
  ·have:=hZ g h9;rw [m1.num]at this;omega
  ·have:=m1.blk.lt;omega
 refine⟨bXU [2,6] [] w1.drew (fun b=>Z b∨w1.heap.size≤b),.inr ⟨rfl,bX.ld b1 hZg 0⟩,_,b1.at rfl,.inr ⟨rfl,bX.ld b1 hZg 1⟩,_,_,_,b1.at rfl,mkd fun g2 w2 m2=>bXU.eW m2.pu rfl ?_⟩
 have pu2:Pu w w2:=(m1.pu.trans (Pu.aU w1)).trans m2.pu
 have Oi:w1.heap.size≤w2.heap.size:=((Pu.aU w1).trans m2.pu).size
 have Z4:w.heap.size≤w1.heap.size:=m1.pu.size
 have h2:Own w2 (fun b=>Z b∨w1.heap.size≤b) 29 A n c out:=(h.pu pu2).mono fun b hb=>.inl hb
 refine Own.apps h2 snU (F8 m2.blk) (by omega) (by omega) (.inr Oi) (fun A' c' w3 ho hc=>bXU.more hc (fun k hk=>.inl hk) rfl ?_) (fun hm=>absurd hm (by omega))
 have RM:Rd w3 Y B m d l:=(hw.pu pu2).ch hc fun b hy hb=>hb.elim (hYZ b hy) fun hb=>by have:=hw.lt b hy;omega
 refine Own.apps ho snU RM (by omega) (by omega) (.inr (Nat.le_trans Oi hc.size)) (fun A2 c2 w4 P9 Tu=>bXU.more Tu (fun k hk=>.inl hk) rfl ?_) (fun h9=>absurd h9 (by omega))
 have e:(out++([U32.mk 3,U32.mk a]++l)).length=n+2+m:=by simp [h.len,hw.len];omega
 refine⟨⟨A2,c2,fun k=>(Z k∨w1.heap.size≤k)∧k<w4.heap.size,by rw [e],by rw [e,← List.append_assoc];exact P9.within,fun b hb=>⟨hb.1.imp id (Nat.le_trans Z4),hb.2⟩⟩,?_⟩
 have q:Ch Z w w2:=pu2.mono fun _ h=>h.elim
 exact(q.call hc fun b hb=>hb.imp id (Nat.le_trans Z4)).call Tu fun b hb=>hb.imp id (Nat.le_trans Z4)
theorem ID {W:Nat→Prop} {es:List MOW}(ho:Rd w Y A n c (es.map MOW.o))(hk:∀x,x∈es→MOW.Ok x)(Wj:∀x,x∈es→Rd w W x.A x.n x.c x.l)(hle:(cm es).length≤262144):
 Calls prog 72 #[.slice A n c] w fun e w'=>∃v,e= .returned v∧∃A' c',v= .tuple #[.slice A' (cm es).length c',.int .i64 0]∧Own w' (fun k=>w.heap.size≤k∧k<w'.heap.size) 29 A' (cm es).length c' (cm es)∧Pu w w':=by
 have hn:es.length=n:=by have:=ho.len;simpa using this
 have h2:=yF hk
 have Uh:∀x,x∈es→(x.o.k=3∧x.o.n=1024)∨((x.o.k=1∨x.o.k=2∨x.o.k=4)∧x.o.n=0):=fun x hx=>by
  have:=(hk x hx).k
  show(x.k=3∧x.n=1024)∨((x.k=1∨x.k=2∨x.k=4)∧x.n=0)
  omega
 have hol:∀x,x∈es→(opW x.k x.a x.l).length=2+x.n:=fun x hx=>by
  have:=(hk x hx).k
  rcases this with h | ⟨_,_,h,_,h9⟩
  ·unfold opW;simp;omega
  ·rw [h9,h];rfl
 refine um _ _ _ ?_
 refine J8 (α:=Pc) LA (by omega) (by omega) (by omega) fun A1 c1 w1 o1 p1=>?_
 rintro _ rfl
 refine⟨fun m A N C n1 i w'=>∃j:Nat,i=(j:Int)∧j≤es.length∧m=es.length - j∧j=N∧Own w' (fun k=>w.heap.size≤k) 218 A N C ((es.take j).map fun x=>Pc.mk x.o)∧n1=((cm (es.take j)).length:Int)∧Pu w w',⟨es.length,0,rfl,Nat.zero_le _,rfl,rfl,o1,rfl,p1⟩,?_⟩
 rintro m _ A2 N2 C2 n2 i w2 ⟨j,rfl,hj,rfl,rfl,o2,rfl,p2⟩
 refine aq (fun Nu=>?_) (fun UZ=>?_)
 ·refine⟨⟨by omega,Nu⟩,?_⟩
  have R5:j<es.length:=by omega
  have P9:=ho.pu p2
  obtain⟨p,y,rfl,hy,hYp,Ny⟩:=P9.ld (i:=(j:Int)) (by omega) Nu
  rw [Int.toNat_natCast]at hy Ny
  have hx:es[j]? =some es[j]:=List.getElem?_eq_getElem R5
  have Rh:es[j]∈es:=List.getElem_mem R5
  generalize es[j]=x at hx Rh
  have Vr:y=x.o:=by
   rw [List.getElem?_map,hx]at hy
   injection hy with hy;exact hy.symm
  subst Vr
  have hc:=fun j hj=>Ny j hj
  have e3:Enc.size MOE=3:=rfl
  rw [e3]at hc
  refine ah _ rfl ⟨_,_,_,_,_,⟨hc 0 (by omega),hc 1 (by omega),hc 2 (by omega)⟩,mkd fun g w3 m3=>bP m3.blk (by simp) fun w4 s4=>?_⟩
  have b4:=s4.blk
  have p4:Pu w2 w4:=m3.pu.stored s4 (.inr (by rw [m3.num];exact Nat.le_refl _))
  refine⟨_,_,_,_,_,⟨b4.at rfl,b4.at rfl,b4.at rfl⟩,(F9 (x:=x.o) (Uh x Rh)).mono ?_⟩
  rintro e w5 ⟨_,rfl,rfl,p5⟩
  refine⟨_,_,rfl,aN (fun h=>absurd rfl h) fun _=>⟨by unfold pcV;split<;>rfl,mkd fun g6 w6 m6=>?_⟩⟩
  have p6:Pu w2 w6:=(p4.trans p5).trans m6.pu
  refine Own.app (x:=Pc.mk x.o) (o2.pu p6) LA m6.blk rfl (by omega) (by omega) (p2.trans p6).size fun A7 c7 w7 o7 q7=>?_
  refine(LI (x:=x.o) (Uh x Rh)).mono ?_
  rintro e w8 ⟨_,rfl,rfl,p8⟩
  refine⟨_,rfl,?_⟩
  rintro _ rfl
  have p7:Pu w w7:=(p2.trans p6).call q7 fun k hk=>.inr hk
  have ex:=u6 hx
  have el:=pP (es:=es) (j+1)
  rw [ex,List.length_append,hol x Rh]at el
  have hxo:x.o.n=x.n:=rfl
  refine⟨es.length - (j+1),by omega,j+1,by rw [aA (by omega)];omega,R5,rfl,rfl,?_,?_,p7.trans p8⟩
  ·rw [List.take_add_one,hx,Option.toList_some,List.map_append]
   exact o7.pu p8
  ·rw [ex,List.length_append,hol x Rh,hxo,aA (by omega)];omega
 ·obtain rfl:j=n:=by omega
  have ej:es.take j=es:=List.take_of_length_le (by omega)
  rw [ej]at o2
  refine aq (fun h=>absurd h (by rw [ej];omega)) (fun _=>?_)
  rw [ej]
  refine J8 (α:=U32) snU (by omega) (by omega) (by omega) fun A3 c3 w3 o3 p3=>?_
  have pr:Rd w3 (fun k=>w.heap.size≤k∧k<w2.heap.size) A2 j C2 (es.map fun x=>Pc.mk x.o):=o2.rd.pu p3
  have Rt:w.heap.size≤w2.heap.size:=p2.size
  refine⟨fun m A N C i w'=>∃q:Nat,i=(q:Int)∧q≤es.length∧m=es.length - q∧N=(cm (es.take q)).length∧Own w' (fun k=>w2.heap.size≤k∧k<w'.heap.size) 29 A N C (cm (es.take q))∧Rd w' (fun k=>w.heap.size≤k∧k<w2.heap.size) A2 j C2 (es.map fun x=>Pc.mk x.o)∧Pu w w'∧w2.heap.size≤w'.heap.size,⟨es.length,0,rfl,Nat.zero_le _,rfl,rfl,o3.within,pr,p2.trans p3,p3.size⟩,?_⟩
  rintro m _ A4 N4 C4 i w4 ⟨q,rfl,hq,rfl,rfl,o4,r4,p4,Vy⟩
  refine aq (fun Nu=>?_) (fun UZ=>?_)
  ·refine⟨⟨by omega,Nu⟩,?_⟩
   have hql:q<es.length:=by omega
   obtain⟨p,y,rfl,hy,hYp,Ny⟩:=r4.ld (i:=(q:Int)) (by omega) Nu
   rw [Int.toNat_natCast]at hy Ny
   have hx:es[q]? =some es[q]:=List.getElem?_eq_getElem hql
   have Rh:es[q]∈es:=List.getElem_mem hql
   generalize es[q]=x at hx Rh
   have Vr:y=Pc.mk x.o:=by
    rw [List.getElem?_map,hx]at hy
    injection hy with hy;exact hy.symm
   subst Vr
   have hc:=Ny 0 Enc.pos
   have e0:∀p:Addr,p.add 0=p:=fun p=>by unfold Addr.add;simp
   have Ul:w4.cell? (p.add (q*1))=some (pcV x.o):=by rw [e0]at hc;exact hc
   have ex:=u6 hx
   have el:=pP (es:=es) (q+1)
   rw [ex,List.length_append,hol x Rh]at el
   have e2:=pP (es:=es) q
   refine ah _ rfl ⟨_,Ul,?_⟩
   have key:∀ {v:Value} {w5:World},Laid w4 (fun k=>w2.heap.size≤k∧k<w4.heap.size) (cm (es.take q)++opW x.k x.a x.l) v w5→∃(A5:Option Addr)(N5 c5:Nat),(Ending.returned v)= .returned (.slice A5 N5 c5)∧∃m1,m1<es.length - q∧∃q':Nat,i64.wrap ((q:Int)+1)=(q':Int)∧q'≤es.length∧m1=es.length - q'∧N5=(cm (es.take q')).length∧Own w5 (fun k=>w2.heap.size≤k∧k<w5.heap.size) 29 A5 N5 c5 (cm (es.take q'))∧Rd w5 (fun k=>w.heap.size≤k∧k<w2.heap.size) (some p) j C2 (es.map fun x=>Pc.mk x.o)∧Pu w w5∧w2.heap.size≤w5.heap.size:=by
    rintro v w5 ⟨⟨A5,c5,Z5,rfl,o5,hz⟩,q5⟩
    rw [← ex]at o5 ⊢
    refine⟨A5,_,c5,rfl,es.length - (q+1),by omega,q+1,by rw [aA (by omega)];omega,hql,rfl,rfl,o5.mono fun b hb=>?_,r4.ch q5 fun b h1 h2=>by omega,p4.call q5 fun b hb=>.inr (Nat.le_trans Rt hb.1),Nat.le_trans Vy q5.size⟩
    obtain⟨h1 | h1,h2⟩:=hz b hb
    ·exact⟨h1.1,h2⟩
    ·exact⟨Nat.le_trans Vy h1,h2⟩
   have ap:∀a b:Value,(#[a]++ #[b]:Array Value)= #[a,b]:=fun a b=>by simp
   by_cases h3:x.k=3
   ·have hk3:x.n=x.l.length∧x.l.length=1024:=by have:=(hk x Rh).k;omega
    refine⟨258,.agg #[.int .u32 x.a,.slice x.A x.n x.c],218,by unfold pcV;exact if_pos h3,by kernel_rfl,by kernel_rfl,?_⟩
    rw [ap]
    refine(LK o4 (fun b hb=>hb.2) ((Wj x Rh).pu p4) (fun b hb h9=>by have:=(Wj x Rh).lt b hb;omega) (by omega) (by omega)).mono ?_
    rintro e w5 ⟨v,rfl,hl⟩
    refine key ?_
    rw [h3];exact hl
   ·have Wq:(x.k=1∨x.k=2∨x.k=4)∧x.l= []:=by
     rcases(hk x Rh).k with h | h
     ·exact absurd h.1 h3
     ·exact⟨h.1,h.2.2.2.2⟩
    refine⟨260,.agg #[.int .i64 x.k,.int .u32 x.a],219,by unfold pcV;exact if_neg h3,by kernel_rfl,by kernel_rfl,?_⟩
    rw [ap]
    refine(LJ o4 (by omega)).mono ?_
    rintro e w5 ⟨v,rfl,hl⟩
    refine key ?_
    rw [Wq.2,uP Wq.1];exact hl
  ·obtain rfl:q=j:=by omega
   rw [ej]at o4 ⊢
   exact⟨A4,C4,rfl,o4.mono fun k hk=>⟨Nat.le_trans Rt hk.1,hk.2⟩,p4⟩
end
end
section
section
variable {w w1 w2:World} {Zb W:Nat→Prop} {s:BSt} {b:BkE} {o:MOW} {es:List MOW}
theorem ja.has(h:ja w W s)(k:kO s b es):∃Z:Nat→Prop,Own w Z 64 b.A b.n b.c (es.map MOW.o)∧(∀x,Z x→b.A=some ⟨x,0,none⟩∧s.rows x=some (b.c,es)):=by
 rcases k with⟨h1,h2,h3,rfl⟩ | ⟨g,h1,h2,h3⟩
 ·rw [h1,h2,h3];exact⟨fun _=>False,Own.nil,fun x hx=>hx.elim⟩
 ·rw [h1,h2]
  exact⟨fun k=>k=g,h.own g b.c es h3,fun x hx=>by rw [hx];exact⟨rfl,h3⟩⟩
theorem ja.words(h:ja w W s)(k:kO s b es):∀x,x∈es→Rd w W x.A x.n x.c x.l:=fun x hx=>by
 rcases k with⟨_,_,_,rfl⟩ | ⟨g,_,_,h3⟩
 ·cases hx
 ·exact h.wds g b.c es x h3 hx
theorem ja.next {V:Nat→Prop} {A:Option Addr} {c:Nat} {l:List U32}(h:ja w W s)(hr:Rd w V A l.length c l)(ho:∀g q,s.rows g=some q→¬V g):ja w (fun k=>W k∨V k) ⟨s.rows,⟨A,c,l⟩⟩:=by
 have lt:∀k,W k∨V k→k<w.heap.size:=fun k hk=>hk.elim (h.lt k) (hr.lt k)
 exact⟨h.own,fun g q hg=>⟨(h.off g q hg).1,fun hh=>hh.elim (h.off g q hg).2 (ho g q hg)⟩,fun g c es x hg hx=>(h.wds g c es x hg hx).mono (fun k hk=>.inl hk) lt,hr.mono (fun k hk=>.inr hk) lt,lt⟩
theorem ja.app(h:ja w W s)(kb:kO s b es) {p:Int}(hs:w.heap.size≤w1.heap.size) {g:Nat} {c:Nat}(ho:Own w2 (fun k=>k=g) 64 (some ⟨g,0,none⟩) (b.n+1) c ((es++ [o]).map MOW.o))(hg:b.A=some ⟨g,0,none⟩∨w1.heap.size≤g)
 (hl:o.A=s.last.A∧o.n=s.last.l.length∧o.c=s.last.c∧o.l=s.last.l) {Y:Nat→Prop}(q:Ch Y w w2)(hY:∀k,Y k→b.A=some ⟨k,0,none⟩∨w1.heap.size≤k∨¬ij W s k):
 ∃s1:BSt,s1.last=s.last∧ja w2 W s1∧(∀k,ij W s1 k→ij W s k∨w1.heap.size≤k)∧(∀es,kO s b es→kO s1 ⟨p,some ⟨g,0,none⟩,b.n+1,c⟩ (es++ [o]))∧(∀b' es',kO s b' es'→(b'.A=none∨b'.A≠b.A)→kO s1 b' es'∧(b'.A=none∨b'.A≠some ⟨g,0,none⟩)):=by
 have hW:∀k,W k→¬Y k:=fun k hk hy=>by
  rcases hY k hy with h1 | h1 | h1
  ·rcases kb with⟨h2,_⟩ | ⟨g2,h2,_,h3⟩
   ·rw [h2]at h1;cases h1
   ·rw [h2]at h1
    injection h1 with h1
    injection h1 with h1
    subst h1
    exact(h.off _ _ h3).2 hk
  ·have:=h.lt k hk;omega
  ·exact h1 (.inl hk)
 have hR:∀k q,s.rows k=some q→b.A≠some ⟨k,0,none⟩→¬Y k:=fun k q hk hn hy=>by
  rcases hY k hy with h1 | h1 | h1
  ·exact hn h1
  ·have:=(h.off k q hk).1;omega
  ·exact h1 (.inr ⟨q,hk⟩)
 have hlen:(es++ [o]).length=b.n+1:=by
  rw [List.length_append,List.length_singleton]
  rcases kb with⟨_,h2,_,rfl⟩ | ⟨_,_,h2,_⟩
  ·rw [h2];rfl
  ·rw [h2]
 have hgW:¬W g:=fun hw=>by
  rcases hg with hg | hg
  ·rcases kb with⟨h2,_⟩ | ⟨g2,h2,_,h3⟩
   ·rw [h2]at hg;cases hg
   ·rw [h2]at hg
    injection hg with hg
    injection hg with hg
    subst hg
    exact(h.off _ _ h3).2 hw
  ·have:=h.lt g hw;omega
 have hg2:g<w2.heap.size:=by
  obtain⟨g',h1,_,h3⟩:=ho.lt (by omega)
  injection h1 with h1
  injection h1 with h1
  rw [h1];exact h3
 refine⟨⟨fun k=>if k=g then some (c,es++ [o])else if b.A=some ⟨k,0,none⟩then none else s.rows k,s.last⟩,rfl,⟨fun k c' fs hk=>?_,fun k q' hk=>?_,fun k c' fs x hk hx=>?_,h.last.ch q hW,fun k hk=>Nat.lt_of_lt_of_le (h.lt k hk) q.size⟩,fun k hk=>?_,fun fs hf=>?_,fun b' fs hf NN=>?_⟩
 ·dsimp only at hk
  split at hk
  ·rename_i e
   injection hk with hk
   injection hk with h1 h2
   subst e h1 h2
   rw [hlen];exact ho
  ·split at hk
   ·cases hk
   ·rename_i e e2
    exact(h.own k c' fs hk).ch q fun x hx=>hx▸hR k _ hk e2
 ·dsimp only at hk
  split at hk
  ·rename_i e
   subst e
   exact⟨hg2,hgW⟩
  ·split at hk
   ·cases hk
   ·exact⟨Nat.lt_of_lt_of_le (h.off k q' hk).1 q.size,(h.off k q' hk).2⟩
 ·dsimp only at hk
  split at hk
  ·injection hk with hk
   injection hk with h1 h2
   subst h2
   rcases List.mem_append.1 hx with hx | hx
   ·rcases kb with⟨_,_,_,rfl⟩ | ⟨g2,_,_,h3⟩
    ·cases hx
    ·exact(h.wds _ _ _ x h3 hx).ch q hW
   ·obtain rfl:=List.mem_singleton.1 hx
    rw [hl.1,hl.2.1,hl.2.2.1,hl.2.2.2]
    exact h.last.ch q hW
  ·split at hk
   ·cases hk
   ·exact(h.wds k c' fs x hk hx).ch q hW
 ·rcases hk with hk | ⟨q',hk⟩
  ·exact .inl (.inl hk)
  ·dsimp only at hk
   split at hk
   ·rename_i e
    subst e
    rcases hg with hg | hg
    ·rcases kb with⟨h2,_⟩ | ⟨g2,h2,_,h3⟩
     ·rw [h2]at hg;cases hg
     ·rw [h2]at hg
      injection hg with hg
      injection hg with hg
      subst hg
      exact .inl (.inr ⟨_,h3⟩)
    ·exact .inr hg
   ·split at hk
    ·cases hk
    ·exact .inl (.inr ⟨q',hk⟩)
 ·obtain rfl:=hf.one kb
  exact .inr ⟨g,rfl,hlen.symm,by simp⟩
 ·rcases hf with⟨h1,h2,h3,rfl⟩ | ⟨g3,h1,h2,h3⟩
  ·exact⟨.inl ⟨h1,h2,h3,rfl⟩,.inl h1⟩
  ·have n1:b.A≠some ⟨g3,0,none⟩:=fun e=>by
    rcases NN with NN | NN
    ·rw [h1]at NN;cases NN
    ·exact NN (by rw [h1,e])
   have n2:g3≠g:=fun e=>by
    subst e
    rcases hg with hg | hg
    ·exact n1 hg
    ·have:=(h.off _ _ h3).1;omega
   exact⟨.inr ⟨g3,h1,h2,by show(if g3=g then _ else if b.A=some ⟨g3,0,none⟩then none else s.rows g3)=_;rw [if_neg n2,if_neg n1];exact h3⟩,.inr (by rw [h1];intro e;injection e with e;injection e with e;exact n2 e)⟩
theorem GC {A:Option Addr} {n c:Nat} {bk:List BkE} {p k a:Int}(hb:Own w Zb 59 A n c bk)(hzl:∀x,Zb x→x<w.heap.size)(hs:ja w W s)(hd:∀x,Zb x→¬ij W s x)(may:FC bk s p):
 Calls prog 21 #[.slice A n c,.int .i64 p,.agg #[.int .i64 k,.int .u32 a,.slice s.last.A s.last.l.length s.last.c]] w fun e w'=>∃v,e= .returned v∧v= .tuple #[]∧∃QM s1,qh bk s p ⟨k,a,s.last.A,s.last.l.length,s.last.c,s.last.l⟩ QM s1∧Own w' Zb 59 A n c QM∧ja w' W s1∧(∀x,ij W s1 x→ij W s x∨w.heap.size≤x)∧Ch (fun x=>Zb x∨ij W s x) w w':=by
 have hn:=hb.len
 have hbn:n≤9223372036854775807:=by
  rcases hb.own.1.2 with⟨_,h⟩ | ⟨g,cap,cur,hv,_,_,h1,h2,_⟩
  ·omega
  ·simp only [maxLen]at h2;omega
 refine tN _ _ _ _ _ _ _ _ _ ?_
 refine mkd fun gv w1 m1=>?_
 rintro _ rfl
 have hgv:w.heap.size≤gv:=by rw [m1.num];exact Nat.le_refl _
 refine⟨fun m i w'=>∃j:Nat,i=(j:Int)∧j≤n∧m=n - j∧Blk w' gv #[.int .i64 k,.int .u32 a,.slice s.last.A s.last.l.length s.last.c] 64∧∃(QM:List BkE)(s1:BSt),(((∀(i:Nat)(b:BkE),i<j→bk[i]? =some b→b.p≠p)∧QM=bk∧s1=s)∨(∃(i:Nat)(b:BkE),i<j∧bk[i]? =some b∧b.p=p)∧qh bk s p ⟨k,a,s.last.A,s.last.l.length,s.last.c,s.last.l⟩ QM s1)∧(∀(i:Nat)(b:BkE),QM[i]? =some b→∃b0:BkE,bk[i]? =some b0∧b0.p=b.p)∧Own w' Zb 59 A n c QM∧ja w' W s1∧(∀x,ij W s1 x→ij W s x∨w.heap.size≤x)∧Ch (fun x=>Zb x∨ij W s x) w w',
  ⟨n,0,rfl,Nat.zero_le _,rfl,m1.blk,bk,s,.inl ⟨fun i b hi=>absurd hi (Nat.not_lt_zero _),rfl,rfl⟩,fun i b hi=>⟨b,hi,rfl⟩,hb.pu m1.pu,hs.ch m1.pu (fun _ _ h=>h),fun x hx=>.inl hx,(Ch.refl _ w).made m1⟩,?_⟩
 rintro m _ i w2 ⟨j,rfl,hj,rfl,bg,QM,s1,OT,Tp,o2,h2,ZS,q2⟩
 have OI:=o2.len
 refine aq (fun Nu=>?_) (fun UZ=>?_)
 ·have hjn:j<n:=by omega
  refine⟨⟨by omega,Nu⟩,?_⟩
  obtain⟨pa,y,rfl,hy,hYp,Ny⟩:=o2.rd.ld (i:=(j:Int)) (by omega) Nu
  rw [Int.toNat_natCast]at hy Ny
  have e2:Enc.size BkE=2:=rfl
  rw [e2]at Ny
  obtain⟨b0,Wy,hbp⟩:=Tp j y hy
  refine ah _ rfl ⟨_,Ny 0 (by omega),aK (fun hp=>?_) (fun hp=>?_)⟩
  ·have VR:QM=bk∧s1=s:=by
    rcases OT with⟨_,h3,h4⟩ | ⟨⟨i,b,hi,hb,aco⟩,_⟩
    ·exact⟨h3,h4⟩
    ·have:=may.one i j b b0 hb Wy (by rw [aco,hbp,hp]);omega
   obtain⟨rfl,rfl⟩:=VR
   rw [hy]at Wy
   injection Wy with Wy
   subst Wy
   have Nv:=List.mem_of_getElem? hy
   obtain⟨es,Ww⟩:=may.has y Nv
   have hfew:=may.few y Nv hp
   have pd:=Pu.aU w2
   have bgd:=pd.blk bg
   have od:=o2.pu pd
   have hsd:=h2.ch pd (fun _ _ h=>h)
   have cd:=fun j hj=>Ny j hj
   have U4:w2.drew.cell? ((pa.add (j*2)).add 1)=some (.slice y.A y.n y.c):=by
    have h9:=cd 1 (by omega)
    have h8:((enc y)[1]? :Option Value)=some (.slice y.A y.n y.c):=rfl
    rw [h8]at h9
    exact h9
   have npa:¬ij W s1 pa.block:=hd _ hYp.1
   have ngv:¬ij W s1 gv:=fun h=>by have:=hs.ltX gv h;omega
   refine⟨bXU [6,7] [] w2.drew (ij W s1),⟨by omega,Nu⟩,ah _ rfl ⟨.inr ⟨rfl,?_⟩,_,_,_,U4,.inr ⟨rfl,bX.lt bgd.lt ngv⟩,_,_,_,_,_,⟨bgd.at rfl,bgd.at rfl,bgd.at rfl⟩,mkd fun g3 w3 m3=>bXU.eW m3.pu rfl ?_⟩⟩
   ·have h9:=bX.ldp (Y:=ij W s1) (i:=j*2+1) (j:=j*2+1) (by rw [← add_add];exact U4) npa
    rw [add_add];exact h9
   have p3:Pu w2 w3:=pd.trans m3.pu
   have h3:=h2.ch p3 (fun _ _ h=>h)
   obtain⟨Z,oz,hZ⟩:=h3.has Ww
   have oz':Own w3 (fun x=>Z x∨w3.heap.size≤x) 64 y.A y.n y.c (es.map MOW.o):=oz.mono fun x hx=>.inl hx
   refine Own.app (x:=(⟨k,a,s1.last.A,s1.last.l.length,s1.last.c⟩:MOE)) oz' MD m3.blk rfl (by omega) (by omega) (.inr (Nat.le_refl _)) fun A' c' w4 o4 q4=>bXU.more q4 ?_ rfl ?_
   ·intro x hx
    rcases hx with hx | hx
    ·exact .inl (.inr ⟨_,(hZ x hx).2⟩)
    ·exact .inr hx
   refine⟨⟨by omega,Nu⟩,ah _ rfl ?_⟩
   have nz:∀x,Zb x→¬(Z x∨w3.heap.size≤x):=fun x hx h=>by
    rcases h with h | h
    ·exact hd x hx (.inr ⟨_,(hZ x h).2⟩)
    ·have:=hzl x hx
     have:=q2.size
     have:=p3.size
     omega
   have ob4:Own w4 Zb 59 (some pa) n c QM:=(o2.pu p3).ch q4 nz
   refine Own.st ob4 rfl (by omega) (x:=y) (y:=⟨p,A',y.n+1,c'⟩) (by rw [Int.toNat_natCast];exact hy) (by show 1+1≤2;omega) (by rw [← hp];rfl) fun w5 o5 q5=>?_
   refine⟨bXU [6,7] [] w4 (ij W s1),fun _ _ h=>h,?_⟩
   rintro _ rfl
   obtain⟨g',QK,Wv,hlt'⟩:=o4.lt (by omega)
   subst QK
   have o4':Own w4 (fun x=>x=g') 64 (some ⟨g',0,none⟩) (y.n+1) c' ((es++ [(⟨k,a,s1.last.A,s1.last.l.length,s1.last.c,s1.last.l⟩:MOW)]).map MOW.o):=by
    rw [List.map_append]
    exact⟨⟨o4.own.1,fun a ha=>by injection ha with ha;rw [← ha]⟩,o4.len⟩
   have hng:¬Zb g':=fun h=>nz g' h (Wv.imp id fun h=>h)
   have s23:=p3.size
   have s02:=q2.size
   have qall:Ch (fun x=>(Z x∨w3.heap.size≤x)∨Zb x) w2 w5:=((p3.mono (fun _ h=>h.elim)).call q4 fun x hx=>.inl (.inl hx)).call q5 fun x hx=>.inl (.inr hx)
   obtain⟨s2,P2,h5,hx5,Qn,Tq⟩:=h2.app (w1:=w3) (w2:=w5) (o:=⟨k,a,s1.last.A,s1.last.l.length,s1.last.c,s1.last.l⟩) Ww (p:=p) s23 (g:=g') (c:=c') (o4'.ch q5 fun x hx h=>hng (hx▸h)) (Wv.imp (fun h=>(hZ _ h).1) fun h=>h) ⟨rfl,rfl,rfl,rfl⟩ qall fun x hx=>by
    rcases hx with(hx | hx) | hx
    ·exact .inl (hZ x hx).1
    ·exact .inr (.inl hx)
    ·exact .inr (.inr (hd x hx))
   refine⟨n - (j+1),by omega,j+1,by rw [aA (by omega)];omega,hjn,rfl,?_,QM.set j ⟨p,some ⟨g',0,none⟩,y.n+1,c'⟩,s2,.inr ⟨⟨j,y,by omega,hy,hp⟩,.inr ⟨j,y,some ⟨g',0,none⟩,c',hy,hp,by simp,rfl,Qn,Tq⟩⟩,?_,?_,h5,?_,?_⟩
   ·refine(Ch.blk q4 (Pu.blk p3 bg) ?_ |>fun h=>Ch.blk q5 h fun hz=>by have:=hzl _ hz;omega)
    rintro(h | h)
    ·exact ngv (.inr ⟨_,(hZ _ h).2⟩)
    ·have:=bg.lt;omega
   ·intro i b hi
    rw [List.getElem?_set]at hi
    by_cases e:j=i
    ·subst e
     rw [if_pos rfl,if_pos (by omega)]at hi
     injection hi with hi
     subst hi
     exact⟨y,hy,hp⟩
    ·rw [if_neg e]at hi
     exact⟨b,hi,rfl⟩
   ·rw [Int.toNat_natCast]at o5;exact o5
   ·intro x hx
    rcases hx5 x hx with h | h
    ·exact .inl h
    ·exact .inr (by omega)
   ·refine q2.call qall fun x hx=>?_
    rcases hx with(hx | hx) | hx
    ·exact .inl (.inr (.inr ⟨_,(hZ x hx).2⟩))
    ·exact .inr (by omega)
    ·exact .inl (.inl hx)
  ·rintro _ rfl
   refine⟨n - (j+1),by omega,j+1,by rw [aA (by omega)];omega,hjn,rfl,bg,QM,s1,?_,Tp,o2,h2,ZS,q2⟩
   rcases OT with⟨h3,h4,h5⟩ | ⟨⟨i,b,h3,h4,h5⟩,h6⟩
   ·refine .inl ⟨fun i b hi hb=>?_,h4,h5⟩
    by_cases e:i=j
    ·subst e
     rw [Wy]at hb
     injection hb with hb
     rw [← hb,hbp];exact hp
    ·exact h3 i b (by omega) hb
   ·exact .inr ⟨⟨i,b,by omega,h4,h5⟩,h6⟩
 ·obtain rfl:j=n:=by omega
  refine⟨rfl,QM,s1,?_,o2,h2,ZS,q2⟩
  rcases OT with⟨h3,h4,h5⟩ | ⟨_,h6⟩
  ·refine .inl ⟨fun b hbm=>?_,h4,h5⟩
   obtain⟨i,hi⟩:=List.getElem?_of_mem hbm
   exact h3 i b (by have:=(List.getElem?_eq_some_iff.1 hi).1;omega) hi
  ·exact h6
end
theorem I5 {es:List MOW}(h:∀x,x∈es→MOW.Ok x):dP (cm es):=fun y hy=>by
 obtain⟨x,hx,hy⟩:=List.mem_flatMap.1 hy
 have ho:=h x hx
 exact lu ho.a (by have:=ho.k;omega) ho.l y hy
def BEn(t:BSt)(A:Option Addr)(n c:Nat)(es:List MOW):Prop:=kO t ⟨0,A,n,c⟩ es∧(∀x,x∈es→MOW.Ok x)∧(cm es).length≤262144
namespace V
section
variable {U:Uni}
theorem aS.both {a a' b b':Res U} {u v:Upd U} {X:Nat→Nat→Prop} {w w':World} {Q:Ou U→Prop} {x:Value} {k:Option Kn} {Y Z:Nat→Prop}(hs:Sat [a,b] X w)(q:Ch (fun k=>X 0 k∨X 1 k) w w')(hu:dh a u=some a')(hv:dh b v=some b')(ha:RS Y w' a')(hb:RS Z w' b')
 (hy:∀k,Y k→X 0 k∨w.heap.size≤k)(hz:∀k,Z k→X 1 k∨w.heap.size≤k)(hd:∀k,Y k→¬Z k)(hQ:Q ⟨x,k,[u,v],[],[]⟩)(hk:KnO [a',b'] x k):aS [a,b] [0,1] X w Q (.returned x) w':=by
 refine⟨_,[a',b'],fun i=>if i=0 then Y else Z,fi hk,hQ,by simp [bO,hu,hv,nth,cg],⟨⟨fun i r hr=>?_,fun i j hi hj NJ k h1 h2=>?_⟩,q.mono fun k hk=>hk.elim (fun h=>⟨0,by simp,h⟩) (fun h=>⟨1,by simp,h⟩),fun i hi hm=>?_,fun i hi k hk=>?_,fun i h1 h2=>by simp at h1 h2;omega,.inr (by simpa using hk),fun _ k hk=>by cases hk⟩⟩
 ·rw [List.append_nil]at hr
  match i with
  | 0=>simp only [nth,Option.some.injEq]at hr;subst hr;exact ha
  | 1=>simp only [nth,Option.some.injEq]at hr;subst hr;exact hb
  | i+2=>simp [nth]at hr
 ·simp at hi hj
  by_cases e:i=0
  ·have e2:¬j=0:=by omega
   simp only [e,if_true,if_neg e2]at h1 h2
   exact hd k h1 h2
  ·have e2:j=0:=by omega
   simp only [e2,if_true,if_neg e]at h1 h2
   exact hd k h2 h1
 ·simp at hi hm;omega
 ·simp at hi
  rcases hi with rfl | rfl
  ·exact hy k hk
  ·exact hz k hk
end
end V
end
end Go.Proofs.YtinhphjfnedhgaaGreatDoor
namespace Go.Proofs.YtinhphjfnedhgaaGreatDoor
open Go.Proofs.Tryz (prog)
open Go Go.RowKit V
open Go.IntKind (i64 u32 u64)
section
namespace DB
theorem xz {m:Mem} {p o v:Int} {q:Nat}:(m.write true p o v).words false q=m.words false q:=by
 unfold Mem.words
 rw [Mem.iF (by rintro⟨h,_⟩;cases h)]
theorem uz(p:Int)(q:Nat):∀(l:List Int)(m:Mem)(o:Int),(m.wrs p o l).words false q=m.words false q
 | [],_,_=>rfl
 | x::l,m,o=>by rw [Mem.wrs,uz p q l,xz]
theorem DJ {kk:List Int} {m:Mem} {s k a:Int} {l:List U32} {q:Nat}:(m.msd kk s k a l).words false q=m.words false q:=by
 unfold Mem.msd;split
 ·exact uz ..
 ·rfl
theorem I2 {kk:List Int} {m:Mem} {s k a q:Int} {l:List U32}:(m.msd kk s k a l).has false q=m.has false q:=by
 unfold Mem.msd;split
 ·exact Mem.jl ..
 ·rfl
theorem Bq {kk:List Int} {d:DB} {o:LOp}(ho:o.Ok)(h1:¬o.k=1)(he:d.bh o=0):ki (d.call kk o) o=ki (d.pre o) o:=by
 obtain⟨k,a,l,e,_⟩:=oJ (kk:=kk) ho h1 he
 unfold ki
 split
 ·rw [e]
  show opW 3 o.c (((d.pre o).mem.msd kk o.a k a l).words false o.d.toNat)=_
  rw [DJ]
 ·rfl
theorem Ha {kk:List Int} {d:DB} {o:LOp}(ho:o.Ok)(he:d.bh o=0)(h4:o.k=4):(d.call kk o).mem.has false o.d=true:=by
 obtain⟨e,h⟩:=vd (kk:=kk) h4 ho he
 rw [e]
 show((d.pre o).mem.msd kk o.a 3 o.c _).has false o.d=true
 rw [I2];exact h
theorem Jb {d:DB} {o:LOp}(V:d.Val)(hw:d.mem.Wf)(ho:o.Ok)(h1:¬o.k=1)(he:d.bh o=0):d.aE o.a=0:=by
 obtain⟨_,_,_,b0,_⟩:=vT V hw ho h1 he
 exact b0
structure Bk(kk:List Int)(d:DB)(bk:List BkE)(s:BSt):Prop where
 one:∀(i j:Nat)(b b':BkE),bk[i]? =some b→bk[j]? =some b'→b.p=b'.p→i=j
 dif:∀b b',b∈bk→b'∈bk→b.p≠b'.p→b'.A=none∨b'.A≠b.A
 run:∀b,b∈bk→∃es,kO s b es∧Run kk d b.p (cm es)∧∀x,x∈es→MOW.Ok x
 pg:∀b,b∈bk→0≤b.p∧b.p<64
variable {kk:List Int} {d:DB} {bk QM:List BkE} {s s1:BSt} {o:LOp}
theorem Bk.nil:Bk kk d [] s:=⟨fun i j b b' h=>by simp at h,fun b b' h=>(by cases h),fun b h=>(by cases h),fun b h=>(by cases h)⟩
theorem Bk.last {y:Wt}(B:Bk kk d bk s):Bk kk d bk ⟨s.rows,y⟩:=⟨B.one,B.dif,B.run,B.pg⟩
theorem Bk.may {p:Int}(B:Bk kk d bk s)(hS:d.S≤64)(h:d.aE p=0):FC bk s p:=
 ⟨B.one,fun b hb=>by obtain⟨es,h,_⟩:=B.run b hb;exact⟨es,h⟩,fun b hb e=>by
  obtain⟨es,h1,R,ok⟩:=B.run b hb
  have:=R.few hS (by rw [e];exact h)
  have:=yF ok
  rcases h1 with⟨_,h2,_⟩ | ⟨_,_,h2,_⟩<;>omega⟩
theorem Bk.beside(B:Bk kk d bk s)(V:d.Val):Bk kk (d.beside o) bk s:=⟨B.one,B.dif,fun b hb=>by
 obtain⟨es,h1,R,ok⟩:=B.run b hb
 exact⟨es,h1,R.beside V,ok⟩,B.pg⟩
theorem filter_one {f:BkE→Bool}:∀ {l:List BkE},(∀(i j:Nat)(b b':BkE),l[i]? =some b→l[j]? =some b'→b.p=b'.p→i=j)→∀(i j:Nat)(b b':BkE),(l.filter f)[i]? =some b→(l.filter f)[j]? =some b'→b.p=b'.p→i=j:=by
 have key:∀l:List BkE,(∀(i j:Nat)(b b':BkE),l[i]? =some b→l[j]? =some b'→b.p=b'.p→i=j)↔l.Pairwise (fun b b'=>b.p≠b'.p):=fun l=>by
  rw [List.pairwise_iff_getElem]
  constructor
  ·intro h i j hi hj NJ e
   have:=h i j _ _ (List.getElem?_eq_getElem hi) (List.getElem?_eq_getElem hj) e
   omega
  ·intro h i j b b' hi hj e
   obtain⟨h1,e1⟩:=List.getElem?_eq_some_iff.1 hi
   obtain⟨h2,e2⟩:=List.getElem?_eq_some_iff.1 hj
   subst e1 e2
   rcases Nat.lt_trichotomy i j with NJ | NJ | NJ
   ·exact absurd e (h i j h1 h2 NJ)
   ·exact NJ
   ·exact absurd e.symm (h j i h2 h1 NJ)
 intro l h
 rw [key]at h ⊢
 exact h.filter _
theorem Bk.space(B:Bk kk d bk s)(V:d.Val)(hw:d.mem.Wf)(ho:o.Ok)(h1:o.k=1)(he:d.bh o=0):Bk kk (d.call kk o) (bk.filter (fun b=>decide (b.p≠o.a))++ [⟨o.a,none,0,0⟩]) s:=by
 have VD:=jS (kk:=kk) ho V hw
 have QO:d.cn o.a o.b=0:=by have:=he;unfold bh at this;rwa [if_pos h1]at this
 have ec:d.call kk o=d.bx o.a o.b:=by unfold call;rw [if_pos h1]
 rw [ec]at VD ⊢
 have k:=KP QO
 have mem:∀b,b∈bk.filter (fun b=>decide (b.p≠o.a))→b∈bk∧b.p≠o.a:=fun b hb=>by simpa using hb
 have fone:=filter_one (f:=fun b=>decide (b.p≠o.a)) B.one
 generalize bk.filter (fun b=>decide (b.p≠o.a))=F at mem fone ⊢
 have hS:d.S≤64:=hw.2.1
 refine⟨fun i j b b' hi hj e=>?_,fun b b' hb OQ e=>?_,fun b hb=>?_,fun b hb=>?_⟩
 ·rw [List.getElem?_append]at hi hj
  split at hi
  ·rename_i li
   split at hj
   ·exact fone i j b b' hi hj e
   ·rename_i lj
    have e2:=List.getElem?_eq_some_iff.1 hj
    obtain⟨h2,e2⟩:=e2
    simp at h2
    have e3:b'=⟨o.a,none,0,0⟩:=by rw [← e2];simp
    rw [e3]at e
    exact absurd e (mem b (List.mem_of_getElem? hi)).2
  ·rename_i li
   obtain⟨h2,e2⟩:=List.getElem?_eq_some_iff.1 hi
   simp at h2
   have e3:b=⟨o.a,none,0,0⟩:=by rw [← e2];simp
   split at hj
   ·rw [e3]at e
    exact absurd e.symm (mem b' (List.mem_of_getElem? hj)).2
   ·obtain⟨h3,e4⟩:=List.getElem?_eq_some_iff.1 hj
    simp at h3
    omega
 ·rcases List.mem_append.1 OQ with OQ | OQ
  ·rcases List.mem_append.1 hb with hb | hb
   ·exact B.dif b b' (mem b hb).1 (mem b' OQ).1 e
   ·obtain rfl:=List.mem_singleton.1 hb
    cases hA:b'.A with
    | none=>exact .inl rfl
    | some a=>exact .inr (by simp)
  ·obtain rfl:=List.mem_singleton.1 OQ
   exact .inl rfl
 ·rcases List.mem_append.1 hb with hb | hb
  ·obtain⟨es,h2,R,ok⟩:=B.run b (mem b hb).1
   exact⟨es,h2,R.MZ V VD k (mem b hb).2,ok⟩
  ·obtain rfl:=List.mem_singleton.1 hb
   exact⟨[],.inl ⟨rfl,rfl,rfl,rfl⟩,Run.space k (FR QO),fun x h=>by cases h⟩
 ·rcases List.mem_append.1 hb with hb | hb
  ·exact B.pg b (mem b hb).1
  ·obtain rfl:=List.mem_singleton.1 hb
   have h9:=k.hs
   unfold has at h9
   have h9:=of_decide_eq_true h9
   show 0≤o.a∧o.a<64
   omega
theorem Bk.LS(B:Bk kk d bk s)(V:d.Val)(hw:d.mem.Wf)(ho:o.Ok)(h1:¬o.k=1)(hk:1≤o.k∧o.k≤5)(he:d.bh o=0) {x:MOW}(hx:MOW.Ok x)(ex:opW x.k x.a x.l=ki (d.pre o) o)(N:qh bk s o.a x QM s1):Bk kk (d.call kk o) QM s1:=by
 rcases N with⟨hn,rfl,rfl⟩ | ⟨i,b,A,c,hi,hp,hA,rfl,Qn,Tq⟩
 ·exact⟨B.one,B.dif,fun b hb=>by
   obtain⟨es,h2,R,ok⟩:=B.run b hb
   exact⟨es,h2,R.other V hw ho h1 he (hn b hb),ok⟩,B.pg⟩
 ·have hb:=List.mem_of_getElem? hi
  have li:=(List.getElem?_eq_some_iff.1 hi).1
  have get:∀j b',(bk.set i ⟨o.a,A,b.n+1,c⟩)[j]? =some b'→(j=i∧b'=⟨o.a,A,b.n+1,c⟩)∨(j≠i∧bk[j]? =some b'):=fun j b' hj=>by
   rw [List.getElem?_set]at hj
   by_cases e:i=j
   ·subst e;rw [if_pos rfl,if_pos li]at hj;injection hj with hj;exact .inl ⟨rfl,hj.symm⟩
   ·rw [if_neg e]at hj;exact .inr ⟨fun h=>e h.symm,hj⟩
  have ne:∀j b',j≠i→bk[j]? =some b'→b'.p≠o.a:=fun j b' hj h e=>hj (B.one j i b' b h hi (by rw [e,hp]))
  obtain⟨es,h2,R,ok⟩:=B.run b hb
  have far:∀j b',j≠i→bk[j]? =some b'→(b'.A=none∨b'.A≠b.A):=fun j b' hj h=>B.dif b b' hb (List.mem_of_getElem? h) (by rw [hp];exact(ne j b' hj h).symm)
  refine⟨fun j l b1 b2 hj hl e=>?_,fun b1 b2 hb1 Sg e=>?_,fun b' OQ=>?_,fun b' OQ=>?_⟩
  ·rcases get j b1 hj with⟨e1,e2⟩ | ⟨nj,Pm⟩
   ·rcases get l b2 hl with⟨e3,_⟩ | ⟨nl,VN⟩
    ·rw [e1,e3]
    ·exact absurd (by rw [← e,e2]) (ne l b2 nl VN)
   ·rcases get l b2 hl with⟨_,e4⟩ | ⟨nl,VN⟩
    ·exact absurd (by rw [e,e4]) (ne j b1 nj Pm)
    ·exact B.one j l b1 b2 Pm VN e
  ·obtain⟨j,hj⟩:=List.getElem?_of_mem hb1
   obtain⟨l,hl⟩:=List.getElem?_of_mem Sg
   rcases get l b2 hl with⟨_,e4⟩ | ⟨nl,VN⟩
   ·rcases get j b1 hj with⟨_,e2⟩ | ⟨nj,Pm⟩
    ·exact absurd (by rw [e2,e4]) e
    ·obtain⟨es1,h3,_⟩:=B.run b1 (List.mem_of_getElem? Pm)
     rw [e4]
     rcases(Tq b1 es1 h3 (far j b1 nj Pm)).2 with h4 | h4
     ·exact .inr (by show A≠b1.A;rw [h4];exact hA)
     ·exact .inr (Ne.symm h4)
   ·obtain⟨es2,h3,_⟩:=B.run b2 (List.mem_of_getElem? VN)
    rcases get j b1 hj with⟨_,e2⟩ | ⟨nj,Pm⟩
    ·rw [e2];exact(Tq b2 es2 h3 (far l b2 nl VN)).2
    ·exact B.dif b1 b2 (List.mem_of_getElem? Pm) (List.mem_of_getElem? VN) e
  ·obtain⟨j,hj⟩:=List.getElem?_of_mem OQ
   rcases get j b' hj with⟨rfl,rfl⟩ | ⟨nj,hj⟩
   ·refine⟨es++ [x],Qn es h2,?_,fun y hy=>?_⟩
    ·show Run kk _ o.a _
     rw [u5,ex]
     rw [hp]at R
     exact R.self V hw ho h1 he hk
    ·rcases List.mem_append.1 hy with hy | hy
     ·exact ok y hy
     ·rw [List.mem_singleton.1 hy];exact hx
   ·obtain⟨es',h3,R',ok'⟩:=B.run b' (List.mem_of_getElem? hj)
    exact⟨es',(Tq b' es' h3 (far j b' nj hj)).1,R'.other V hw ho h1 he (ne j b' nj hj),ok'⟩
  ·obtain⟨j,hj⟩:=List.getElem?_of_mem OQ
   rcases get j b' hj with⟨_,e2⟩ | ⟨_,Pm⟩
   ·rw [e2];have h9:=B.pg b hb;rw [hp]at h9;exact h9
   ·exact B.pg b' (List.mem_of_getElem? Pm)
theorem Bk.no(B:Bk kk d bk s)(he:d.bh o≠0):Bk kk (d.call kk o) bk s:=by rw [Dj he];exact B
theorem Dh {q:Int}:∀ {l:List BkE},l.Pairwise (fun b b'=>b.p≠b'.p)→l.countP (fun b=>decide (b.p=q))≤1
 | [],_=>by simp
 | b::r,h=>by
  rw [List.pairwise_cons]at h
  rw [List.countP_cons]
  by_cases e:b.p=q
  ·have:r.countP (fun b=>decide (b.p=q))=0:=List.countP_eq_zero.2 fun b' OQ=>by
    have:=h.1 b' OQ
    simp;intro e2;exact this (e.trans e2.symm)
   rw [this];simp [e]
  ·have:=Dh (q:=q) h.2
   simp [e];simpa using this
theorem vc {n:Nat}:∀(l:List BkE),l.countP (fun b=>decide (0≤b.p∧b.p<((n+1:Nat):Int)))≤l.countP (fun b=>decide (0≤b.p∧b.p<(n:Int)))+l.countP (fun b=>decide (b.p=(n:Int)))
 | []=>by simp
 | b::r=>by
  have ih:=vc (n:=n) r
  rw [List.countP_cons,List.countP_cons,List.countP_cons]
  by_cases h1:b.p=(n:Int)
  ·rw [if_pos (decide_eq_true h1)]
   split<;>split<;>omega
  ·by_cases h2:0≤b.p∧b.p<(n:Int)
   ·rw [if_pos (decide_eq_true h2)]
    split<;>split<;>omega
   ·rw [if_neg (by simp;omega)]
    split<;>split<;>omega
theorem G4 {l:List BkE}(h:l.Pairwise (fun b b'=>b.p≠b'.p)):∀n:Nat,l.countP (fun b=>decide (0≤b.p∧b.p<(n:Int)))≤n
 | 0=>by
  have:l.countP (fun b=>decide (0≤b.p∧b.p<((0:Nat):Int)))=0:=List.countP_eq_zero.2 fun b _=>by simp
  omega
 | n+1=>by
  have:=vc (n:=n) l
  have:=G4 h n
  have:=Dh (q:=(n:Int)) h
  omega
theorem Bk.len(B:Bk kk d bk s):bk.length≤64:=by
 have hp:bk.Pairwise (fun b b'=>b.p≠b'.p):=by
  rw [List.pairwise_iff_getElem]
  intro i j hi hj NJ e
  have:=B.one i j _ _ (List.getElem?_eq_getElem hi) (List.getElem?_eq_getElem hj) e
  omega
 have h:=G4 hp 64
 have e:bk.countP (fun b=>decide (0≤b.p∧b.p<((64:Nat):Int)))=bk.length:=List.countP_eq_length.2 fun b hb=>decide_eq_true (B.pg b hb)
 omega
theorem Dm {l:List BkE} {j a:Int}(h:0≤j∧j<l.length)(hl:l.length≤64):(l.take (i64.wrap (j+1)).toNat).filter (fun b=>decide (b.p≠a))=(l.take j.toNat).filter (fun b=>decide (b.p≠a))++(if(l.getD j.toNat (BkE.mk 0 none 0 0)).p=a then []else [l.getD j.toNat (BkE.mk 0 none 0 0)]):=by
 have hj:j.toNat<l.length:=by omega
 rw [aA (by omega),show(j+1).toNat=j.toNat+1 by omega,List.take_add_one,List.getD_eq_getElem?_getD,List.getElem?_eq_getElem hj,Option.toList_some,List.filter_append,Option.getD_some]
 split
 ·rename_i e;rw [List.filter_cons_of_neg (by simpa using e),List.filter_nil]
 ·rename_i e;rw [List.filter_cons_of_pos (by simpa using e),List.filter_nil]
theorem Bk.Kx {l7:List BkE} {j:Int}(B:Bk kk d bk s)(V:d.Val)(hw:d.mem.Wf)(ho:o.Ok)(h1:o.k=1)(he:d.bh o=0)(h7:l7=(bk.take j.toNat).filter (fun b=>decide (b.p≠o.a)))(hj:¬j<(bk.length:Int)):Bk kk (d.call kk o) (l7++ [⟨o.a,none,0,0⟩]) s:=by
 rw [List.take_of_length_le (by omega)]at h7
 rw [h7];exact B.space V hw ho h1 he
theorem Bk.bytes {l7 l8:List BkE} {j a:Int}(B:Bk kk d bk s)(h7:l7=(bk.take j.toNat).filter (fun b=>decide (b.p≠a)))(h8:l8.length=1):(l7.length+l8.length)*32≤140737488355328:=by
 have h1:=List.length_filter_le (fun b:BkE=>decide (b.p≠a)) (bk.take j.toNat)
 rw [← h7,List.length_take]at h1
 have:=B.len
 omega
theorem Bk.MN {p:Int} {y:Wt}(B:Bk kk d bk s)(hS:d.S≤64)(h:d.aE p=0):FC bk ⟨s.rows,y⟩ p:=by
 have:=B.may hS h
 exact⟨this.one,this.has,this.few⟩
theorem Hf {p:Int}(h1:d.aR p=0)(h2:(d.entry p).typ=1)(h3:(d.entry p).state=1):d.aE p=0:=by
 have hh:d.has p=true:=by
  unfold aR at h1
  split at h1
  ·assumption
  ·cases h1
 have e:d.entry p=d.at_ p:=by unfold entry;rw [if_pos hh]
 rw [e]at h2 h3
 exact bo.2 ⟨hh,h2,h3⟩
theorem Bk.sum {b:BkE}(B:Bk kk d bk s)(V:d.Val)(hS:d.S≤64)(hb:b∈bk)(h:d.aE b.p=0):Dg.aw (d.mem.dgW b.p)=0∧∃es,kO s b es∧(∀x,x∈es→MOW.Ok x)∧(cm es).length≤196736∧dP (cm es)∧Dg.load (d.mem.dgW b.p)=Dg.new.add kk (cm es):=by
 obtain⟨es,h2,R,ok⟩:=B.run b hb
 have:=R.few hS h
 exact⟨V.ua.inv b.p h,es,h2,ok,by omega,R.ok,R.dg h⟩
theorem Bk.fin {i:Int} {b:BkE}(B:Bk kk d bk s)(V:d.Val)(hS:d.S≤64)(hb:b=bk.getD i.toNat (BkE.mk 0 none 0 0))(hi:0≤i∧i<(bk.length:Int))(h:d.aE b.p=0):Dg.aw (d.mem.dgW b.p)=0∧(∃es,BEn s b.A b.n b.c es)∧∀es,BEn s b.A b.n b.c es→Dg.load (d.mem.dgW b.p)=Dg.new.add kk (cm es):=by
 have hm:b∈bk:=by
  rw [hb,List.getD_eq_getElem?_getD,List.getElem?_eq_getElem (by omega)]
  exact List.getElem_mem ..
 obtain⟨h1,es,h2,ok,hl,_,h3⟩:=B.sum V hS hm h
 refine⟨h1,⟨es,h2,ok,by omega⟩,fun fs hf=>?_⟩
 have:es=fs:=kO.one (b:=⟨0,b.A,b.n,b.c⟩) h2 hf.1
 rw [h3,this]
end DB
end
end Go.Proofs.YtinhphjfnedhgaaGreatDoor
