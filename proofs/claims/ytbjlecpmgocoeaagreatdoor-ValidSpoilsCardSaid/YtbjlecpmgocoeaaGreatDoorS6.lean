/- ValidSpoils returns true for every input, and each argument reads behind the call as it read before; no condition but that the listed variables read as the row lists them. -/
import Derived.Test.YtbjlecpmgocoeaaGreatDoorS5
import Derived.KernelRfl
import Derived.Test.YtbjlecpmgocoeaaGreatDoorRows
import Derived.LaidHandle
import Derived.LaidLaws
import Derived.Carry
import Derived.Test.YtbjlecpmgocoeaaGreatDoorTie
import Derived.Test.YtbjlecpmgocoeaaGreatDoorCards
import Derived.SevenTiedAt
set_option linter.unusedVariables false
set_option linter.unusedSimpArgs false
section
set_option maxRecDepth 100000
set_option maxHeartbeats 1000000
namespace Go.Proofs.YtbjlecpmgocoeaaGreatDoor
open Go Go.RowKit V
open Go.IntKind (i64 u32 u64)
open Go.Proofs (Tryz.prog)
attribute [local grind=] Pd.cI Pd.bJ Pd.jk Pd.jE Pd.cX Pd.cu Pd.eE Pd.gg Pd.lQ Pd.pL
attribute [local grind .] Pd.Ok.ent
attribute [local grind→] Pd.Ok.dC
def fK:Ctr Un:=⟨[.one (.obj 0 0)],[],[.ob 2 []],[],fun rm m K=>K ⟨(.int .i64 (m.S:Int)),none,[],[],[]⟩⟩
theorem oe:LV Un Tryz.prog 76 fK:=by
 show ∀(rm:Nat→Nat)(m:Mem),∀Q:Ou Un→Prop,(Q ⟨(.int .i64 (m.S:Int)),none,[],[],[]⟩)→∀(X:Nat→Nat→Prop)(w:World),Sat (U:=Un) [(.ob 2 rm m)] X w→aA (U:=Un) [(.ob 2 rm m)] fr0 []→Calls Tryz.prog 76 #[(.pointer (some (Addr.mk (rm 0) 0 none)))] w (aS (U:=Un) [(.ob 2 rm m)] [] X w Q)
 intro rm m Q hQ X w hs hl
 obtain⟨L,hX,hM⟩:=(hs.res 0 _ rfl:bo 2 rm m (X 0) w)
 refine(Bj hM).mono ?_
 rintro e w' ⟨u,rfl,rfl,q⟩
 subst q
 exact aS.pu hs (Ch.refl _ _) hQ trivial
theorem sH {m:Mem} {l:List U32} {p:Nat}(h:(Ent.cC (DB.wd l (1+2*p)) (DB.wd l (2+2*p)) !=0)=true∨decide ((Ent.dec (DB.wd l (1+2*p)) (DB.wd l (2+2*p))).owner≥(m.S:Int))=true):DB.fF m l p=false:=by
 unfold DB.fF
 rcases h with h | h
 ·simp at h;simp [h]
 ·simp at h;simp;omega
theorem qf {m:Mem} {l:List U32} {p:Nat}(hok:∀q,q<p→DB.fF m l q=true)(h:(Ent.cC (DB.wd l (1+2*p)) (DB.wd l (2+2*p)) !=0)=false∧decide ((Ent.dec (DB.wd l (1+2*p)) (DB.wd l (2+2*p))).owner≥(m.S:Int))=false):∀q,q<p+1→DB.fF m l q=true:=by
 intro q hq
 by_cases e:q=p
 ·subst e
  unfold DB.fF
  have h1:=h.1
  have h2:=h.2
  simp at h1 h2
  simp [h1,h2]
 ·exact hok q (by omega)
def qJ:Ctr Un:=⟨[.one (.obj 0 0),.one (.sl 1)],[],[.ob 2 [],.lst 1 false 22],[],fun rm m A c l K=>((∀x∈l,0≤x.v∧x.v<4294967296))∧split (decide (DB.aE m l=0)) (∀(g:Nat)(A1:Option Addr)(c1:Nat),K ⟨(.tuple #[(.pointer (some (Addr.mk g 0 none))),(.int .i64 0)]),(some (.t [(some (.loc 2 0)),none])),[],[(.blk g [(.pointer (some (Addr.mk (rm 0) 0 none))),(.slice A1 (((DB.load m l).aj).length) c1),(.int .i64 (DB.wd l 0))] 67),(.lst 4 true 120 A1 c1 ((DB.load m l).aj))],[(.c 2 0,.p (.obj 0 0 0)),(.c 2 1,.p (.sl 3 0))]⟩) (K ⟨(.tuple #[(.pointer none),(.int .i64 110)]),(some (.t [none,none])),[],[],[]⟩)⟩
def zw(rm:Nat→Nat)(m:Mem)(A:Option Addr)(c:Nat)(l:List U32)(Q:Ou Un→Prop):Prop:=
 Mem.Wf m→
 ∃J:Bool→Prop,(
  split ((l.length:Int) !=(i64.wrap (1+(i64.wrap (2*m.S))))) (
   J true) (
   (0≤(0:Int)∧(0:Int)<(l.length:Int))∧
   J (decide ((l.getD (Int.toNat 0) (U32.mk 0)).v>64))))∧∀(_gv:Nat→Value)(x26:Bool),J x26→
 split x26 (
  Q ⟨(.tuple #[(.pointer none),(.int .i64 110)]),(some (.t [none,none])),[],[],[]⟩) (
  (0≤(0:Int)∧(0:Int)<(l.length:Int))∧
  (some (.pointer (some (Addr.mk (rm 0) 0 none))):Option Value)=some (.pointer (some (Addr.mk (rm 0) 0 none)))∧
  ∀(gv1:Nat),
  ∀p:Int,p=0→
  ∃I:Nat→Int→Int→Option Addr→Nat→List Ent→Prop,(∃m1,I m1 p (i64.wrap ((l.getD (Int.toNat 0) (U32.mk 0)).v)) none 0 ([]:List Ent))∧∀(m1:Nat)(_gv2:Nat→Value)(p1:Int)(y2c:Int)(A3:Option Addr)(c3:Nat)(l3:List Ent),I m1 p1 y2c A3 c3 l3→
  split (decide (p1<m.S)) (
   (0≤(i64.wrap (1+(i64.wrap (2*p1))))∧(i64.wrap (1+(i64.wrap (2*p1))))<(l.length:Int))∧
   (0≤(i64.wrap (2+(i64.wrap (2*p1))))∧(i64.wrap (2+(i64.wrap (2*p1))))<(l.length:Int))∧
   (((0≤((l.getD (Int.toNat (i64.wrap (1+(i64.wrap (2*p1))))) (U32.mk 0)).v)∧((l.getD (Int.toNat (i64.wrap (1+(i64.wrap (2*p1))))) (U32.mk 0)).v)<4294967296)∧(0≤((l.getD (Int.toNat (i64.wrap (2+(i64.wrap (2*p1))))) (U32.mk 0)).v)∧((l.getD (Int.toNat (i64.wrap (2+(i64.wrap (2*p1))))) (U32.mk 0)).v)<4294967296))∧
     ∀(gv3:Nat),
     ∃J1:Bool→Prop,(
      split ((Ent.cC ((l.getD (Int.toNat (i64.wrap (1+(i64.wrap (2*p1))))) (U32.mk 0)).v) ((l.getD (Int.toNat (i64.wrap (2+(i64.wrap (2*p1))))) (U32.mk 0)).v)) !=0) (
       J1 true) (
       J1 (decide ((Ent.dec ((l.getD (Int.toNat (i64.wrap (1+(i64.wrap (2*p1))))) (U32.mk 0)).v) ((l.getD (Int.toNat (i64.wrap (2+(i64.wrap (2*p1))))) (U32.mk 0)).v)).owner≥m.S))))∧∀(_gv4:Nat→Value)(x65:Bool),J1 x65→
     split x65 (
      Q ⟨(.tuple #[(.pointer none),(.int .i64 110)]),(some (.t [none,none])),[],[],[]⟩) (
      ∀(gv5:Nat),
      ∀(l1:List Ent),l1=([Ent.mk ((Ent.dec ((l.getD (Int.toNat (i64.wrap (1+(i64.wrap (2*p1))))) (U32.mk 0)).v) ((l.getD (Int.toNat (i64.wrap (2+(i64.wrap (2*p1))))) (U32.mk 0)).v)).typ) ((Ent.dec ((l.getD (Int.toNat (i64.wrap (1+(i64.wrap (2*p1))))) (U32.mk 0)).v) ((l.getD (Int.toNat (i64.wrap (2+(i64.wrap (2*p1))))) (U32.mk 0)).v)).owner) ((Ent.dec ((l.getD (Int.toNat (i64.wrap (1+(i64.wrap (2*p1))))) (U32.mk 0)).v) ((l.getD (Int.toNat (i64.wrap (2+(i64.wrap (2*p1))))) (U32.mk 0)).v)).refs) ((Ent.dec ((l.getD (Int.toNat (i64.wrap (1+(i64.wrap (2*p1))))) (U32.mk 0)).v) ((l.getD (Int.toNat (i64.wrap (2+(i64.wrap (2*p1))))) (U32.mk 0)).v)).state) ((Ent.dec ((l.getD (Int.toNat (i64.wrap (1+(i64.wrap (2*p1))))) (U32.mk 0)).v) ((l.getD (Int.toNat (i64.wrap (2+(i64.wrap (2*p1))))) (U32.mk 0)).v)).aD)]:List Ent)→
      ((l3.length+l1.length)*40≤140737488355328)∧
      ∀(A1:Option Addr)(c1:Nat),
      ∀(l2:List Ent),l2=(l3++l1)→
      ∀p2:Int,p2=(i64.wrap (p1+1))→
      ∃m2,m2<m1∧I m2 p2 y2c A1 c1 l2))∧
   (∀(gv3:Nat),
    ((0≤((l.getD (Int.toNat (i64.wrap (1+(i64.wrap (2*p1))))) (U32.mk 0)).v)∧((l.getD (Int.toNat (i64.wrap (1+(i64.wrap (2*p1))))) (U32.mk 0)).v)<4294967296)∧(0≤((l.getD (Int.toNat (i64.wrap (2+(i64.wrap (2*p1))))) (U32.mk 0)).v)∧((l.getD (Int.toNat (i64.wrap (2+(i64.wrap (2*p1))))) (U32.mk 0)).v)<4294967296))∧
    ∃J1:Bool→Prop,(
     split ((Ent.cC ((l.getD (Int.toNat (i64.wrap (1+(i64.wrap (2*p1))))) (U32.mk 0)).v) ((l.getD (Int.toNat (i64.wrap (2+(i64.wrap (2*p1))))) (U32.mk 0)).v)) !=0) (
      J1 true) (
      J1 (decide ((Ent.dec ((l.getD (Int.toNat (i64.wrap (1+(i64.wrap (2*p1))))) (U32.mk 0)).v) ((l.getD (Int.toNat (i64.wrap (2+(i64.wrap (2*p1))))) (U32.mk 0)).v)).owner≥m.S))))∧∀(_gv4:Nat→Value)(x65:Bool),J1 x65→
    split x65 (
     Q ⟨(.tuple #[(.pointer none),(.int .i64 110)]),(some (.t [none,none])),[],[],[]⟩) (
     ∀(gv5:Nat),
     ∀(l1:List Ent),l1=([Ent.mk ((Ent.dec ((l.getD (Int.toNat (i64.wrap (1+(i64.wrap (2*p1))))) (U32.mk 0)).v) ((l.getD (Int.toNat (i64.wrap (2+(i64.wrap (2*p1))))) (U32.mk 0)).v)).typ) ((Ent.dec ((l.getD (Int.toNat (i64.wrap (1+(i64.wrap (2*p1))))) (U32.mk 0)).v) ((l.getD (Int.toNat (i64.wrap (2+(i64.wrap (2*p1))))) (U32.mk 0)).v)).owner) ((Ent.dec ((l.getD (Int.toNat (i64.wrap (1+(i64.wrap (2*p1))))) (U32.mk 0)).v) ((l.getD (Int.toNat (i64.wrap (2+(i64.wrap (2*p1))))) (U32.mk 0)).v)).refs) ((Ent.dec ((l.getD (Int.toNat (i64.wrap (1+(i64.wrap (2*p1))))) (U32.mk 0)).v) ((l.getD (Int.toNat (i64.wrap (2+(i64.wrap (2*p1))))) (U32.mk 0)).v)).state) ((Ent.dec ((l.getD (Int.toNat (i64.wrap (1+(i64.wrap (2*p1))))) (U32.mk 0)).v) ((l.getD (Int.toNat (i64.wrap (2+(i64.wrap (2*p1))))) (U32.mk 0)).v)).aD)]:List Ent)→
     ((l3.length+l1.length)*40≤140737488355328)∧
     ∀(A1:Option Addr)(c1:Nat),
     ∀(l2:List Ent),l2=(l3++l1)→
     ∀p2:Int,p2=(i64.wrap (p1+1))→
     ∃m2,m2<m1∧I m2 p2 y2c A1 c1 l2))) (
   Q ⟨(.tuple #[(.pointer (some (Addr.mk gv1 0 none))),(.int .i64 0)]),(some (.t [(some (.loc 2 0)),none])),[],[(.blk gv1 [(.pointer (some (Addr.mk (rm 0) 0 none))),(.slice A3 l3.length c3),(.int .i64 y2c)] 67),(.lst 4 true 120 A3 c3 l3)],[(.c 2 0,.p (.obj 0 0 0)),(.c 2 1,.p (.sl 3 0))]⟩))
theorem zx:Vc2 Un Tryz.prog (aV [(76,fK),(120,fJ)]) [7] Tryz.f95 (.r' (.two (.two (.node [] (some ⟨[(26,(.one .bool))],[],upN 10 17,[]⟩) [] [] .leaf .leaf) .leaf) (.r' (.two (.r' (.two (.node [(.c 2 1,4,120)] (some ⟨[(7,(.one (.int .i64)))],[],[4,5,7,8,9]++upN 34 42,[(2,(.blk [(.k (.obj 0 0 0)),(.k (.sl 3 0)),(.v (.int .i64))])),(3,(.lst 4))]⟩) [] [] (.r' (.two (.two (.two (.node [] none [] [(5,[1]),(11,[1])] .leaf .leaf) (.two (.two (.node [] (some ⟨[(65,(.one .bool))],[],upN 57 9,[]⟩) [] [(4,[4])] .leaf .leaf) .leaf) (.node [] none [] [(4,[2]),(5,[4])] .leaf .leaf))) .leaf) .leaf)) .leaf) .leaf)) .leaf)))) [1000000,2,3] qJ=(∀rm (m:Mem) A c (l:List U32),∀Q,(((∀x∈l,0≤x.v∧x.v<4294967296))∧split (decide (DB.aE m l=0)) (∀(g:Nat)(A1:Option Addr)(c1:Nat),Q ⟨(.tuple #[(.pointer (some (Addr.mk g 0 none))),(.int .i64 0)]),(some (.t [(some (.loc 2 0)),none])),[],[(.blk g [(.pointer (some (Addr.mk (rm 0) 0 none))),(.slice A1 (((DB.load m l).aj).length) c1),(.int .i64 (DB.wd l 0))] 67),(.lst 4 true 120 A1 c1 ((DB.load m l).aj))],[(.c 2 0,.p (.obj 0 0 0)),(.c 2 1,.p (.sl 3 0))]⟩) (Q ⟨(.tuple #[(.pointer none),(.int .i64 110)]),(some (.t [none,none])),[],[],[]⟩))→zw rm m A c l Q):=by kernel_rfl
theorem zv:LV Un Tryz.prog 95 qJ:=verify Tryz.func95 aa (tb:= [(76,fK),(120,fJ)]) ⟨oe,xr,trivial⟩ (by kernel_rfl) (zx.mpr fun rm m A c l Q h=>by
 try skip
 obtain⟨hp0,h⟩:=h
 exact fun f1=>(by have hS:=f1.2.1;(have e16:i64.wrap (1+i64.wrap (2*(m.S:Int)))=1+2*(m.S:Int):=by rw [ah (x:=2*(m.S:Int)) (by omega),ah (by omega)]);have hwr:=DB.tB hp0;exact bH (((((l.length:Nat):Int):Int) !=(i64.wrap (1+(i64.wrap (2*(m.S:Int)))))) || (decide (((l.getD (Int.toNat 0) (U32.mk 0)).v:Int)>64))) (ae (fun k1=>(by grind)) fun k1=>ai (by((rw [e16]at k1;simp at k1;omega))) fun s2=>(by grind))<| aO (fun k2=>(br h (by(by_cases hn:l.length=1+2*m.S;(rw [DB.sA hn (by rw [e16]at k2;rcases k2 with k2 | k2;(simp at k2;omega);(simpa [DB.wd]using k2))];rfl);(rw [DB.nV hn];rfl))))) fun k2=>(by rw [e16]at k2;(have hlen:l.length=1+2*m.S:=by have:=k2.1;simp at this;omega);(have hb:¬DB.wd l 0>64:=by have:=k2.2;simpa [DB.wd]using this);exact ai (by(omega)) fun s3=>ai (by rfl) fun s4=>fun gv1=>allEq<| ⟨fun m1 p1 y2c A3 c3 l3=>(m1=((m.S:Int) - p1).toNat)∧(0≤p1∧p1≤(m.S:Int))∧(y2c=DB.wd l 0)∧(l3=(List.range p1.toNat).map (DB.load m l).ent)∧(∀q,q<p1.toNat→DB.fF m l q=true),⟨_,rfl,(by omega),(by have:=hwr 0;exact ah (x:=DB.wd l 0) (by omega)),(by rfl),(by intro q hq;omega)⟩,fun m1 _ p1 y2c A3 c3 l3 ⟨hm,hi,hy,hl,hok⟩=>(by(have hwa:p1<(m.S:Int)→(l.getD (Int.toNat (i64.wrap (1+i64.wrap (2*p1)))) (U32.mk 0)).v=DB.wd l (1+2*p1.toNat):=fun hh=>by rw [ah (x:=2*p1) (by omega),ah (by omega),show(1+2*p1).toNat=1+2*p1.toNat by omega];rfl);(have hwb:p1<(m.S:Int)→(l.getD (Int.toNat (i64.wrap (2+i64.wrap (2*p1)))) (U32.mk 0)).v=DB.wd l (2+2*p1.toNat):=fun hh=>by rw [ah (x:=2*p1) (by omega),ah (by omega),show(2+2*p1).toNat=2+2*p1.toNat by omega];rfl);exact aB (fun k3=>(by replace hwa:=hwa k3;replace hwb:=hwb k3;exact ai (by rw [ah (x:=2*p1) (by omega),ah (by omega)];omega) fun s5=>ai (by rw [ah (x:=2*p1) (by omega),ah (by omega)];omega) fun s6=>⟨ai (by rw [hwa,hwb];exact⟨hwr _,hwr _⟩) fun s7=>fun gv3=>bH ((((Ent.cC ((l.getD (Int.toNat (i64.wrap (1+(i64.wrap (2*p1))))) (U32.mk 0)).v) ((l.getD (Int.toNat (i64.wrap (2+(i64.wrap (2*p1))))) (U32.mk 0)).v)):Int) !=0) || (decide (((Ent.dec ((l.getD (Int.toNat (i64.wrap (1+(i64.wrap (2*p1))))) (U32.mk 0)).v) ((l.getD (Int.toNat (i64.wrap (2+(i64.wrap (2*p1))))) (U32.mk 0)).v)).owner:Int)≥(m.S:Int)))) (ae (fun k4=>(by grind)) fun k4=>(by grind))<| aO (fun k5=>(br h (by(rw [hwa,hwb]at k5;rw [DB.cZ hlen hb (p:=p1.toNat) (by omega) (sH k5)];rfl)))) fun k5=>fun gv5=>fun l1 h_l1=>ai (by rw [h_l1,hl];simp;omega) fun s8=>fun A1 c1=>fun l2 h_l2=>allEq<| ⟨_,(by rw [ah (x:=p1+1) (by omega)];omega),rfl,(by rw [ah (x:=p1+1) (by omega)];omega),(hy),(by rw [h_l2,h_l1,hl,hwa,hwb,ah (x:=p1+1) (by omega),show(p1+1).toNat=p1.toNat+1 by omega,List.range_succ,List.map_append];rfl),(by rw [ah (x:=p1+1) (by omega),show(p1+1).toNat=p1.toNat+1 by omega];(rw [hwa,hwb]at k5;exact qf hok k5))⟩,fun gv3=>ai (by rw [hwa,hwb];exact⟨hwr _,hwr _⟩) fun s9=>bH ((((Ent.cC ((l.getD (Int.toNat (i64.wrap (1+(i64.wrap (2*p1))))) (U32.mk 0)).v) ((l.getD (Int.toNat (i64.wrap (2+(i64.wrap (2*p1))))) (U32.mk 0)).v)):Int) !=0) || (decide (((Ent.dec ((l.getD (Int.toNat (i64.wrap (1+(i64.wrap (2*p1))))) (U32.mk 0)).v) ((l.getD (Int.toNat (i64.wrap (2+(i64.wrap (2*p1))))) (U32.mk 0)).v)).owner:Int)≥(m.S:Int)))) (ae (fun k6=>(by grind)) fun k6=>(by grind))<| aO (fun k7=>(br h (by(rw [hwa,hwb]at k7;rw [DB.cZ hlen hb (p:=p1.toNat) (by omega) (sH k7)];rfl)))) fun k7=>fun gv5=>fun l1 h_l1=>ai (by rw [h_l1,hl];simp;omega) fun s10=>fun A1 c1=>fun l2 h_l2=>allEq<| ⟨_,(by rw [ah (x:=p1+1) (by omega)];omega),rfl,(by rw [ah (x:=p1+1) (by omega)];omega),(hy),(by rw [h_l2,h_l1,hl,hwa,hwb,ah (x:=p1+1) (by omega),show(p1+1).toNat=p1.toNat+1 by omega,List.range_succ,List.map_append];rfl),(by rw [ah (x:=p1+1) (by omega),show(p1+1).toNat=p1.toNat+1 by omega];(rw [hwa,hwb]at k7;exact qf hok k7))⟩⟩)) fun k3=>(by(have hl3:(DB.load m l).aj=l3:=by rw [hl,show p1.toNat=m.S by omega];rfl);exact aG ((iJ h (by(rw [DB.nW hlen hb (fun q hq=>hok q (by omega))];rfl))) gv1 A3 c3) rfl rfl (af (congrArg (fun l=>Res.blk (U:=Un) _ l _) (af rfl (af (by grind) (af (congrArg (Value.int .i64) (by omega)) rfl)))) (af (congrArg (Res.lst (U:=Un) 4 true 120 _ _) ‹_›) rfl))))⟩)))
def nu:Ctr Un:=⟨[.one (.obj 0 0)],[],[.ob 2 []],[0],fun rm m K=>∀(g:Nat)(A1:Option Addr)(c1:Nat),K ⟨(.pointer (some (Addr.mk g 0 none))),(some (.p (.loc 1 0))),[.ob 2 (m.bu m.S)],[(.blk g [(.pointer (some (Addr.mk (rm 0) 0 none))),(.slice A1 ((List.replicate m.S Ent.free).length) c1),(.int .i64 0)] 67),(.lst 4 true 120 A1 c1 (List.replicate m.S Ent.free))],[(.c 1 0,.p (.obj 0 0 0)),(.c 1 1,.p (.sl 2 0))]⟩⟩
def Ck(rm:Nat→Nat)(m:Mem)(Q:Ou Un→Prop):Prop:=
 Mem.Wf m→
 (some (.pointer (some (Addr.mk (rm 0) 0 none))):Option Value)=some (.pointer (some (Addr.mk (rm 0) 0 none)))∧
 ∀(gv:Nat),
 ∀p:Int,p=0→
 ∃I:Nat→Int→Mem→Int→Option Addr→Nat→List Ent→Prop,(∃m1,I m1 p m 0 none 0 ([]:List Ent))∧∀(m1:Nat)(_gv1:Nat→Value)(p1:Int)(s0:Mem)(y1c:Int)(A2:Option Addr)(c2:Nat)(l2:List Ent),I m1 p1 s0 y1c A2 c2 l2→
 Mem.Wf s0→
 split (decide (p1<s0.S)) (
  ∀(m3:Mem),m3=(s0.zero true p1)→
  Mem.Wf m3→
  ∀(gv2:Nat),
  ∀(l:List Ent),l=([Ent.mk 0 0 0 0 false]:List Ent)→
  ((l2.length+l.length)*40≤140737488355328)∧
  ∀(A:Option Addr)(c:Nat),
  ∀(l1:List Ent),l1=(l2++l)→
  ∀p2:Int,p2=(i64.wrap (p1+1))→
  ∃m2,m2<m1∧I m2 p2 m3 y1c A c l1) (
  Q ⟨(.pointer (some (Addr.mk gv 0 none))),(some (.p (.loc 1 0))),[.ob 2 s0],[(.blk gv [(.pointer (some (Addr.mk (rm 0) 0 none))),(.slice A2 l2.length c2),(.int .i64 y1c)] 67),(.lst 4 true 120 A2 c2 l2)],[(.c 1 0,.p (.obj 0 0 0)),(.c 1 1,.p (.sl 2 0))]⟩)
theorem Cl:Vc2 Un Tryz.prog (aV [(76,fK),(78,cx),(77,fp)]) [4] Tryz.f31 (.r' (.r' (.r' (.two (.r' (.two (.node [(.c 1 1,4,120)] (some ⟨[(4,(.one (.int .i64)))],[],[4]++upN 10 20,[(0,(.ob 2)),(1,(.blk [(.k (.obj 0 0 0)),(.k (.sl 2 0)),(.v (.int .i64))])),(2,(.lst 4))]⟩) [] [] .leaf .leaf) .leaf)) .leaf)))) [1,2] nu=(∀rm (m:Mem),∀Q,(nu.body rm m Q)→Ck rm m Q):=by kernel_rfl
theorem Cj:LV Un Tryz.prog 31 nu:=verify Tryz.func31 aa (tb:= [(76,fK),(78,cx),(77,fp)]) ⟨oe,jA,ny,trivial⟩ (by kernel_rfl) (Cl.mpr fun rm m Q h=>fun f1=>(by have hS:=f1.2.1;exact ai (by rfl) fun s2=>fun gv=>allEq<| ⟨fun m1 p1 s0 y1c A2 c2 l2=>(m1=((m.S:Int) - p1).toNat)∧(0≤p1∧p1≤(m.S:Int))∧(s0=m.bu p1.toNat)∧(y1c=0)∧(l2=List.replicate p1.toNat Ent.free),⟨_,rfl,(by omega),(by rfl),(by rfl),(by rfl)⟩,fun m1 _ p1 s0 y1c A2 c2 l2 ⟨hm,hi,hs,hy,hl⟩=>(by(have hsS:s0.S=m.S:=by rw [hs,Mem.ja]);exact fun f3=>aB (fun c1=>fun m3 h_m3 f4=>fun gv2=>fun l h_l=>ai (by rw [h_l,hl];simp;omega) fun s5=>fun A c=>fun l1 h_l1=>allEq<| ⟨_,(by rw [ah (x:=p1+1) (by omega)];omega),rfl,(by rw [ah (x:=p1+1) (by omega)];omega),(by rw [h_m3,hs,Mem.oQ _ (by omega)]),(hy),(by rw [h_l1,h_l,hl,ah (x:=p1+1) (by omega),show(p1+1).toNat=p1.toNat+1 by omega,List.replicate_succ'])⟩) fun c1=>(by(have hl3:List.replicate m.S Ent.free=l2:=by rw [hl,show p1.toNat=m.S by omega]);(have hm3:m.bu m.S=s0:=by rw [hs,show p1.toNat=m.S by omega]);exact aG (h gv A2 c2) rfl (af (congrArg (Upd.ob (U:=Un) 2) (show @Eq Mem _ _ from ‹_›)) rfl) (af (congrArg (fun l=>Res.blk (U:=Un) _ l _) (af rfl (af (by grind) (af (congrArg (Value.int .i64) (by omega)) rfl)))) (af (congrArg (Res.lst (U:=Un) 4 true 120 _ _) ‹_›) rfl))))⟩))
end Go.Proofs.YtbjlecpmgocoeaaGreatDoor
end
section
set_option maxRecDepth 100000
set_option maxHeartbeats 1000000
namespace Go.Proofs.YtbjlecpmgocoeaaGreatDoor
open Go Go.RowKit V
open Go.IntKind (i64 u32 u64)
open Go.Proofs (Tryz.prog)
theorem DB.vz(m:Mem):(DB.new m).pd.aj=List.replicate m.S Ent.free:=by
 show(List.range (DB.new m).S).map (fun _=>Ent.free)=_
 rw [DB.vA,List.map_const',List.length_range]
theorem DB.FT {m:Mem} {l:List U32}(hw:∀x∈l,0≤x.v∧x.v<4294967296)(h:DB.aE m l=0)(hS:m.S≤64):(DB.load m l).pd.Ok:=⟨(DB.tS hw h).ent,(DB.tS hw h).aw,hS⟩
theorem DB.Hw {m:Mem}(h:1≤m.S)(hS:m.S≤64):(DB.new m).pd.Ok:=⟨(DB.pQ m h).ent,(DB.pQ m h).aw,by show(DB.new m).S≤64;rw [DB.vA];exact hS⟩
def qI:Ctr Un:=⟨[.one (.obj 0 0)],[],[.ob 2 []],[0],fun rm m K=>1≤m.S∧∀(rN:Nat→Nat),K ⟨(.pointer (some (Addr.mk (rN 0) 0 none))),(some (.p (.obj 1 0 0))),[.ob 2 (m.bu m.S)],[(.ob 3 rN ((DB.new m).pd))],[(.l 1 1,.p (.obj 0 0 0))]⟩⟩
theorem EL:LV Un Tryz.prog 31 qI:=by
 show ∀(rm:Nat→Nat)(m:Mem),∀Q:Ou Un→Prop,(1≤m.S∧∀(rN:Nat→Nat),Q ⟨(.pointer (some (Addr.mk (rN 0) 0 none))),(some (.p (.obj 1 0 0))),[.ob 2 (m.bu m.S)],[(.ob 3 rN ((DB.new m).pd))],[(.l 1 1,.p (.obj 0 0 0))]⟩)→∀(X:Nat→Nat→Prop)(w:World),Sat (U:=Un) [(.ob 2 rm m)] X w→aA (U:=Un) [(.ob 2 rm m)] fr0 []→Calls Tryz.prog 31 #[(.pointer (some (Addr.mk (rm 0) 0 none)))] w (aS (U:=Un) [(.ob 2 rm m)] [0] X w Q)
 intro rm m Q hQ X w hs hl
 obtain⟨hS,hQ⟩:=hQ
 have hwf:Mem.Wf m:=uv (t:=2) (r:=rm) (s:=m) (hs.res 0 _ rfl)
 have h1:=Cj rm m (fun o=>∃(g:Nat)(A1:Option Addr)(c1:Nat),o=⟨(.pointer (some (Addr.mk g 0 none))),(some (.p (.loc 1 0))),[.ob 2 (m.bu m.S)],[(.blk g [(.pointer (some (Addr.mk (rm 0) 0 none))),(.slice A1 ((List.replicate m.S Ent.free).length) c1),(.int .i64 0)] 67),(.lst 4 true 120 A1 c1 (List.replicate m.S Ent.free))],[(.c 1 0,.p (.obj 0 0 0)),(.c 1 1,.p (.sl 2 0))]⟩) (fun g A1 c1=>⟨g,A1,c1,rfl⟩) X w hs hl
 refine h1.mono ?_
 rintro e w' ⟨out,rs',X',rfl,⟨g,A1,c1,rfl⟩,happ,hp⟩
 change aX [Res.ob 2 rm m] [0] [.ob 2 (m.bu m.S)]=some rs' at happ
 have happ2: [Res.ob (U:=Un) 2 rm (m.bu m.S)]=rs':=by simpa [aX,cc,nth,bY]using happ
 subst happ2
 have hb1:RS (U:=Un) (X' 1) w' (.blk g [.pointer (some (Addr.mk (rm 0) 0 none)),.slice A1 (DB.new m).pd.aj.length c1,.int .i64 (DB.new m).pd.aw] 67):=by rw [DB.vz];exact hp.sat.res 1 _ rfl
 have hb2:RS (U:=Un) (X' 2) w' (.lst 4 true 120 A1 c1 (DB.new m).pd.aj):=by rw [DB.vz];exact hp.sat.res 2 _ rfl
 obtain⟨e,hob,hZ⟩:=Dh (E:=(DB.new m).pd) hb1 hb2 (hp.sat.dis 1 2 (by simp) (by simp) (by omega)) (by show 1≤(DB.new m).S;rw [DB.vA];exact hS) (DB.Hw hS hwf.2.1)
 exact aS.pack (k':=some (.p (.obj 1 0 0))) (kc':= [(.l 1 1,.p (.obj 0 0 0))]) happ hp hob (fun k hk=>hk.elim (fun e=>.inl (e▸hb1.1)) (fun e=>.inr (e▸hZ))) (hQ (fun i=>if i=0 then g else if i=1 then rm 0 else if i=2 then e else c1)) rfl (nd ⟨_,_,_,rfl,rfl⟩)
def nw:Ctr Un:=⟨[.one (.obj 0 0),.one (.sl 1)],[],[.ob 2 [],.lst 1 false 22],[],fun rm m A c l K=>((∀x∈l,0≤x.v∧x.v<4294967296))∧1≤m.S∧split (decide (DB.aE m l=0)) (∀(rN:Nat→Nat),K ⟨(.tuple #[(.pointer (some (Addr.mk (rN 0) 0 none))),(.int .i64 0)]),(some (.t [(some (.obj 2 0 0)),none])),[],[(.ob 3 rN ((DB.load m l).pd))],[(.l 2 1,.p (.obj 0 0 0))]⟩) (K ⟨(.tuple #[(.pointer none),(.int .i64 110)]),(some (.t [none,none])),[],[],[]⟩)⟩
theorem Cm:LV Un Tryz.prog 95 nw:=by
 show ∀(rm:Nat→Nat)(m:Mem)(A:Option Addr)(c:Nat)(l:List U32),∀Q:Ou Un→Prop,(((∀x∈l,0≤x.v∧x.v<4294967296))∧1≤m.S∧split (decide (DB.aE m l=0)) (∀(rN:Nat→Nat),Q ⟨(.tuple #[(.pointer (some (Addr.mk (rN 0) 0 none))),(.int .i64 0)]),(some (.t [(some (.obj 2 0 0)),none])),[],[(.ob 3 rN ((DB.load m l).pd))],[(.l 2 1,.p (.obj 0 0 0))]⟩) (Q ⟨(.tuple #[(.pointer none),(.int .i64 110)]),(some (.t [none,none])),[],[],[]⟩))→∀(X:Nat→Nat→Prop)(w:World),Sat (U:=Un) [(.ob 2 rm m),(.lst 1 false 22 A c l)] X w→aA (U:=Un) [(.ob 2 rm m),(.lst 1 false 22 A c l)] fr0 []→Calls Tryz.prog 95 #[(.pointer (some (Addr.mk (rm 0) 0 none))),(.slice A l.length c)] w (aS (U:=Un) [(.ob 2 rm m),(.lst 1 false 22 A c l)] [] X w Q)
 intro rm m A c l Q hQ X w hs hl
 obtain⟨hw,hS,hQ⟩:=hQ
 have hwf:Mem.Wf m:=uv (t:=2) (r:=rm) (s:=m) (hs.res 0 _ rfl)
 have h1:=zv rm m A c l (fun o=>(DB.aE m l=0∧∃(g:Nat)(A1:Option Addr)(c1:Nat),o=⟨(.tuple #[(.pointer (some (Addr.mk g 0 none))),(.int .i64 0)]),(some (.t [(some (.loc 2 0)),none])),[],[(.blk g [(.pointer (some (Addr.mk (rm 0) 0 none))),(.slice A1 (((DB.load m l).aj).length) c1),(.int .i64 (DB.wd l 0))] 67),(.lst 4 true 120 A1 c1 ((DB.load m l).aj))],[(.c 2 0,.p (.obj 0 0 0)),(.c 2 1,.p (.sl 3 0))]⟩)∨(DB.aE m l≠0∧o=⟨(.tuple #[(.pointer none),(.int .i64 110)]),(some (.t [none,none])),[],[],[]⟩)) ⟨hw,ae (fun h g A1 c1=>.inl ⟨of_decide_eq_true h,g,A1,c1,rfl⟩) (fun h=>.inr ⟨of_decide_eq_false h,rfl⟩)⟩ X w hs hl
 refine h1.mono ?_
 rintro e w' ⟨out,rs',X',rfl,⟨he,g,A1,c1,rfl⟩ | ⟨he,rfl⟩,happ,hp⟩
 ·change aX [Res.ob (U:=Un) 2 rm m,.lst 1 false 22 A c l] [] []=some rs' at happ
  have happ2: [Res.ob (U:=Un) 2 rm m,.lst 1 false 22 A c l]=rs':=by simpa [aX]using happ
  subst happ2
  have hb1:RS (U:=Un) (X' 2) w' (.blk g [.pointer (some (Addr.mk (rm 0) 0 none)),.slice A1 (DB.load m l).pd.aj.length c1,.int .i64 (DB.load m l).pd.aw] 67):=hp.sat.res 2 _ rfl
  have hb2:RS (U:=Un) (X' 3) w' (.lst 4 true 120 A1 c1 (DB.load m l).pd.aj):=hp.sat.res 3 _ rfl
  obtain⟨e,hob,hZ⟩:=Dh (E:=(DB.load m l).pd) hb1 hb2 (hp.sat.dis 2 3 (by simp) (by simp) (by omega)) hS (DB.FT hw he hwf.2.1)
  exact aS.pack (k':=some (.t [some (.obj 2 0 0),none])) (kc':= [(.l 2 1,.p (.obj 0 0 0))]) happ hp hob (fun k hk=>hk.elim (fun e=>.inl (e▸hb1.1)) (fun e=>.inr (e▸hZ))) (iJ hQ (decide_eq_true he) (fun i=>if i=0 then g else if i=1 then rm 0 else if i=2 then e else c1)) (KnO.pair rfl) (nd ⟨_,_,_,rfl,rfl⟩)
 ·exact⟨_,_,_,rfl,br hQ (decide_eq_false he),happ,hp⟩
def uR:Ctr Un:=⟨[.one (.obj 0 0),.one (.sl 1)],[],[.ob 0 [],.lst 1 false 22],[],fun rm m A c l K=>((∀x∈l,0≤x.v∧x.v<4294967296))∧1≤m.S∧split (decide (DB.aE m l=0)) (∀(rN:Nat→Nat),K ⟨(.tuple #[(.pointer (some (Addr.mk (rN 0) 0 none))),(.int .i64 0)]),(some (.t [(some (.obj 2 0 0)),none])),[],[(.ob 1 rN ((DB.load m l).pd))],[(.l 2 1,.p (.obj 0 0 0))]⟩) (K ⟨(.tuple #[(.pointer none),(.int .i64 110)]),(some (.t [none,none])),[],[],[]⟩)⟩
theorem GJ:LV Un Tryz.prog 94 uR:=by
 show ∀(rm:Nat→Nat)(m:Mem)(A:Option Addr)(c:Nat)(l:List U32),∀Q:Ou Un→Prop,(((∀x∈l,0≤x.v∧x.v<4294967296))∧1≤m.S∧split (decide (DB.aE m l=0)) (∀(rN:Nat→Nat),Q ⟨(.tuple #[(.pointer (some (Addr.mk (rN 0) 0 none))),(.int .i64 0)]),(some (.t [(some (.obj 2 0 0)),none])),[],[(.ob 1 rN ((DB.load m l).pd))],[(.l 2 1,.p (.obj 0 0 0))]⟩) (Q ⟨(.tuple #[(.pointer none),(.int .i64 110)]),(some (.t [none,none])),[],[],[]⟩))→∀(X:Nat→Nat→Prop)(w:World),Sat (U:=Un) [(.ob 0 rm m),(.lst 1 false 22 A c l)] X w→aA (U:=Un) [(.ob 0 rm m),(.lst 1 false 22 A c l)] fr0 []→Calls Tryz.prog 94 #[(.pointer (some (Addr.mk (rm 0) 0 none))),(.slice A l.length c)] w (aS (U:=Un) [(.ob 0 rm m),(.lst 1 false 22 A c l)] [] X w Q)
 intro rm m A c l Q hQ X w hs hl
 obtain⟨hw,hS,hQ⟩:=hQ
 obtain⟨L,hg,hX,hM⟩:=(hs.res 0 _ rfl:bo 0 rm m (X 0) w)
 have hr:Rd w (X 1) A l.length c l:=hs.res 1 _ rfl
 rw [hg]
 refine(ID hM hr hw).mono ?_
 rintro e w' ⟨u,rfl,p,rfl,hok,hbad,q⟩
 by_cases he:DB.aE m l=0
 ·obtain⟨g,a,rfl,hD,hg1,ha1⟩:=hok he
  have hQ:=iJ hQ (decide_eq_true he) (fun i=>if i=0 then g else L.g)
  rw [he]
  exact aS.vD (Z:=fun k=>k=g∨k=a) hs q (show RS (U:=Un) (fun k=>k=g∨k=a) w' (.ob 1 (fun i=>if i=0 then g else L.g) (DB.load m l).pd)from(⟨a,fun k=>Iff.rfl,hD.pd⟩:bo 1 (fun i=>if i=0 then g else L.g) (DB.load m l).pd (fun k=>k=g∨k=a) w')) (fun k hk=>by rcases hk with rfl | rfl;exact hg1;exact ha1) hQ (KnO.pair rfl) (nd ⟨_,_,_,rfl,show some (Value.pointer (some ⟨rm 0,0,none⟩))=some (.pointer (some ⟨L.g,0,none⟩))by rw [hg]⟩)
 ·have he2:DB.aE m l=110:=by unfold DB.aE at he ⊢;split;rfl;split;rfl;split;(rename_i h1 h2 h3;rw [if_neg h1,if_neg h2,if_pos h3]at he;exact absurd rfl he);rfl
  rw [hbad he,he2]
  exact aS.pu hs q (br hQ (decide_eq_false he)) (KnO.tup _ (by simp))
end Go.Proofs.YtbjlecpmgocoeaaGreatDoor
end
section
set_option maxRecDepth 100000
set_option maxHeartbeats 1000000
namespace Go.Proofs.YtbjlecpmgocoeaaGreatDoor
open Go Go.RowKit V
open Go.IntKind (i64 u32 u64)
open Go.Proofs (Tryz.prog)
attribute [local grind=] Pd.cI Pd.bJ Pd.jk Pd.jE Pd.cX Pd.cu Pd.eE Pd.gg Pd.lQ Pd.pL
attribute [local grind .] Pd.Ok.ent
attribute [local grind→] Pd.Ok.dC
def lD:Ctr Un:=⟨[.one (.any)],[(0,8)],[.ob 8 []],[],fun pv r s K=>Value.pointer (some (Addr.mk (LSt.pD s) 0 none))=pv∧K ⟨(.tuple #[(.int .i64 s.D.broken.1),(.int .i64 s.D.broken.2)]),(some (.t [none,none])),[],[],[]⟩⟩
theorem zm:LV Un Tryz.prog 7 lD:=by
 show ∀(pv:Value)(r:Nat→Nat)(s:LSt),∀Q:Ou Un→Prop,(Value.pointer (some (Addr.mk (LSt.pD s) 0 none))=pv∧Q ⟨(.tuple #[(.int .i64 s.D.broken.1),(.int .i64 s.D.broken.2)]),(some (.t [none,none])),[],[],[]⟩)→∀(X:Nat→Nat→Prop)(w:World),Sat (U:=Un) [(.ob 8 r s)] X w→aA (U:=Un) [(.ob 8 r s)] fr0 []→Calls Tryz.prog 7 #[pv] w (aS (U:=Un) [(.ob 8 r s)] [] X w Q)
 intro pv r s Q hQ X w hs hl
 obtain⟨hpv,hQ⟩:=hQ
 subst hpv
 refine IX hs (fun r1 rm X1 hs1 hl1 e1=>?_) hQ (KnO.tup _ (by simp))
 rw [e1];exact B0 r1 s.D.pd rm s.D.mem (fun o=>o=_) ⟨rfl,rfl⟩ X1 w hs1 hl1
end Go.Proofs.YtbjlecpmgocoeaaGreatDoor
end
section
set_option maxRecDepth 100000
set_option maxHeartbeats 1000000
namespace Go.Proofs.YtbjlecpmgocoeaaGreatDoor
open Go Go.RowKit V
open Go.IntKind (i64 u32 u64)
open Go.Proofs (Tryz.prog)
def dV:Ctr Un:=⟨[.one (.int .i64)],[],[],[],fun n K=>K ⟨(.int .i64 n),none,[],[],[]⟩⟩
def EW(n:Int)(Q:Ou Un→Prop):Prop:=
 Q ⟨(.int .i64 n),none,[],[],[]⟩
theorem EX:Vc2 Un Tryz.prog (aV []) [] Tryz.f26 .leaf [] dV=(∀n,∀Q,(dV.body n Q)→EW n Q):=by kernel_rfl
theorem mH:LV Un Tryz.prog 26 dV:=verify Tryz.func26 aa (tb:= []) trivial (by kernel_rfl) (EX.mpr fun n Q h=>h)
def fL:Ctr Un:=⟨[.one (.int .i64)],[],[],[],fun p K=>K ⟨(.agg #[(.bool true),(.int .i64 p)]),none,[],[],[]⟩⟩
def xM(p:Int)(Q:Ou Un→Prop):Prop:=
 ∀(gv:Nat),
 Q ⟨(.agg #[(.bool true),(.int .i64 p)]),none,[],[],[]⟩
theorem xO:Vc2 Un Tryz.prog (aV []) [] Tryz.f24 .leaf [] fL=(∀p,∀Q,(fL.body p Q)→xM p Q):=by kernel_rfl
theorem xL:LV Un Tryz.prog 24 fL:=verify Tryz.func24 aa (tb:= []) trivial (by kernel_rfl) (xO.mpr fun p Q h=>fun gv=>h)
def iX:Ctr Un:=⟨[.one (.int .i64)],[],[],[],fun n K=>K ⟨(.int .i64 (sz n)),none,[],[],[]⟩⟩
def Cy(n:Int)(Q:Ou Un→Prop):Prop:=
 Q ⟨(.int .i64 (i64.wrap (((i64.wrap ((n.tmod 8)+8)).tmod 8)+1))),none,[],[],[]⟩
theorem Cz:Vc2 Un Tryz.prog (aV []) [] Tryz.f28 .leaf [] iX=(∀n,∀Q,(iX.body n Q)→Cy n Q):=by kernel_rfl
theorem Cx:LV Un Tryz.prog 28 iX:=verify Tryz.func28 aa (tb:= []) trivial (by kernel_rfl) (Cz.mpr fun n Q h=>eH h (by have h1:=Int.lt_tmod_of_pos n (show(0:Int)<8 by decide);have h2:=Int.tmod_lt_of_pos n (show(0:Int)<8 by decide);have h3:=Int.tmod_lt_of_pos (Int.tmod n 8+8) (show(0:Int)<8 by decide);have h4:=Int.tmod_nonneg (a:=Int.tmod n 8+8) 8 (by omega);unfold sz;rw [ah (x:=Int.tmod n 8+8) (by omega),ah (by omega)]))
def dU:Ctr Un:=⟨[.one (.ptr 0),.one (.int .i64),.one (.int .i64),.one (.int .u32)],[],[.blk [.obj 2 0,.obj 1 0,.obj 3 0] 34,.ob 1 [(1,2,0)],.ob 0 [],.ob 3 [(1,4,0)],.ob 2 []],[2,4],fun p off v g r E rm m r2 F rm2 m2 K=>(0≤(v:Int)∧(v:Int)<4294967296)∧K ⟨(.bool (decide (m.err true p off=m2.err true p off))),none,[.ob 0 (m.write true p off v),.ob 2 (m2.write true p off v)],[],[]⟩⟩
def xJ(p:Int)(off:Int)(v:Int)(g:Nat)(r:Nat→Nat)(E:Pd)(rm:Nat→Nat)(m:Mem)(r2:Nat→Nat)(F:Pd)(rm2:Nat→Nat)(m2:Mem)(Q:Ou Un→Prop):Prop:=
 Pd.Ok E→
 Mem.Wf m→
 Pd.Ok F→
 Mem.Wf m2→
 (0≤v∧v<4294967296)∧
 ∀(m1:Mem),m1=(m.write true p off v)→
 Mem.Wf m1→
 (0≤v∧v<4294967296)∧
 ∀(m3:Mem),m3=(m2.write true p off v)→
 Mem.Wf m3→
 Q ⟨(.bool ((m.err true p off)==(m2.err true p off))),none,[.ob 0 m1,.ob 2 m3],[],[]⟩
theorem xK:Vc2 Un Tryz.prog (aV [(24,fL),(23,qV),(25,gV),(26,dV)]) [] Tryz.f8 (.r' (.two (.node [] none [] [(3,[0])] .leaf .leaf) .leaf)) [] dU=(∀p off v g r (E:Pd) rm (m:Mem) r2 (F:Pd) rm2 (m2:Mem),∀Q,(dU.body p off v g r E rm m r2 F rm2 m2 Q)→xJ p off v g r E rm m r2 F rm2 m2 Q):=by kernel_rfl
theorem j7:LV Un Tryz.prog 8 dU:=verify Tryz.func8 aa (tb:= [(24,fL),(23,qV),(25,gV),(26,dV)]) ⟨xL,ER,qL,mH,trivial⟩ (by kernel_rfl) (xK.mpr fun p off v g r E rm m r2 F rm2 m2 Q h=>by
 obtain⟨hp0,h⟩:=h
 exact fun f1 f2 f3 f4=>ai ‹_› fun s5=>fun m1 h_m1 f6=>ai ‹_› fun s7=>fun m3 h_m3 f8=>aG h (congrArg Value.bool (by grind)) (af (congrArg (Upd.ob (U:=Un) 0) (show @Eq Mem _ _ from(by grind))) (af (congrArg (Upd.ob (U:=Un) 2) (show @Eq Mem _ _ from(by grind))) rfl)) rfl)
def gW:Ctr Un:=⟨[.one (.obj 0 0),.one (.int .i64),.one (.int .i64),.one (.int .u32)],[],[.ob 8 []],[0],fun p off v r s K=>s.R=s.D∧(0≤(v:Int)∧(v:Int)<4294967296)∧∀(s1:LSt),((s1.R=s1.D∧s1.D=s.D.wr p off v))→K ⟨(.bool true),none,[.ob 8 s1],[],[]⟩⟩
theorem qX:LV Un Tryz.prog 8 gW:=by
 show ∀(p:Int)(off:Int)(v:Int)(r:Nat→Nat)(s:LSt),∀Q:Ou Un→Prop,(s.R=s.D∧(0≤(v:Int)∧(v:Int)<4294967296)∧∀(s1:LSt),((s1.R=s1.D∧s1.D=s.D.wr p off v))→Q ⟨(.bool true),none,[.ob 8 s1],[],[]⟩)→∀(X:Nat→Nat→Prop)(w:World),Sat (U:=Un) [(.ob 8 r s)] X w→aA (U:=Un) [(.ob 8 r s)] fr0 []→Calls Tryz.prog 8 #[(.pointer (some (Addr.mk (r 0) 0 none))),(.int .i64 p),(.int .i64 off),(.int .u32 v)] w (aS (U:=Un) [(.ob 8 r s)] [0] X w Q)
 intro p off v r s Q hQ X w hs hl
 obtain⟨hR,hv,hQ⟩:=hQ
 refine stA (s.D.mem.write true p off v) (s.R.mem.write true p off v) (Mem.jy ..) (Mem.jy ..) hs (fun r1 rm r2 rm2 X1 hs1 hl1=>?_) (hQ _ ⟨by show s.R.aN _=s.D.aN _;rw [hR],rfl⟩) trivial
 exact j7 p off v (r 0) r1 s.D.pd rm s.D.mem r2 s.R.pd rm2 s.R.mem (fun o=>o=_) ⟨hv,by simp [hR]⟩ X1 w hs1 hl1
def j8:Ctr Un:=⟨[.one (.int .i64),.one (.int .i64)],[],[],[],fun n i K=>∀(g:Nat)(rP:Nat→Nat)(rN:Nat→Nat)(rQ:Nat→Nat)(rM:Nat→Nat),K ⟨(.pointer (some (Addr.mk g 0 none))),(some (.p (.loc 0 0))),[],[(.blk g [(.pointer (some (Addr.mk (rN 0) 0 none))),(.pointer (some (Addr.mk (rP 0) 0 none))),(.pointer (some (Addr.mk (rQ 0) 0 none)))] 34),(.ob 1 rP ((DB.new (Mem.fresh (sz n).toNat (sz i).toNat)).pd)),(.ob 0 rN ((Mem.fresh (sz n).toNat (sz i).toNat).bu (sz n).toNat)),(.ob 3 rQ ((DB.new (Mem.fresh (sz n).toNat (sz i).toNat)).pd)),(.ob 2 rM ((Mem.fresh (sz n).toNat (sz i).toNat).bu (sz n).toNat))],[(.c 0 0,.p (.obj 2 0 0)),(.c 0 1,.p (.obj 1 0 0)),(.c 0 2,.p (.obj 3 0 0)),(.l 3 1,.p (.obj 4 0 0)),(.l 1 1,.p (.obj 2 0 0))]⟩⟩
def xT(n:Int)(i:Int)(Q:Ou Un→Prop):Prop:=
 ((1≤(sz n)∧(sz n)≤64)∧(1≤(sz i)∧(sz i)≤64))∧
 ∀(rN:Nat→Nat),
 ∀(m:Mem),m=(Mem.fresh (sz n).toNat (sz i).toNat)→
 Mem.Wf m→
 ∃J:Bool→Prop,(
  J false)∧∀(_gv:Nat→Value)(x24:Bool),J x24→
 split x24 (
  Q ⟨(.pointer none),none,[],[],[]⟩) (
  1≤m.S∧
  ∀(rN1:Nat→Nat),
  ∀(m1:Mem),m1=(m.bu m.S)→
  Mem.Wf m1→
  ∀(E:Pd),E=(DB.new m).pd→
  Pd.Ok E→
  ((1≤(sz n)∧(sz n)≤64)∧(1≤(sz i)∧(sz i)≤64))∧
  ∀(rN2:Nat→Nat),
  ∀(m2:Mem),m2=(Mem.fresh (sz n).toNat (sz i).toNat)→
  Mem.Wf m2→
  1≤m2.S∧
  ∀(rN3:Nat→Nat),
  ∀(m3:Mem),m3=(m2.bu m2.S)→
  Mem.Wf m3→
  ∀(E1:Pd),E1=(DB.new m2).pd→
  Pd.Ok E1→
  (some (.pointer (some (Addr.mk (rN 0) 0 none))):Option Value)=some (.pointer (some (Addr.mk (rN 0) 0 none)))∧
  (some (.pointer (some (Addr.mk (rN1 0) 0 none))):Option Value)=some (.pointer (some (Addr.mk (rN1 0) 0 none)))∧
  (some (.pointer (some (Addr.mk (rN3 0) 0 none))):Option Value)=some (.pointer (some (Addr.mk (rN3 0) 0 none)))∧
  ∀(gv1:Nat),
  Q ⟨(.pointer (some (Addr.mk gv1 0 none))),(some (.p (.loc 0 0))),[],[(.blk gv1 [(.pointer (some (Addr.mk (rN 0) 0 none))),(.pointer (some (Addr.mk (rN1 0) 0 none))),(.pointer (some (Addr.mk (rN3 0) 0 none)))] 34),(.ob 1 rN1 E),(.ob 0 rN m1),(.ob 3 rN3 E1),(.ob 2 rN2 m3)],[(.c 0 0,.p (.obj 2 0 0)),(.c 0 1,.p (.obj 1 0 0)),(.c 0 2,.p (.obj 3 0 0)),(.l 3 1,.p (.obj 4 0 0)),(.l 1 1,.p (.obj 2 0 0))]⟩)
theorem xU:Vc2 Un Tryz.prog (aV [(28,iX),(27,zJ),(26,dV),(29,zX),(30,qO),(31,qI)]) [] Tryz.f9 (.r' (.r' (.two (.two (.node [] (some ⟨[(24,(.one .bool))],[],upN 18 7,[]⟩) [] [] .leaf .leaf) .leaf) .leaf))) [1000000,4,1,0,3,2] j8=(∀n i,∀Q,(j8.body n i Q)→xT n i Q):=by kernel_rfl
theorem xS:LV Un Tryz.prog 9 j8:=verify Tryz.func9 aa (tb:= [(28,iX),(27,zJ),(26,dV),(29,zX),(30,qO),(31,qI)]) ⟨Cx,H5,mH,H8,EM,EL,trivial⟩ (by kernel_rfl) (xU.mpr fun n i Q h=>by
 have hz1:=C7 n
 have hz2:=C7 i
 exact ai (by omega) fun s1=>fun rN=>fun m h_m f2=>bH false ((by grind))<| eQ<| ai (by subst_vars;show 1≤(sz n).toNat;omega) fun s3=>fun rN1=>fun m1 h_m1 f4=>fun E h_E f5=>ai (by omega) fun s6=>fun rN2=>fun m2 h_m2 f7=>ai (by subst_vars;show 1≤(sz n).toNat;omega) fun s8=>fun rN3=>fun m3 h_m3 f9=>fun E1 h_E1 f10=>ai (by rfl) fun s11=>ai (by rfl) fun s12=>ai (by rfl) fun s13=>fun gv1=>aG (h gv1 rN1 rN rN3 rN2) rfl rfl (af (congrArg (fun l=>Res.blk (U:=Un) _ l _) rfl) (af (congrArg (Res.ob (U:=Un) 1 _) (show @Eq Pd _ _ from(by subst_vars;rfl))) (af (congrArg (Res.ob (U:=Un) 0 _) (show @Eq Mem _ _ from(by subst_vars;rfl))) (af (congrArg (Res.ob (U:=Un) 3 _) (show @Eq Pd _ _ from(by subst_vars;rfl))) (af (congrArg (Res.ob (U:=Un) 2 _) (show @Eq Mem _ _ from(by subst_vars;rfl))) rfl))))))
def lF:Ctr Un:=⟨[.one (.int .i64),.one (.int .i64)],[],[],[],fun n i K=>∀(r:Nat→Nat)(s1:LSt),((s1.R=s1.D∧s1.D=DB.begun n i))→K ⟨(.pointer (some (Addr.mk (r 0) 0 none))),(some (.p (.obj 0 0 0))),[],[(.ob 8 r s1)],[]⟩⟩
theorem zP:LV Un Tryz.prog 9 lF:=by
 show ∀(n:Int)(i:Int),∀Q:Ou Un→Prop,(∀(r:Nat→Nat)(s1:LSt),((s1.R=s1.D∧s1.D=DB.begun n i))→Q ⟨(.pointer (some (Addr.mk (r 0) 0 none))),(some (.p (.obj 0 0 0))),[],[(.ob 8 r s1)],[]⟩)→∀(X:Nat→Nat→Prop)(w:World),Sat (U:=Un) [] X w→aA (U:=Un) [] fr0 []→Calls Tryz.prog 9 #[(.int .i64 n),(.int .i64 i)] w (aS (U:=Un) [] [] X w Q)
 intro n i Q hQ X w hs hl
 have h1:=xS n i (fun o=>∃(g:Nat)(rP rN rQ rM:Nat→Nat),o=⟨(.pointer (some (Addr.mk g 0 none))),(some (.p (.loc 0 0))),[],[(.blk g [(.pointer (some (Addr.mk (rN 0) 0 none))),(.pointer (some (Addr.mk (rP 0) 0 none))),(.pointer (some (Addr.mk (rQ 0) 0 none)))] 34),(.ob 1 rP ((DB.new (Mem.fresh (sz n).toNat (sz i).toNat)).pd)),(.ob 0 rN ((Mem.fresh (sz n).toNat (sz i).toNat).bu (sz n).toNat)),(.ob 3 rQ ((DB.new (Mem.fresh (sz n).toNat (sz i).toNat)).pd)),(.ob 2 rM ((Mem.fresh (sz n).toNat (sz i).toNat).bu (sz n).toNat))],[(.c 0 0,.p (.obj 2 0 0)),(.c 0 1,.p (.obj 1 0 0)),(.c 0 2,.p (.obj 3 0 0)),(.l 3 1,.p (.obj 4 0 0)),(.l 1 1,.p (.obj 2 0 0))]⟩) (fun g rP rN rQ rM=>⟨g,rP,rN,rQ,rM,rfl⟩) X w hs hl
 refine h1.mono ?_
 rintro e w' ⟨out,rs',X',rfl,⟨g,rP,rN,rQ,rM,rfl⟩,happ,hp⟩
 obtain rfl: []=rs':=Option.some.inj happ
 have hsat:Sat (aux g rP (DB.new (Mem.fresh (sz n).toNat (sz i).toNat)).pd rN ((Mem.fresh (sz n).toNat (sz i).toNat).bu (sz n).toNat) rQ (DB.new (Mem.fresh (sz n).toNat (sz i).toNat)).pd rM ((Mem.fresh (sz n).toNat (sz i).toNat).bu (sz n).toNat)) X' w':=hp.sat
 have l1:rP 1=rN 0:=by
  obtain⟨t,r,s,h1,h2⟩:=hp.kc (.l 1 1) (.p (.obj 2 0 0)) (by simp) (by simp)
  have h1:some (Res.ob (U:=Un) 1 rP (DB.new (Mem.fresh (sz n).toNat (sz i).toNat)).pd)=some (.ob t r s):=h1
  cases h1
  have h2:some (Value.pointer (some ⟨rN 0,0,none⟩))=some (.pointer (some ⟨rP 1,0,none⟩)):=h2
  simpa using h2.symm
 have l2:rQ 1=rM 0:=by
  obtain⟨t,r,s,h1,h2⟩:=hp.kc (.l 3 1) (.p (.obj 4 0 0)) (by simp) (by simp)
  have h1:some (Res.ob (U:=Un) 3 rQ (DB.new (Mem.fresh (sz n).toNat (sz i).toNat)).pd)=some (.ob t r s):=h1
  cases h1
  have h2:some (Value.pointer (some ⟨rM 0,0,none⟩))=some (.pointer (some ⟨rQ 1,0,none⟩)):=h2
  simpa using h2.symm
 obtain⟨Z,hZ,hc⟩:=tQ hsat l1 l2 rfl rfl
 exact aS.vD (Z:=Z) (k:=some (.p (.obj 0 0 0))) (kc:= []) hs (Ax hp.ch) (show RS (U:=Un) Z w' (.ob 8 (fun _=>g) _)from hZ) (fun k hk=>by obtain⟨i,hi,h⟩:=hc k hk;exact hp.new i (by simp) (by simpa using hi) k h) (hQ (fun _=>g) _ ⟨rfl,rfl⟩) rfl (fun _ _ h=>by cases h)
def fM:Ctr Un:=⟨[.one (.ptr 0),.agg [.int .i64,.int .i64,.int .i64,.int .i64,.int .u32,.any]],[],[.blk [.obj 2 0,.obj 1 0,.obj 3 0] 34,.ob 1 [(1,2,0)],.ob 0 [],.ob 3 [(1,4,0)],.ob 2 []],[0],fun k a b c v ws g r E rm m r2 F rm2 m2 K=>E.n=m.S∧E=F∧m=m2∧(0≤(v:Int)∧(v:Int)<4294967296)∧1≤m.S∧split (decide (DB.aE m (DB.ldw (E.on m) a v)=0)) (∀(rN:Nat→Nat)(rN2:Nat→Nat),K ⟨(.bool true),none,[.blk [(.pointer (some (Addr.mk (rm 0) 0 none))),(.pointer (some (Addr.mk (rN 0) 0 none))),(.pointer (some (Addr.mk (rN2 0) 0 none)))]],[(.ob 1 rN ((DB.load m (DB.ldw (E.on m) a v)).pd)),(.ob 3 rN2 ((DB.load m (DB.ldw (E.on m) a v)).pd))],[(.c 0 2,.p (.obj 6 0 0)),(.c 0 1,.p (.obj 5 0 0)),(.l 6 1,.p (.obj 4 0 0)),(.l 5 1,.p (.obj 2 0 0)),(.c 0 0,.p (.obj 2 0 0))]⟩) (K ⟨(.bool true),none,[.blk [(.pointer (some (Addr.mk (rm 0) 0 none))),(.pointer (some (Addr.mk (r 0) 0 none))),(.pointer (some (Addr.mk (r2 0) 0 none)))]],[],[(.c 0 0,.p (.obj 2 0 0)),(.c 0 1,.p (.obj 1 0 0)),(.c 0 2,.p (.obj 3 0 0))]⟩)⟩
def xQ(k:Int)(a:Int)(b:Int)(c:Int)(v:Int)(ws:Value)(g:Nat)(r:Nat→Nat)(E:Pd)(rm:Nat→Nat)(m:Mem)(r2:Nat→Nat)(F:Pd)(rm2:Nat→Nat)(m2:Mem)(Q:Ou Un→Prop):Prop:=
 Pd.Ok E→
 Mem.Wf m→
 Pd.Ok F→
 Mem.Wf m2→
 ∀(gv:Nat),
 E.n=m.S∧
 ∀(A:Option Addr)(c1:Nat),
 ∀(l:List U32),l=(E.on m).words.map U32.mk→
 F.n=m2.S∧
 ∀(A1:Option Addr)(c2:Nat),
 ∀(l1:List U32),l1=(F.on m2).words.map U32.mk→
 ∃J:Bool→Prop,(
  split (((((E.on m).words.map U32.mk).length):Int) !=((((F.on m2).words.map U32.mk).length):Int)) (
   J true) (
   J (((((E.on m).words.map U32.mk).length):Int)==0)))∧∀(_gv1:Nat→Value)(x31:Bool),J x31→
 split x31 (
  Q ⟨(.bool false),none,[.blk [(.pointer (some (Addr.mk (rm 0) 0 none))),(.pointer (some (Addr.mk (r 0) 0 none))),(.pointer (some (Addr.mk (r2 0) 0 none)))]],[],[(.c 0 0,.p (.obj 2 0 0)),(.c 0 1,.p (.obj 1 0 0)),(.c 0 2,.p (.obj 3 0 0))]⟩) (
  nz ((((E.on m).words.map U32.mk).length):Int) (
   nz ((((E.on m).words.map U32.mk).length):Int) (
    ∀k1:Int,k1=((i64.wrap (((a:Int).tmod (((((E.on m).words.map U32.mk).length):Nat):Int))+(((((E.on m).words.map U32.mk).length):Nat):Int)):Int).tmod (((((E.on m).words.map U32.mk).length):Nat):Int))→
    (0≤k1∧k1<(l.length:Int))∧
    ∀(l2:List U32),l2=(l.set k1.toNat (U32.mk v))→
    (0≤k1∧k1<(l1.length:Int))∧
    ∀(l3:List U32),l3=(l1.set k1.toNat (U32.mk v))→
    ((∀x∈l2,0≤x.v∧x.v<4294967296))∧
    1≤m.S∧
    split (decide (DB.aE m l2=0)) (
     ∀(rN:Nat→Nat),
     ∀(E1:Pd),E1=(DB.load m l2).pd→
     Pd.Ok E1→
     ((∀x∈l3,0≤x.v∧x.v<4294967296))∧
     1≤m2.S∧
     split (decide (DB.aE m2 l3=0)) (
      ∀(rN1:Nat→Nat),
      ∀(E2:Pd),E2=(DB.load m2 l3).pd→
      Pd.Ok E2→
      ∃J1:Bool→Prop,(
       J1 (!(false==false)))∧∀(_gv2:Nat→Value)(x84:Bool),J1 x84→
      split x84 (
       Q ⟨(.bool false),none,[.blk [(.pointer (some (Addr.mk (rm 0) 0 none))),(.pointer (some (Addr.mk (r 0) 0 none))),(.pointer (some (Addr.mk (r2 0) 0 none)))]],[],[(.c 0 0,.p (.obj 2 0 0)),(.c 0 1,.p (.obj 1 0 0)),(.c 0 2,.p (.obj 3 0 0))]⟩) (
       Q ⟨(.bool true),none,[.blk [(.pointer (some (Addr.mk (rm 0) 0 none))),(.pointer (some (Addr.mk (rN 0) 0 none))),(.pointer (some (Addr.mk (rN1 0) 0 none)))]],[(.ob 1 rN E1),(.ob 3 rN1 E2)],[(.c 0 2,.p (.obj 6 0 0)),(.c 0 1,.p (.obj 5 0 0)),(.l 6 1,.p (.obj 4 0 0)),(.l 5 1,.p (.obj 2 0 0)),(.c 0 0,.p (.obj 2 0 0))]⟩)) (
      ∃J1:Bool→Prop,(
       J1 true)∧∀(_gv2:Nat→Value)(x84:Bool),J1 x84→
      split x84 (
       Q ⟨(.bool false),none,[.blk [(.pointer (some (Addr.mk (rm 0) 0 none))),(.pointer (some (Addr.mk (r 0) 0 none))),(.pointer (some (Addr.mk (r2 0) 0 none)))]],[],[(.c 0 0,.p (.obj 2 0 0)),(.c 0 1,.p (.obj 1 0 0)),(.c 0 2,.p (.obj 3 0 0))]⟩) (
       False))) (
     ((∀x∈l3,0≤x.v∧x.v<4294967296))∧
     1≤m2.S∧
     split (decide (DB.aE m2 l3=0)) (
      ∀(rN:Nat→Nat),
      ∀(E1:Pd),E1=(DB.load m2 l3).pd→
      Pd.Ok E1→
      ∃J1:Bool→Prop,(
       J1 true)∧∀(_gv2:Nat→Value)(x84:Bool),J1 x84→
      split x84 (
       Q ⟨(.bool false),none,[.blk [(.pointer (some (Addr.mk (rm 0) 0 none))),(.pointer (some (Addr.mk (r 0) 0 none))),(.pointer (some (Addr.mk (r2 0) 0 none)))]],[],[(.c 0 0,.p (.obj 2 0 0)),(.c 0 1,.p (.obj 1 0 0)),(.c 0 2,.p (.obj 3 0 0))]⟩) (
       Q ⟨(.bool true),none,[.blk [(.pointer (some (Addr.mk (rm 0) 0 none))),(.pointer (some (Addr.mk (r 0) 0 none))),(.pointer (some (Addr.mk (r2 0) 0 none)))]],[],[(.c 0 0,.p (.obj 2 0 0)),(.c 0 1,.p (.obj 1 0 0)),(.c 0 2,.p (.obj 3 0 0))]⟩)) (
      ∃J1:Bool→Prop,(
       J1 (!(true==true)))∧∀(_gv2:Nat→Value)(x84:Bool),J1 x84→
      split x84 (
       Q ⟨(.bool false),none,[.blk [(.pointer (some (Addr.mk (rm 0) 0 none))),(.pointer (some (Addr.mk (r 0) 0 none))),(.pointer (some (Addr.mk (r2 0) 0 none)))]],[],[(.c 0 0,.p (.obj 2 0 0)),(.c 0 1,.p (.obj 1 0 0)),(.c 0 2,.p (.obj 3 0 0))]⟩) (
       Q ⟨(.bool true),none,[.blk [(.pointer (some (Addr.mk (rm 0) 0 none))),(.pointer (some (Addr.mk (r 0) 0 none))),(.pointer (some (Addr.mk (r2 0) 0 none)))]],[],[(.c 0 0,.p (.obj 2 0 0)),(.c 0 1,.p (.obj 1 0 0)),(.c 0 2,.p (.obj 3 0 0))]⟩))))))
theorem xR:Vc2 Un Tryz.prog (aV [(52,qZ),(93,lE),(94,uR),(95,nw),(26,dV)]) [7] Tryz.f45 (.r' (.r' (.r' (.two (.two (.node [] (some ⟨[(31,(.one .bool))],[],upN 22 10,[]⟩) [] [] .leaf .leaf) .leaf) (.r' (.r' (.r' (.r' (.r' (.two (.two (.node [] (some ⟨[(84,(.one .bool))],[],upN 74 11,[]⟩) [] [] .leaf .leaf) .leaf) .leaf)))))))))) [1000000,8,9] fM=(∀k a b c v ws g r (E:Pd) rm (m:Mem) r2 (F:Pd) rm2 (m2:Mem),∀Q,(fM.body k a b c v ws g r E rm m r2 F rm2 m2 Q)→xQ k a b c v ws g r E rm m r2 F rm2 m2 Q):=by kernel_rfl
theorem xP:LV Un Tryz.prog 45 fM:=verify Tryz.func45 aa (tb:= [(52,qZ),(93,lE),(94,uR),(95,nw),(26,dV)]) ⟨E8,zr,GJ,Cm,mH,trivial⟩ (by kernel_rfl) (xR.mpr fun k a b c v ws g r E rm m r2 F rm2 m2 Q h=>by
 obtain⟨hp0,hp1,hp2,hp3,hp4,h⟩:=h
 subst hp1
 subst hp2
 exact fun f1 f2 f3 f4=>fun gv=>(by have hok:=Pd.Ok.on f1 hp0;(have hS:(E.on m).S≤64:=by rw [Pd.pL _ _ hp0];exact f1.dC);(have hwl:((E.on m).words.map U32.mk).length=1+2*(E.on m).S:=by rw [List.length_map,DB.gm]);exact ai ‹_› fun s5=>fun A c1=>fun l h_l=>ai ‹_› fun s6=>fun A1 c2=>fun l1 h_l1=>bH ((((((((E.on m).words.map U32.mk).length):Nat):Int):Int) !=(((((E.on m).words.map U32.mk).length):Nat):Int)) || (((((((E.on m).words.map U32.mk).length):Nat):Int):Int)==0)) (ae (fun c1=>(by grind)) fun c1=>(by grind))<| aO (fun c2=>aG (br h (by(exfalso;rw [hwl]at c2;simp at c2;omega))) (congrArg Value.bool (by(exfalso;rw [hwl]at c2;simp at c2;omega))) (af (congrArg Upd.blk rfl) rfl) rfl) fun c2=>Ad (by rw [hwl];omega)<| Ad (by rw [hwl];omega)<| allEq<| ai (DB.Aj hS ‹_›) fun s7=>fun l2 h_l2=>ai (DB.Aj hS ‹_›) fun s8=>fun l3 h_l3=>ai (by rw [DB.ldw_eq hS h_l h_l2];exact DB.nb hok hp3) fun s9=>ai ‹_› fun s10=>aB (fun c3=>fun rN=>fun E1 h_E1 f11=>ai (by rw [DB.ldw_eq hS h_l1 h_l3];exact DB.nb hok hp3) fun s12=>ai ‹_› fun s13=>aB (fun c4=>fun rN1=>fun E2 h_E2 f14=>bH (!(false==false)) ((by grind))<| bn (fun c5=>aG (br h (by(have e1:=DB.ldw_eq hS h_l h_l2;have e2:=DB.ldw_eq hS h_l1 h_l3;grind))) (congrArg Value.bool (by(have e1:=DB.ldw_eq hS h_l h_l2;have e2:=DB.ldw_eq hS h_l1 h_l3;grind))) (af (congrArg Upd.blk rfl) rfl) rfl) fun c5=>aG ((iJ h (by(have e1:=DB.ldw_eq hS h_l h_l2;have e2:=DB.ldw_eq hS h_l1 h_l3;grind))) rN rN1) rfl (af (congrArg Upd.blk rfl) rfl) (af (congrArg (Res.ob (U:=Un) 1 _) (show @Eq Pd _ _ from(by(have e1:=DB.ldw_eq hS h_l h_l2;have e2:=DB.ldw_eq hS h_l1 h_l3;grind)))) (af (congrArg (Res.ob (U:=Un) 3 _) (show @Eq Pd _ _ from(by(have e1:=DB.ldw_eq hS h_l h_l2;have e2:=DB.ldw_eq hS h_l1 h_l3;grind)))) rfl))) fun c4=>bH true ((by grind))<| bk<| aG (br h (by(have e1:=DB.ldw_eq hS h_l h_l2;have e2:=DB.ldw_eq hS h_l1 h_l3;grind))) (congrArg Value.bool (by(have e1:=DB.ldw_eq hS h_l h_l2;have e2:=DB.ldw_eq hS h_l1 h_l3;grind))) (af (congrArg Upd.blk rfl) rfl) rfl) fun c3=>ai (by rw [DB.ldw_eq hS h_l1 h_l3];exact DB.nb hok hp3) fun s15=>ai ‹_› fun s16=>aB (fun c6=>fun rN=>fun E1 h_E1 f17=>bH true ((by grind))<| bk<| aG (br h (by(have e1:=DB.ldw_eq hS h_l h_l2;have e2:=DB.ldw_eq hS h_l1 h_l3;grind))) (congrArg Value.bool (by(have e1:=DB.ldw_eq hS h_l h_l2;have e2:=DB.ldw_eq hS h_l1 h_l3;grind))) (af (congrArg Upd.blk rfl) rfl) rfl) fun c6=>bH (!(true==true)) ((by grind))<| bn (fun c7=>aG (br h (by(have e1:=DB.ldw_eq hS h_l h_l2;have e2:=DB.ldw_eq hS h_l1 h_l3;grind))) (congrArg Value.bool (by(have e1:=DB.ldw_eq hS h_l h_l2;have e2:=DB.ldw_eq hS h_l1 h_l3;grind))) (af (congrArg Upd.blk rfl) rfl) rfl) fun c7=>aG (br h (by(have e1:=DB.ldw_eq hS h_l h_l2;have e2:=DB.ldw_eq hS h_l1 h_l3;grind))) (congrArg Value.bool (by(have e1:=DB.ldw_eq hS h_l h_l2;have e2:=DB.ldw_eq hS h_l1 h_l3;grind))) (af (congrArg Upd.blk rfl) rfl) rfl))
end Go.Proofs.YtbjlecpmgocoeaaGreatDoor
end
section
set_option maxRecDepth 100000
set_option maxHeartbeats 1000000
namespace Go.Proofs.YtbjlecpmgocoeaaGreatDoor
open Go Go.RowKit V
open Go.IntKind (i64 u32 u64)
open Go.Proofs (Tryz.prog)
def et:Ctr Un:=⟨[.one (.ptr 0),.agg [.int .i64,.int .i64,.int .i64,.int .i64,.int .u32,.any]],[(5,5),(6,6)],[.blk [.obj 2 0,.obj 1 0,.obj 3 0] 34,.ob 1 [(1,2,0)],.ob 0 [],.ob 3 [(1,4,0)],.ob 2 [],.ob 5 [],.ob 6 []],[2,4],fun k a b c v ws g r E rm m r2 F rm2 m2 rk kk rk2 kk2 K=>m=m2∧kk2=kk∧(0≤(v:Int)∧(v:Int)<4294967296)∧K ⟨(.bool true),none,[.ob 0 (((E.on m).ew kk a v).mem),.ob 2 (((E.on m).ew kk a v).mem)],[],[]⟩⟩
def rT(k:Int)(a:Int)(b:Int)(c:Int)(v:Int)(ws:Value)(g:Nat)(r:Nat→Nat)(E:Pd)(rm:Nat→Nat)(m:Mem)(r2:Nat→Nat)(F:Pd)(rm2:Nat→Nat)(m2:Mem)(rk:Nat→Nat)(kk:List Int)(rk2:Nat→Nat)(kk2:List Int)(Q:Ou Un→Prop):Prop:=
 Pd.Ok E→
 Mem.Wf m→
 Pd.Ok F→
 Mem.Wf m2→
 ∀(gv:Nat),
 ∀(rN:Nat→Nat),
 ∀(s:Dg),s=Dg.new→
 ∀(gv1:Nat),
 ∀i:Int,i=0→
 ∃I:Nat→Int→Dg→Int→Int→Int→Int→Int→Int→Int→Int→Int→Option Addr→Nat→List U32→Prop,(∃m1,I m1 i s S8.first.a S8.first.b S8.first.c S8.first.d S8.first.e S8.first.f S8.first.g S8.first.h 0 none 0 ([]:List U32))∧∀(m1:Nat)(_gv2:Nat→Value)(i1:Int)(s8:Dg)(y9a:Int)(y9b:Int)(y9c:Int)(y9d:Int)(y9e:Int)(y9f:Int)(y9g:Int)(y9h:Int)(y9j:Int)(A10:Option Addr)(c10:Nat)(l10:List U32),I m1 i1 s8 y9a y9b y9c y9d y9e y9f y9g y9h y9j A10 c10 l10→
 ∃J:Bool→Prop,(
  split (decide (i1<v)) (
   J (decide (i1<40))) (
   J false))∧∀(_gv3:Nat→Value)(x21:Bool),J x21→
 split x21 (
  ∀(gv4:Nat),
  ∀(l:List U32),l=([U32.mk 7]:List U32)→
  s8.Ok∧
  l.length≤1099511627776∧
  ∀(s1:Dg),s1=(s8.add kk l)→
  ∀(gv5:Nat),
  ∀(l1:List U32),l1=([U32.mk 7]:List U32)→
  (Dg.mk (S8.mk y9a y9b y9c y9d y9e y9f y9g y9h) y9j l10).Ok∧
  (l1.length≤1099511627776∧l1.length≤36028797018963968 - y9j)∧
  ∀(A1:Option Addr)(c1:Nat),
  ∀(l2:List U32),l2=((Dg.mk (S8.mk y9a y9b y9c y9d y9e y9f y9g y9h) y9j l10).add kk2 l1).waits→
  ∀i2:Int,i2=(u32.wrap (i1+1))→
  ∃m3,m3<m1∧I m3 i2 s1 (((Dg.mk (S8.mk y9a y9b y9c y9d y9e y9f y9g y9h) y9j l10).add kk2 l1).st.a) (((Dg.mk (S8.mk y9a y9b y9c y9d y9e y9f y9g y9h) y9j l10).add kk2 l1).st.b) (((Dg.mk (S8.mk y9a y9b y9c y9d y9e y9f y9g y9h) y9j l10).add kk2 l1).st.c) (((Dg.mk (S8.mk y9a y9b y9c y9d y9e y9f y9g y9h) y9j l10).add kk2 l1).st.d) (((Dg.mk (S8.mk y9a y9b y9c y9d y9e y9f y9g y9h) y9j l10).add kk2 l1).st.e) (((Dg.mk (S8.mk y9a y9b y9c y9d y9e y9f y9g y9h) y9j l10).add kk2 l1).st.f) (((Dg.mk (S8.mk y9a y9b y9c y9d y9e y9f y9g y9h) y9j l10).add kk2 l1).st.g) (((Dg.mk (S8.mk y9a y9b y9c y9d y9e y9f y9g y9h) y9j l10).add kk2 l1).st.h) (((Dg.mk (S8.mk y9a y9b y9c y9d y9e y9f y9g y9h) y9j l10).add kk2 l1).n) A1 c1 l2) (
  s8.Ok∧
  ∀(gv4:Nat),
  ∀(s1:List U32),s1=([U32.mk 0,U32.mk 0,U32.mk 0,U32.mk 0,U32.mk 0,U32.mk 0,U32.mk 0,U32.mk 0,U32.mk 0,U32.mk 0,U32.mk 0,U32.mk 0,U32.mk 0,U32.mk 0,U32.mk 0,U32.mk 0,U32.mk 0,U32.mk 0,U32.mk 0,U32.mk 0,U32.mk 0,U32.mk 0,U32.mk 0,U32.mk 0,U32.mk 0,U32.mk 0]:List U32)→
  (s1.length=26)∧
  ∀(s2:List U32),s2=(Dg.svL s8)→
  (s2.length=26)∧
  (Dg.mk (S8.mk y9a y9b y9c y9d y9e y9f y9g y9h) y9j l10).Ok∧
  cg (vm [.int .u32] 26) (#[(.int .u32 ((s2.getD 0 (U32.mk 0)).v)),(.int .u32 ((s2.getD 1 (U32.mk 0)).v)),(.int .u32 ((s2.getD 2 (U32.mk 0)).v)),(.int .u32 ((s2.getD 3 (U32.mk 0)).v)),(.int .u32 ((s2.getD 4 (U32.mk 0)).v)),(.int .u32 ((s2.getD 5 (U32.mk 0)).v)),(.int .u32 ((s2.getD 6 (U32.mk 0)).v)),(.int .u32 ((s2.getD 7 (U32.mk 0)).v)),(.int .u32 ((s2.getD 8 (U32.mk 0)).v)),(.int .u32 ((s2.getD 9 (U32.mk 0)).v)),(.int .u32 ((s2.getD 10 (U32.mk 0)).v)),(.int .u32 ((s2.getD 11 (U32.mk 0)).v)),(.int .u32 ((s2.getD 12 (U32.mk 0)).v)),(.int .u32 ((s2.getD 13 (U32.mk 0)).v)),(.int .u32 ((s2.getD 14 (U32.mk 0)).v)),(.int .u32 ((s2.getD 15 (U32.mk 0)).v)),(.int .u32 ((s2.getD 16 (U32.mk 0)).v)),(.int .u32 ((s2.getD 17 (U32.mk 0)).v)),(.int .u32 ((s2.getD 18 (U32.mk 0)).v)),(.int .u32 ((s2.getD 19 (U32.mk 0)).v)),(.int .u32 ((s2.getD 20 (U32.mk 0)).v)),(.int .u32 ((s2.getD 21 (U32.mk 0)).v)),(.int .u32 ((s2.getD 22 (U32.mk 0)).v)),(.int .u32 ((s2.getD 23 (U32.mk 0)).v)),(.int .u32 ((s2.getD 24 (U32.mk 0)).v)),(.int .u32 ((s2.getD 25 (U32.mk 0)).v))]:Array Value).toList=true∧
  cg (vm [.int .u32] 26) (⟨Dg.sv (Dg.mk (S8.mk y9a y9b y9c y9d y9e y9f y9g y9h) y9j l10)⟩:Array Value).toList=true∧
  split (!(bh #[(.int .u32 ((s2.getD 0 (U32.mk 0)).v)),(.int .u32 ((s2.getD 1 (U32.mk 0)).v)),(.int .u32 ((s2.getD 2 (U32.mk 0)).v)),(.int .u32 ((s2.getD 3 (U32.mk 0)).v)),(.int .u32 ((s2.getD 4 (U32.mk 0)).v)),(.int .u32 ((s2.getD 5 (U32.mk 0)).v)),(.int .u32 ((s2.getD 6 (U32.mk 0)).v)),(.int .u32 ((s2.getD 7 (U32.mk 0)).v)),(.int .u32 ((s2.getD 8 (U32.mk 0)).v)),(.int .u32 ((s2.getD 9 (U32.mk 0)).v)),(.int .u32 ((s2.getD 10 (U32.mk 0)).v)),(.int .u32 ((s2.getD 11 (U32.mk 0)).v)),(.int .u32 ((s2.getD 12 (U32.mk 0)).v)),(.int .u32 ((s2.getD 13 (U32.mk 0)).v)),(.int .u32 ((s2.getD 14 (U32.mk 0)).v)),(.int .u32 ((s2.getD 15 (U32.mk 0)).v)),(.int .u32 ((s2.getD 16 (U32.mk 0)).v)),(.int .u32 ((s2.getD 17 (U32.mk 0)).v)),(.int .u32 ((s2.getD 18 (U32.mk 0)).v)),(.int .u32 ((s2.getD 19 (U32.mk 0)).v)),(.int .u32 ((s2.getD 20 (U32.mk 0)).v)),(.int .u32 ((s2.getD 21 (U32.mk 0)).v)),(.int .u32 ((s2.getD 22 (U32.mk 0)).v)),(.int .u32 ((s2.getD 23 (U32.mk 0)).v)),(.int .u32 ((s2.getD 24 (U32.mk 0)).v)),(.int .u32 ((s2.getD 25 (U32.mk 0)).v))] ⟨Dg.sv (Dg.mk (S8.mk y9a y9b y9c y9d y9e y9f y9g y9h) y9j l10)⟩)) (
   Q ⟨(.bool false),none,[.ob 0 m,.ob 2 m2],[],[]⟩) (
   ∀i2:Int,i2=0→
   ∃I1:Nat→Int→Mem→Mem→Prop,(∃m4,I1 m4 i2 m m2)∧∀(m4:Nat)(_gv5:Nat→Value)(i3:Int)(s21:Mem)(s4:Mem),I1 m4 i3 s21 s4→
   Mem.Wf s21→
   Mem.Wf s4→
   split (decide (i3<26)) (
    ((0≤i3∧i3<(s2.length:Int))∧i3<(26:Int))∧
    (0≤((s2.getD i3.toNat (U32.mk 0)).v)∧((s2.getD i3.toNat (U32.mk 0)).v)<4294967296)∧
    ∀(m6:Mem),m6=(s21.write true a (i64.wrap (11+i3)) ((s2.getD i3.toNat (U32.mk 0)).v))→
    Mem.Wf m6→
    ∀(m7:Mem),m7=(s4.write true a (i64.wrap (11+i3)) ((s2.getD i3.toNat (U32.mk 0)).v))→
    Mem.Wf m7→
    split (!(decide (s21.err true a (i64.wrap (11+i3))=s4.err true a (i64.wrap (11+i3))))) (
     Q ⟨(.bool false),none,[.ob 0 m6,.ob 2 m7],[],[]⟩) (
     ∀i4:Int,i4=(i64.wrap (i3+1))→
     ∃m5,m5<m4∧I1 m5 i4 m6 m7)) (
    Q ⟨(.bool true),none,[.ob 0 s21,.ob 2 s4],[],[]⟩)))
theorem rU:Vc2 Un Tryz.prog (aV [(87,zo),(88,qR),(89,zq),(90,qU),(91,uy),(92,nA),(8,dU)]) [7,9] Tryz.f44 (.r' (.r' (.r' (.r' (.two (.two (.node [(.c 9 8,1,22)] none [] [] .leaf .leaf) (.two (.node [] (some ⟨[(7,(.one (.int .u32)))],[],[7]++upN 14 16,[(8,(.ob 4)),(9,(.blk [(.v (.int .u32)),(.v (.int .u32)),(.v (.int .u32)),(.v (.int .u32)),(.v (.int .u32)),(.v (.int .u32)),(.v (.int .u32)),(.v (.int .u32)),(.k (.sl 10 0)),(.v (.int .i64))])),(10,(.lst 1))]⟩) [] [] (.two (.two (.node [] (some ⟨[(21,(.one .bool))],[],upN 14 8,[]⟩) [] [] .leaf .leaf) .leaf) .leaf) .leaf) .leaf)) (.r' (.two (.two (.node [] none [] [(0,[11]),(1,[9])] .leaf .leaf) .leaf) (.two (.r' (.two (.node [] (some ⟨[(9,(.one (.int .i64)))],[],[4,9]++upN 36 14,[(2,(.ob 0)),(4,(.ob 2))]⟩) [] [] (.r' (.two (.two (.two (.node [] none [] [(2,[7]),(7,[11])] .leaf .leaf) .leaf) .leaf) .leaf)) .leaf) .leaf)) .leaf)))))))) [] et=(∀k a b c v ws g r (E:Pd) rm (m:Mem) r2 (F:Pd) rm2 (m2:Mem) rk (kk:List Int) rk2 (kk2:List Int),∀Q,(et.body k a b c v ws g r E rm m r2 F rm2 m2 rk kk rk2 kk2 Q)→rT k a b c v ws g r E rm m r2 F rm2 m2 rk kk rk2 kk2 Q):=by kernel_rfl
theorem rS:LV Un Tryz.prog 44 et:=verify Tryz.func44 aa (tb:= [(87,zo),(88,qR),(89,zq),(90,qU),(91,uy),(92,nA),(8,dU)]) ⟨H2,EN,H3,EO,Gs,Cr,j7,trivial⟩ (by kernel_rfl) (rU.mpr fun k a b c v ws g r E rm m r2 F rm2 m2 rk kk rk2 kk2 Q h=>by
 obtain⟨hp0,hp1,hp2,h⟩:=h
 subst hp0
 exact fun f1 f2 f3 f4=>fun gv=>fun rN=>fun s h_s=>fun gv1=>allEq<| ⟨fun m1 i1 s8 y9a y9b y9c y9d y9e y9f y9g y9h y9j A10 c10 l10=>(m1=(40 - i1).toNat)∧(0≤i1∧i1≤40∧i1≤v)∧(s8=dgN kk i1.toNat)∧((Dg.mk (S8.mk y9a y9b y9c y9d y9e y9f y9g y9h) y9j l10)=dgN kk i1.toNat),⟨_,rfl,(by omega),‹_›,(by rfl)⟩,fun m1 _ i1 s8 y9a y9b y9c y9d y9e y9f y9g y9h y9j A10 c10 l10 ⟨hm,hi,hd,hr⟩=>bH ((decide ((i1:Int)<v)) && (decide ((i1:Int)<40))) (ae (fun c1=>(by grind)) fun c1=>(by grind))<| bL (fun c2=>(by(have hc2:i1<v∧i1<40:=by simpa using c2);exact fun gv4=>fun l h_l=>ai (by rw [hd];exact ln kk _) fun s5=>ai (by rw [h_l];decide) fun s6=>fun s1 h_s1=>fun gv5=>fun l1 h_l1=>ai (by rw [hr];exact ln kk _) fun s7=>ai (by have h7:y9j=(dgN kk i1.toNat).n:=congrArg Dg.n hr;have h8:=GZ kk i1.toNat;rw [h_l1];simp only [List.length_singleton];omega) fun s8=>fun A1 c1=>fun l2 h_l2=>allEq<| ⟨_,(by(have h8:=bE (x:=i1+1) (by omega));omega),rfl,(by(have h8:=bE (x:=i1+1) (by omega));omega),(by rw [vW kk (by omega),← hd,h_s1,h_l]),(by rw [vW kk (by omega),← hr,h_l2,h_l1,hp1])⟩)) fun c2=>(by(have h26:s8.save.length=26:=Dg.pr (by rw [hd];exact ln kk _));exact ai (by rw [hd];exact ln kk _) fun s9=>fun gv4=>fun s1 h_s1=>ai (by rw [h_s1];rfl) fun s10=>fun s2 h_s2=>ai (by rw [h_s2];rfl) fun s11=>ai (by rw [hr];exact ln kk _) fun s12=>ai (by rfl) fun s13=>ai (by rfl) fun s14=>bn (fun c3=>aG h (congrArg Value.bool (by exfalso;rw [h_s2,hr,← hd]at c3;exact nf [s8.save.getD 0 0,s8.save.getD 1 0,s8.save.getD 2 0,s8.save.getD 3 0,s8.save.getD 4 0,s8.save.getD 5 0,s8.save.getD 6 0,s8.save.getD 7 0,s8.save.getD 8 0,s8.save.getD 9 0,s8.save.getD 10 0,s8.save.getD 11 0,s8.save.getD 12 0,s8.save.getD 13 0,s8.save.getD 14 0,s8.save.getD 15 0,s8.save.getD 16 0,s8.save.getD 17 0,s8.save.getD 18 0,s8.save.getD 19 0,s8.save.getD 20 0,s8.save.getD 21 0,s8.save.getD 22 0,s8.save.getD 23 0,s8.save.getD 24 0,s8.save.getD 25 0] c3)) (af (congrArg (Upd.ob (U:=Un) 0) (show @Eq Mem _ _ from(by exfalso;rw [h_s2,hr,← hd]at c3;exact nf [s8.save.getD 0 0,s8.save.getD 1 0,s8.save.getD 2 0,s8.save.getD 3 0,s8.save.getD 4 0,s8.save.getD 5 0,s8.save.getD 6 0,s8.save.getD 7 0,s8.save.getD 8 0,s8.save.getD 9 0,s8.save.getD 10 0,s8.save.getD 11 0,s8.save.getD 12 0,s8.save.getD 13 0,s8.save.getD 14 0,s8.save.getD 15 0,s8.save.getD 16 0,s8.save.getD 17 0,s8.save.getD 18 0,s8.save.getD 19 0,s8.save.getD 20 0,s8.save.getD 21 0,s8.save.getD 22 0,s8.save.getD 23 0,s8.save.getD 24 0,s8.save.getD 25 0] c3))) (af (congrArg (Upd.ob (U:=Un) 2) (show @Eq Mem _ _ from(by exfalso;rw [h_s2,hr,← hd]at c3;exact nf [s8.save.getD 0 0,s8.save.getD 1 0,s8.save.getD 2 0,s8.save.getD 3 0,s8.save.getD 4 0,s8.save.getD 5 0,s8.save.getD 6 0,s8.save.getD 7 0,s8.save.getD 8 0,s8.save.getD 9 0,s8.save.getD 10 0,s8.save.getD 11 0,s8.save.getD 12 0,s8.save.getD 13 0,s8.save.getD 14 0,s8.save.getD 15 0,s8.save.getD 16 0,s8.save.getD 17 0,s8.save.getD 18 0,s8.save.getD 19 0,s8.save.getD 20 0,s8.save.getD 21 0,s8.save.getD 22 0,s8.save.getD 23 0,s8.save.getD 24 0,s8.save.getD 25 0] c3))) rfl)) rfl) fun c3=>allEq<| ⟨fun m4 i3 s21 s4=>(m4=(26 - i3).toNat)∧(0≤i3∧i3≤26)∧(s21=((E.on m).wrs a 11 (s8.save.take i3.toNat)).mem)∧(s4=s21),⟨_,rfl,(by omega),(by rfl),(by rfl)⟩,fun m4 _ i3 s21 s4 ⟨hm,hi3,hW,hE⟩=>fun f15 f16=>aB (fun c4=>ai (by rw [h_s2,show(Dg.svL s8).length=26 from rfl];omega) fun s17=>ai (by rw [h_s2,Dg.svL_eq h26,vh];exact Be (by rw [hd];exact ln kk _) h26 (by omega)) fun s18=>fun m6 h_m6 f19=>fun m7 h_m7 f20=>yw (fun c5=>aG h (congrArg Value.bool (by exfalso;simp [hE]at c5)) (af (congrArg (Upd.ob (U:=Un) 0) (show @Eq Mem _ _ from(by exfalso;simp [hE]at c5))) (af (congrArg (Upd.ob (U:=Un) 2) (show @Eq Mem _ _ from(by exfalso;simp [hE]at c5))) rfl)) rfl) fun c5=>allEq<| ⟨_,(by(have h8:=ah (x:=i3+1) (by omega));omega),rfl,(by(have h8:=ah (x:=i3+1) (by omega));omega),(by rw [h_m6,DB.C1 h26 (by omega)];show s21.write true a _ _=((E.on m).wrs a 11 (s8.save.take i3.toNat)).mem.write true a _ _;rw [← hW,h_s2,Dg.svL_eq h26,vh]),(by rw [h_m7,h_m6,hE])⟩) fun c4=>aG h (congrArg Value.bool ‹_›) (af (congrArg (Upd.ob (U:=Un) 0) (show @Eq Mem _ _ from(by(have hf:s21=((E.on m).ew kk a v).mem:=by rw [hW,DB.ew,show i3.toNat=26 by omega,List.take_of_length_le (by omega),hd,show i1.toNat=min v.toNat 40 by simp at c2;omega]);exact hf.symm))) (af (congrArg (Upd.ob (U:=Un) 2) (show @Eq Mem _ _ from(by(have hf:s21=((E.on m).ew kk a v).mem:=by rw [hW,DB.ew,show i3.toNat=26 by omega,List.take_of_length_le (by omega),hd,show i1.toNat=min v.toNat 40 by simp at c2;omega]);(rw [hE];exact hf.symm)))) rfl)) rfl⟩)⟩)
def nG:Ctr Un:=⟨[.one (.ptr 0),.agg [.int .i64,.int .i64,.int .i64,.int .i64,.int .u32,.any]],[(5,5),(6,6)],[.blk [.obj 2 0,.obj 1 0,.obj 3 0] 34,.ob 1 [(1,2,0)],.ob 0 [],.ob 3 [(1,4,0)],.ob 2 [],.ob 5 [],.ob 6 []],[0,1,2,3,4],fun k a b c v ws g r E rm m r2 F rm2 m2 rk kk rk2 kk2 K=>E.n=m.S∧E=F∧m=m2∧kk2=kk∧(0≤(v:Int)∧(v:Int)<4294967296)∧1≤m.S∧split (decide (k=9) && decide (DB.aE m (DB.ldw (E.on m) a v)=0)) (∀(rN:Nat→Nat)(rN2:Nat→Nat),K ⟨(.bool true),none,[.blk [(.pointer (some (Addr.mk (rm 0) 0 none))),(.pointer (some (Addr.mk (rN 0) 0 none))),(.pointer (some (Addr.mk (rN2 0) 0 none)))],.ob 1 E,.ob 0 m,.ob 3 F,.ob 2 m2],[(.ob 1 rN ((DB.load m (DB.ldw (E.on m) a v)).pd)),(.ob 3 rN2 ((DB.load m (DB.ldw (E.on m) a v)).pd))],[(.c 0 2,.p (.obj 8 0 0)),(.c 0 1,.p (.obj 7 0 0)),(.l 8 1,.p (.obj 4 0 0)),(.l 7 1,.p (.obj 2 0 0)),(.c 0 0,.p (.obj 2 0 0))]⟩) (K ⟨(.bool true),none,[.blk [(.pointer (some (Addr.mk (rm 0) 0 none))),(.pointer (some (Addr.mk (r 0) 0 none))),(.pointer (some (Addr.mk (r2 0) 0 none)))],.ob 1 (((E.on m).act kk k a b c v).pd),.ob 0 (((E.on m).act kk k a b c v).mem),.ob 3 (((E.on m).act kk k a b c v).pd),.ob 2 (((E.on m).act kk k a b c v).mem)],[],[(.c 0 0,.p (.obj 2 0 0)),(.c 0 1,.p (.obj 1 0 0)),(.c 0 2,.p (.obj 3 0 0))]⟩)⟩
def CB(k:Int)(a:Int)(b:Int)(c:Int)(v:Int)(ws:Value)(g:Nat)(r:Nat→Nat)(E:Pd)(rm:Nat→Nat)(m:Mem)(r2:Nat→Nat)(F:Pd)(rm2:Nat→Nat)(m2:Mem)(rk:Nat→Nat)(kk:List Int)(rk2:Nat→Nat)(kk2:List Int)(Q:Ou Un→Prop):Prop:=
 Pd.Ok E→
 Mem.Wf m→
 Pd.Ok F→
 Mem.Wf m2→
 ∀(gv:Nat),
 ∀x7:Bool,x7=((k:Int)==1)→
 split x7 (
  E.n=m.S∧
  ∀(E1:Pd),E1=((E.on m).aH a b).pd→
  Pd.Ok E1→
  ∀(m1:Mem),m1=((E.on m).aH a b).mem→
  Mem.Wf m1→
  F.n=m2.S∧
  ∀(E2:Pd),E2=((F.on m2).aH a b).pd→
  Pd.Ok E2→
  ∀(m3:Mem),m3=((F.on m2).aH a b).mem→
  Mem.Wf m3→
  Q ⟨(.bool (((E.on m).aQ a b)==((F.on m2).aQ a b))),none,[.blk [(.pointer (some (Addr.mk (rm 0) 0 none))),(.pointer (some (Addr.mk (r 0) 0 none))),(.pointer (some (Addr.mk (r2 0) 0 none)))],.ob 1 E1,.ob 0 m1,.ob 3 E2,.ob 2 m3],[],[(.c 0 0,.p (.obj 2 0 0)),(.c 0 1,.p (.obj 1 0 0)),(.c 0 2,.p (.obj 3 0 0))]⟩) (
  ∀x29:Bool,x29=((k:Int)==2)→
  split x29 (
   E.n=m.S∧
   ∀(E1:Pd),E1=((E.on m).take a b c).pd→
   Pd.Ok E1→
   ∀(m1:Mem),m1=((E.on m).take a b c).mem→
   Mem.Wf m1→
   F.n=m2.S∧
   ∀(E2:Pd),E2=((F.on m2).take a b c).pd→
   Pd.Ok E2→
   ∀(m3:Mem),m3=((F.on m2).take a b c).mem→
   Mem.Wf m3→
   Q ⟨(.bool (((E.on m).cn a b c)==((F.on m2).cn a b c))),none,[.blk [(.pointer (some (Addr.mk (rm 0) 0 none))),(.pointer (some (Addr.mk (r 0) 0 none))),(.pointer (some (Addr.mk (r2 0) 0 none)))],.ob 1 E1,.ob 0 m1,.ob 3 E2,.ob 2 m3],[],[(.c 0 0,.p (.obj 2 0 0)),(.c 0 1,.p (.obj 1 0 0)),(.c 0 2,.p (.obj 3 0 0))]⟩) (
   ∀x55:Bool,x55=((k:Int)==3)→
   split x55 (
    E.n=m.S∧
    ∀(E1:Pd),E1=((E.on m).hH a b).pd→
    Pd.Ok E1→
    ∀(m1:Mem),m1=((E.on m).hH a b).mem→
    Mem.Wf m1→
    F.n=m2.S∧
    ∀(E2:Pd),E2=((F.on m2).hH a b).pd→
    Pd.Ok E2→
    ∀(m3:Mem),m3=((F.on m2).hH a b).mem→
    Mem.Wf m3→
    Q ⟨(.bool (((E.on m).dD a b)==((F.on m2).dD a b))),none,[.blk [(.pointer (some (Addr.mk (rm 0) 0 none))),(.pointer (some (Addr.mk (r 0) 0 none))),(.pointer (some (Addr.mk (r2 0) 0 none)))],.ob 1 E1,.ob 0 m1,.ob 3 E2,.ob 2 m3],[],[(.c 0 0,.p (.obj 2 0 0)),(.c 0 1,.p (.obj 1 0 0)),(.c 0 2,.p (.obj 3 0 0))]⟩) (
    ∀x77:Bool,x77=((k:Int)==4)→
    split x77 (
     E.n=m.S∧
     ∀(E1:Pd),E1=((E.on m).eL a).pd→
     Pd.Ok E1→
     ∀(m1:Mem),m1=((E.on m).eL a).mem→
     Mem.Wf m1→
     F.n=m2.S∧
     ∀(E2:Pd),E2=((F.on m2).eL a).pd→
     Pd.Ok E2→
     ∀(m3:Mem),m3=((F.on m2).eL a).mem→
     Mem.Wf m3→
     Q ⟨(.bool (((E.on m).cp a)==((F.on m2).cp a))),none,[.blk [(.pointer (some (Addr.mk (rm 0) 0 none))),(.pointer (some (Addr.mk (r 0) 0 none))),(.pointer (some (Addr.mk (r2 0) 0 none)))],.ob 1 E1,.ob 0 m1,.ob 3 E2,.ob 2 m3],[],[(.c 0 0,.p (.obj 2 0 0)),(.c 0 1,.p (.obj 1 0 0)),(.c 0 2,.p (.obj 3 0 0))]⟩) (
     ∀x95:Bool,x95=((k:Int)==5)→
     split x95 (
      E.n=m.S∧
      ∀(E1:Pd),E1=((E.on m).setState a b).pd→
      Pd.Ok E1→
      ∀(m1:Mem),m1=((E.on m).setState a b).mem→
      Mem.Wf m1→
      F.n=m2.S∧
      ∀(E2:Pd),E2=((F.on m2).setState a b).pd→
      Pd.Ok E2→
      ∀(m3:Mem),m3=((F.on m2).setState a b).mem→
      Mem.Wf m3→
      Q ⟨(.bool (((E.on m).aZ a b)==((F.on m2).aZ a b))),none,[.blk [(.pointer (some (Addr.mk (rm 0) 0 none))),(.pointer (some (Addr.mk (r 0) 0 none))),(.pointer (some (Addr.mk (r2 0) 0 none)))],.ob 1 E1,.ob 0 m1,.ob 3 E2,.ob 2 m3],[],[(.c 0 0,.p (.obj 2 0 0)),(.c 0 1,.p (.obj 1 0 0)),(.c 0 2,.p (.obj 3 0 0))]⟩) (
      ∀x117:Bool,x117=((k:Int)==6)→
      split x117 (
       E.n=m.S∧
       ∀(E1:Pd),E1=((E.on m).aU a (((b:Int).tmod 2:Int) !=0)).pd→
       Pd.Ok E1→
       ∀(m1:Mem),m1=((E.on m).aU a (((b:Int).tmod 2:Int) !=0)).mem→
       Mem.Wf m1→
       F.n=m2.S∧
       ∀(E2:Pd),E2=((F.on m2).aU a (((b:Int).tmod 2:Int) !=0)).pd→
       Pd.Ok E2→
       ∀(m3:Mem),m3=((F.on m2).aU a (((b:Int).tmod 2:Int) !=0)).mem→
       Mem.Wf m3→
       Q ⟨(.bool (((E.on m).bm a)==((F.on m2).bm a))),none,[.blk [(.pointer (some (Addr.mk (rm 0) 0 none))),(.pointer (some (Addr.mk (r 0) 0 none))),(.pointer (some (Addr.mk (r2 0) 0 none)))],.ob 1 E1,.ob 0 m1,.ob 3 E2,.ob 2 m3],[],[(.c 0 0,.p (.obj 2 0 0)),(.c 0 1,.p (.obj 1 0 0)),(.c 0 2,.p (.obj 3 0 0))]⟩) (
       ∀x143:Bool,x143=((k:Int)==7)→
       split x143 (
        (0≤v∧v<4294967296)∧
        ∀(m1:Mem),m1=(m.write true a b v)→
        Mem.Wf m1→
        ∀(m3:Mem),m3=(m2.write true a b v)→
        Mem.Wf m3→
        Q ⟨(.bool (decide (m.err true a b=m2.err true a b))),none,[.blk [(.pointer (some (Addr.mk (rm 0) 0 none))),(.pointer (some (Addr.mk (r 0) 0 none))),(.pointer (some (Addr.mk (r2 0) 0 none)))],.ob 1 E,.ob 0 m1,.ob 3 F,.ob 2 m3],[],[(.c 0 0,.p (.obj 2 0 0)),(.c 0 1,.p (.obj 1 0 0)),(.c 0 2,.p (.obj 3 0 0))]⟩) (
        ∀x153:Bool,x153=((k:Int)==8)→
        split x153 (
         m=m2∧
         kk2=kk∧
         (0≤v∧v<4294967296)∧
         ∀(m1:Mem),m1=((E.on m).ew kk a v).mem→
         Mem.Wf m1→
         ∀(m3:Mem),m3=((E.on m).ew kk a v).mem→
         Mem.Wf m3→
         Q ⟨(.bool true),none,[.blk [(.pointer (some (Addr.mk (rm 0) 0 none))),(.pointer (some (Addr.mk (r 0) 0 none))),(.pointer (some (Addr.mk (r2 0) 0 none)))],.ob 1 E,.ob 0 m1,.ob 3 F,.ob 2 m3],[],[(.c 0 0,.p (.obj 2 0 0)),(.c 0 1,.p (.obj 1 0 0)),(.c 0 2,.p (.obj 3 0 0))]⟩) (
         ∀x158:Bool,x158=((k:Int)==9)→
         split x158 (
          E.n=m.S∧
          E=F∧
          m=m2∧
          (0≤v∧v<4294967296)∧
          1≤m.S∧
          split (decide (DB.aE m (DB.ldw (E.on m) a v)=0)) (
           ∀(rN:Nat→Nat)(rN2:Nat→Nat),
           ∀(E1:Pd),E1=(DB.load m (DB.ldw (E.on m) a v)).pd→
           Pd.Ok E1→
           ∀(E2:Pd),E2=(DB.load m (DB.ldw (E.on m) a v)).pd→
           Pd.Ok E2→
           Q ⟨(.bool true),none,[.blk [(.pointer (some (Addr.mk (rm 0) 0 none))),(.pointer (some (Addr.mk (rN 0) 0 none))),(.pointer (some (Addr.mk (rN2 0) 0 none)))],.ob 1 E,.ob 0 m,.ob 3 F,.ob 2 m2],[(.ob 1 rN E1),(.ob 3 rN2 E2)],[(.c 0 2,.p (.obj 8 0 0)),(.c 0 1,.p (.obj 7 0 0)),(.l 8 1,.p (.obj 4 0 0)),(.l 7 1,.p (.obj 2 0 0)),(.c 0 0,.p (.obj 2 0 0))]⟩) (
           Q ⟨(.bool true),none,[.blk [(.pointer (some (Addr.mk (rm 0) 0 none))),(.pointer (some (Addr.mk (r 0) 0 none))),(.pointer (some (Addr.mk (r2 0) 0 none)))],.ob 1 E,.ob 0 m,.ob 3 F,.ob 2 m2],[],[(.c 0 0,.p (.obj 2 0 0)),(.c 0 1,.p (.obj 1 0 0)),(.c 0 2,.p (.obj 3 0 0))]⟩)) (
          Q ⟨(.bool true),none,[.blk [(.pointer (some (Addr.mk (rm 0) 0 none))),(.pointer (some (Addr.mk (r 0) 0 none))),(.pointer (some (Addr.mk (r2 0) 0 none)))],.ob 1 E,.ob 0 m,.ob 3 F,.ob 2 m2],[],[(.c 0 0,.p (.obj 2 0 0)),(.c 0 1,.p (.obj 1 0 0)),(.c 0 2,.p (.obj 3 0 0))]⟩)))))))))
theorem CC:Vc2 Un Tryz.prog (aV [(32,jB),(26,dV),(33,dS),(34,uN),(35,iV),(36,uM),(37,iU),(38,uS),(39,iW),(40,kb),(41,er),(42,iD),(43,dw),(8,dU),(44,et),(45,fM)]) [7,29,55,77,95,117,143,153,158] Tryz.f11 (.r' (.two (.r' (.two (.r' (.two (.two (.node [] none [] [(3,[0]),(5,[7]),(7,[7]),(13,[0]),(15,[7]),(17,[7])] .leaf .leaf) .leaf) (.r' (.two (.two (.node [] none [] [(3,[0]),(5,[7]),(7,[7]),(9,[7]),(15,[0]),(17,[7]),(19,[7]),(21,[7])] .leaf .leaf) .leaf) (.r' (.two (.two (.node [] none [] [(3,[0]),(5,[7]),(7,[7]),(13,[0]),(15,[7]),(17,[7])] .leaf .leaf) .leaf) (.r' (.two (.two (.node [] none [] [(3,[0]),(5,[7]),(11,[0]),(13,[7])] .leaf .leaf) .leaf) (.r' (.two (.two (.node [] none [] [(3,[0]),(5,[7]),(7,[7]),(13,[0]),(15,[7]),(17,[7])] .leaf .leaf) .leaf) (.r' (.two (.two (.node [] none [] [(3,[0]),(5,[7]),(7,[7]),(15,[0]),(17,[7]),(19,[7])] .leaf .leaf) .leaf) .leaf)))))))))))) .leaf)) .leaf)) [1000000,8,9] nG=(∀k a b c v ws g r (E:Pd) rm (m:Mem) r2 (F:Pd) rm2 (m2:Mem) rk (kk:List Int) rk2 (kk2:List Int),∀Q,(nG.body k a b c v ws g r E rm m r2 F rm2 m2 rk kk rk2 kk2 Q)→CB k a b c v ws g r E rm m r2 F rm2 m2 rk kk rk2 kk2 Q):=by kernel_rfl
theorem CA:LV Un Tryz.prog 11 nG:=verify Tryz.func11 aa (tb:= [(32,jB),(26,dV),(33,dS),(34,uN),(35,iV),(36,uM),(37,iU),(38,uS),(39,iW),(40,kb),(41,er),(42,iD),(43,dw),(8,dU),(44,et),(45,fM)]) ⟨uO,mH,qF,GG,Cf,GF,Cc,GL,Cn,xZ,rH,rY,oA,j7,rS,xP,trivial⟩ (by kernel_rfl) (CC.mpr fun k a b c v ws g r E rm m r2 F rm2 m2 rk kk rk2 kk2 Q h=>by
 obtain⟨hp0,hp1,hp2,hp3,hp4,hp5,h⟩:=h
 subst hp1
 subst hp2
 exact fun f1 f2 f3 f4=>fun gv=>allEq<| aK (fun c1=>ai ‹_› fun s5=>fun E1 h_E1 f6=>fun m1 h_m1 f7=>ai ‹_› fun s8=>fun E2 h_E2 f9=>fun m3 h_m3 f10=>aG (br h (by simp [c1,h_E1,h_m1,h_E2,h_m3])) (congrArg Value.bool (by(simp [c1,h_E1,h_m1,h_E2,h_m3,DB.act];done))) (af (congrArg Upd.blk rfl) (af (congrArg (Upd.ob (U:=Un) 1) (show @Eq Pd _ _ from(by(simp [c1,h_E1,h_m1,h_E2,h_m3,DB.act];done)))) (af (congrArg (Upd.ob (U:=Un) 0) (show @Eq Mem _ _ from(by(simp [c1,h_E1,h_m1,h_E2,h_m3,DB.act];done)))) (af (congrArg (Upd.ob (U:=Un) 3) (show @Eq Pd _ _ from(by(simp [c1,h_E1,h_m1,h_E2,h_m3,DB.act];done)))) (af (congrArg (Upd.ob (U:=Un) 2) (show @Eq Mem _ _ from(by(simp [c1,h_E1,h_m1,h_E2,h_m3,DB.act];done)))) rfl))))) rfl) fun c1=>allEq<| aK (fun c2=>ai ‹_› fun s11=>fun E1 h_E1 f12=>fun m1 h_m1 f13=>ai ‹_› fun s14=>fun E2 h_E2 f15=>fun m3 h_m3 f16=>aG (br h (by simp [c1,c2,h_E1,h_m1,h_E2,h_m3])) (congrArg Value.bool (by(simp [c1,c2,h_E1,h_m1,h_E2,h_m3,DB.act];done))) (af (congrArg Upd.blk rfl) (af (congrArg (Upd.ob (U:=Un) 1) (show @Eq Pd _ _ from(by(simp [c1,c2,h_E1,h_m1,h_E2,h_m3,DB.act];done)))) (af (congrArg (Upd.ob (U:=Un) 0) (show @Eq Mem _ _ from(by(simp [c1,c2,h_E1,h_m1,h_E2,h_m3,DB.act];done)))) (af (congrArg (Upd.ob (U:=Un) 3) (show @Eq Pd _ _ from(by(simp [c1,c2,h_E1,h_m1,h_E2,h_m3,DB.act];done)))) (af (congrArg (Upd.ob (U:=Un) 2) (show @Eq Mem _ _ from(by(simp [c1,c2,h_E1,h_m1,h_E2,h_m3,DB.act];done)))) rfl))))) rfl) fun c2=>allEq<| aK (fun c3=>ai ‹_› fun s17=>fun E1 h_E1 f18=>fun m1 h_m1 f19=>ai ‹_› fun s20=>fun E2 h_E2 f21=>fun m3 h_m3 f22=>aG (br h (by simp [c1,c2,c3,h_E1,h_m1,h_E2,h_m3])) (congrArg Value.bool (by(simp [c1,c2,c3,h_E1,h_m1,h_E2,h_m3,DB.act];done))) (af (congrArg Upd.blk rfl) (af (congrArg (Upd.ob (U:=Un) 1) (show @Eq Pd _ _ from(by(simp [c1,c2,c3,h_E1,h_m1,h_E2,h_m3,DB.act];done)))) (af (congrArg (Upd.ob (U:=Un) 0) (show @Eq Mem _ _ from(by(simp [c1,c2,c3,h_E1,h_m1,h_E2,h_m3,DB.act];done)))) (af (congrArg (Upd.ob (U:=Un) 3) (show @Eq Pd _ _ from(by(simp [c1,c2,c3,h_E1,h_m1,h_E2,h_m3,DB.act];done)))) (af (congrArg (Upd.ob (U:=Un) 2) (show @Eq Mem _ _ from(by(simp [c1,c2,c3,h_E1,h_m1,h_E2,h_m3,DB.act];done)))) rfl))))) rfl) fun c3=>allEq<| aK (fun c4=>ai ‹_› fun s23=>fun E1 h_E1 f24=>fun m1 h_m1 f25=>ai ‹_› fun s26=>fun E2 h_E2 f27=>fun m3 h_m3 f28=>aG (br h (by simp [c1,c2,c3,c4,h_E1,h_m1,h_E2,h_m3])) (congrArg Value.bool (by(simp [c1,c2,c3,c4,h_E1,h_m1,h_E2,h_m3,DB.act];done))) (af (congrArg Upd.blk rfl) (af (congrArg (Upd.ob (U:=Un) 1) (show @Eq Pd _ _ from(by(simp [c1,c2,c3,c4,h_E1,h_m1,h_E2,h_m3,DB.act];done)))) (af (congrArg (Upd.ob (U:=Un) 0) (show @Eq Mem _ _ from(by(simp [c1,c2,c3,c4,h_E1,h_m1,h_E2,h_m3,DB.act];done)))) (af (congrArg (Upd.ob (U:=Un) 3) (show @Eq Pd _ _ from(by(simp [c1,c2,c3,c4,h_E1,h_m1,h_E2,h_m3,DB.act];done)))) (af (congrArg (Upd.ob (U:=Un) 2) (show @Eq Mem _ _ from(by(simp [c1,c2,c3,c4,h_E1,h_m1,h_E2,h_m3,DB.act];done)))) rfl))))) rfl) fun c4=>allEq<| aK (fun c5=>ai ‹_› fun s29=>fun E1 h_E1 f30=>fun m1 h_m1 f31=>ai ‹_› fun s32=>fun E2 h_E2 f33=>fun m3 h_m3 f34=>aG (br h (by simp [c1,c2,c3,c4,c5,h_E1,h_m1,h_E2,h_m3])) (congrArg Value.bool (by(simp [c1,c2,c3,c4,c5,h_E1,h_m1,h_E2,h_m3,DB.act];done))) (af (congrArg Upd.blk rfl) (af (congrArg (Upd.ob (U:=Un) 1) (show @Eq Pd _ _ from(by(simp [c1,c2,c3,c4,c5,h_E1,h_m1,h_E2,h_m3,DB.act];done)))) (af (congrArg (Upd.ob (U:=Un) 0) (show @Eq Mem _ _ from(by(simp [c1,c2,c3,c4,c5,h_E1,h_m1,h_E2,h_m3,DB.act];done)))) (af (congrArg (Upd.ob (U:=Un) 3) (show @Eq Pd _ _ from(by(simp [c1,c2,c3,c4,c5,h_E1,h_m1,h_E2,h_m3,DB.act];done)))) (af (congrArg (Upd.ob (U:=Un) 2) (show @Eq Mem _ _ from(by(simp [c1,c2,c3,c4,c5,h_E1,h_m1,h_E2,h_m3,DB.act];done)))) rfl))))) rfl) fun c5=>allEq<| aK (fun c6=>ai ‹_› fun s35=>fun E1 h_E1 f36=>fun m1 h_m1 f37=>ai ‹_› fun s38=>fun E2 h_E2 f39=>fun m3 h_m3 f40=>aG (br h (by simp [c1,c2,c3,c4,c5,c6,h_E1,h_m1,h_E2,h_m3])) (congrArg Value.bool (by(simp [c1,c2,c3,c4,c5,c6,h_E1,h_m1,h_E2,h_m3,DB.act];done))) (af (congrArg Upd.blk rfl) (af (congrArg (Upd.ob (U:=Un) 1) (show @Eq Pd _ _ from(by(simp [c1,c2,c3,c4,c5,c6,h_E1,h_m1,h_E2,h_m3,DB.act];done)))) (af (congrArg (Upd.ob (U:=Un) 0) (show @Eq Mem _ _ from(by(simp [c1,c2,c3,c4,c5,c6,h_E1,h_m1,h_E2,h_m3,DB.act];done)))) (af (congrArg (Upd.ob (U:=Un) 3) (show @Eq Pd _ _ from(by(simp [c1,c2,c3,c4,c5,c6,h_E1,h_m1,h_E2,h_m3,DB.act];done)))) (af (congrArg (Upd.ob (U:=Un) 2) (show @Eq Mem _ _ from(by(simp [c1,c2,c3,c4,c5,c6,h_E1,h_m1,h_E2,h_m3,DB.act];done)))) rfl))))) rfl) fun c6=>allEq<| aK (fun c7=>ai ‹_› fun s41=>fun m1 h_m1 f42=>fun m3 h_m3 f43=>aG (br h (by simp [c1,c2,c3,c4,c5,c6,c7,h_m1,h_m3])) (congrArg Value.bool (by(simp [c1,c2,c3,c4,c5,c6,c7,h_m1,h_m3,DB.act];done))) (af (congrArg Upd.blk rfl) (af (congrArg (Upd.ob (U:=Un) 1) (show @Eq Pd _ _ from(by(simp [c1,c2,c3,c4,c5,c6,c7,h_m1,h_m3,DB.act,DB.jK,DB.cJ,DB.iz,Pd.cu,Pd.cX _ _ hp0];done)))) (af (congrArg (Upd.ob (U:=Un) 0) (show @Eq Mem _ _ from(by(simp [c1,c2,c3,c4,c5,c6,c7,h_m1,h_m3,DB.act,DB.jK,DB.cJ,DB.iz,Pd.cu,Pd.cX _ _ hp0];done)))) (af (congrArg (Upd.ob (U:=Un) 3) (show @Eq Pd _ _ from(by(simp [c1,c2,c3,c4,c5,c6,c7,h_m1,h_m3,DB.act,DB.jK,DB.cJ,DB.iz,Pd.cu,Pd.cX _ _ hp0];done)))) (af (congrArg (Upd.ob (U:=Un) 2) (show @Eq Mem _ _ from(by(simp [c1,c2,c3,c4,c5,c6,c7,h_m1,h_m3,DB.act,DB.jK,DB.cJ,DB.iz,Pd.cu,Pd.cX _ _ hp0];done)))) rfl))))) rfl) fun c7=>allEq<| aK (fun c8=>ai (by grind) fun s44=>ai ‹_› fun s45=>ai ‹_› fun s46=>fun m1 h_m1 f47=>fun m3 h_m3 f48=>aG (br h (by simp [c1,c2,c3,c4,c5,c6,c7,c8,h_m1,h_m3])) (congrArg Value.bool (by(simp [c1,c2,c3,c4,c5,c6,c7,c8,h_m1,h_m3,DB.act];done))) (af (congrArg Upd.blk rfl) (af (congrArg (Upd.ob (U:=Un) 1) (show @Eq Pd _ _ from(by(simp [c1,c2,c3,c4,c5,c6,c7,c8,h_m1,h_m3,DB.act,DB.jK,DB.cJ,DB.iz,Pd.cu,Pd.cX _ _ hp0];done)))) (af (congrArg (Upd.ob (U:=Un) 0) (show @Eq Mem _ _ from(by(simp [c1,c2,c3,c4,c5,c6,c7,c8,h_m1,h_m3,DB.act];done)))) (af (congrArg (Upd.ob (U:=Un) 3) (show @Eq Pd _ _ from(by(simp [c1,c2,c3,c4,c5,c6,c7,c8,h_m1,h_m3,DB.act,DB.jK,DB.cJ,DB.iz,Pd.cu,Pd.cX _ _ hp0];done)))) (af (congrArg (Upd.ob (U:=Un) 2) (show @Eq Mem _ _ from(by(simp [c1,c2,c3,c4,c5,c6,c7,c8,h_m1,h_m3,DB.act];done)))) rfl))))) rfl) fun c8=>allEq<| aK (fun c9=>ai ‹_› fun s49=>ai (by grind) fun s50=>ai (by grind) fun s51=>ai ‹_› fun s52=>ai ‹_› fun s53=>aB (fun c10=>fun rN rN2=>fun E1 h_E1 f54=>fun E2 h_E2 f55=>aG ((iJ h (by simp [c1,c2,c3,c4,c5,c6,c7,c8,c9,c10,h_E1,h_E2])) rN rN2) rfl (af (congrArg Upd.blk rfl) (af rfl (af rfl (af (congrArg (Upd.ob (U:=Un) 3) (show @Eq Pd _ _ from(by(simp [c1,c2,c3,c4,c5,c6,c7,c8,c9,c10,h_E1,h_E2,DB.act];done)))) (af (congrArg (Upd.ob (U:=Un) 2) (show @Eq Mem _ _ from(by(simp [c1,c2,c3,c4,c5,c6,c7,c8,c9,c10,h_E1,h_E2,DB.act];done)))) rfl))))) (af (congrArg (Res.ob (U:=Un) 1 _) (show @Eq Pd _ _ from(by(simp [c1,c2,c3,c4,c5,c6,c7,c8,c9,c10,h_E1,h_E2,DB.act];done)))) (af (congrArg (Res.ob (U:=Un) 3 _) (show @Eq Pd _ _ from(by(simp [c1,c2,c3,c4,c5,c6,c7,c8,c9,c10,h_E1,h_E2,DB.act];done)))) rfl))) fun c10=>aG (br h (by simp [c1,c2,c3,c4,c5,c6,c7,c8,c9,c10])) (congrArg Value.bool (by(simp [c1,c2,c3,c4,c5,c6,c7,c8,c9,c10,DB.act];done))) (af (congrArg Upd.blk rfl) (af (congrArg (Upd.ob (U:=Un) 1) (show @Eq Pd _ _ from(by(simp [c1,c2,c3,c4,c5,c6,c7,c8,c9,c10,DB.act,DB.pW,Pd.cu,Pd.cX _ _ hp0];done)))) (af (congrArg (Upd.ob (U:=Un) 0) (show @Eq Mem _ _ from(by(simp [c1,c2,c3,c4,c5,c6,c7,c8,c9,c10,DB.act,DB.pW,Pd.cu,Pd.cX _ _ hp0];done)))) (af (congrArg (Upd.ob (U:=Un) 3) (show @Eq Pd _ _ from(by(simp [c1,c2,c3,c4,c5,c6,c7,c8,c9,c10,DB.act,DB.pW,Pd.cu,Pd.cX _ _ hp0];done)))) (af (congrArg (Upd.ob (U:=Un) 2) (show @Eq Mem _ _ from(by(simp [c1,c2,c3,c4,c5,c6,c7,c8,c9,c10,DB.act,DB.pW,Pd.cu,Pd.cX _ _ hp0];done)))) rfl))))) rfl) fun c9=>aG (br h (by simp [c1,c2,c3,c4,c5,c6,c7,c8,c9])) (congrArg Value.bool (by(simp [c1,c2,c3,c4,c5,c6,c7,c8,c9,DB.act];done))) (af (congrArg Upd.blk rfl) (af (congrArg (Upd.ob (U:=Un) 1) (show @Eq Pd _ _ from(by(simp [c1,c2,c3,c4,c5,c6,c7,c8,c9,DB.act,DB.jK,DB.cJ,DB.iz,Pd.cu,Pd.cX _ _ hp0];done)))) (af (congrArg (Upd.ob (U:=Un) 0) (show @Eq Mem _ _ from(by(simp [c1,c2,c3,c4,c5,c6,c7,c8,c9,DB.act,DB.jK,DB.cJ,DB.iz,Pd.cu,Pd.cX _ _ hp0];done)))) (af (congrArg (Upd.ob (U:=Un) 3) (show @Eq Pd _ _ from(by(simp [c1,c2,c3,c4,c5,c6,c7,c8,c9,DB.act,DB.jK,DB.cJ,DB.iz,Pd.cu,Pd.cX _ _ hp0];done)))) (af (congrArg (Upd.ob (U:=Un) 2) (show @Eq Mem _ _ from(by(simp [c1,c2,c3,c4,c5,c6,c7,c8,c9,DB.act,DB.jK,DB.cJ,DB.iz,Pd.cu,Pd.cX _ _ hp0];done)))) rfl))))) rfl)
def qY:Ctr Un:=⟨[.one (.obj 0 0),.agg [.int .i64,.int .i64,.int .i64,.int .i64,.int .u32,.any]],[(1,5),(2,6)],[.ob 8 [],.ob 5 [],.ob 6 []],[0],fun k a b c v ws r s rk kk rk2 kk2 K=>s.R=s.D∧kk2=kk∧(0≤(v:Int)∧(v:Int)<4294967296)∧∀(s1:LSt),((s1.R=s1.D∧s1.D=s.D.act kk k a b c v))→K ⟨(.bool true),none,[.ob 8 s1],[],[]⟩⟩
theorem EY:LV Un Tryz.prog 11 qY:=by
 show ∀(k:Int)(a:Int)(b:Int)(c:Int)(v:Int)(ws:Value)(r:Nat→Nat)(s:LSt)(rk:Nat→Nat)(kk:List Int)(rk2:Nat→Nat)(kk2:List Int),∀Q:Ou Un→Prop,(s.R=s.D∧kk2=kk∧(0≤(v:Int)∧(v:Int)<4294967296)∧∀(s1:LSt),((s1.R=s1.D∧s1.D=s.D.act kk k a b c v))→Q ⟨(.bool true),none,[.ob 8 s1],[],[]⟩)→∀(X:Nat→Nat→Prop)(w:World),Sat (U:=Un) [(.ob 8 r s),(.ob 5 rk kk),(.ob 6 rk2 kk2)] X w→aA (U:=Un) [(.ob 8 r s),(.ob 5 rk kk),(.ob 6 rk2 kk2)] fr0 []→Calls Tryz.prog 11 #[(.pointer (some (Addr.mk (r 0) 0 none))),(.agg #[(.int .i64 k),(.int .i64 a),(.int .i64 b),(.int .i64 c),(.int .u32 v),ws])] w (aS (U:=Un) [(.ob 8 r s),(.ob 5 rk kk),(.ob 6 rk2 kk2)] [0] X w Q)
 intro k a b c v ws r s rk kk rk2 kk2 Q hQ X w hs hl
 obtain⟨hR,hkk,hv,hQ⟩:=hQ
 have hok:LSt.Ok s:=uv (t:=8) (r:=r) (s:=s) (hs.res 0 _ rfl)
 have hS:1≤s.D.mem.S:=by have:=hok.pos;rw [hR]at this;exact this
 obtain⟨r1,rm,r2,rm2,Y,hY,⟨l1,l2⟩,hcl⟩:=Fv hs
 have hl1:aA (aux (r 0) r1 s.D.pd rm s.D.mem r2 s.R.pd rm2 s.R.mem++ [.ob 5 rk kk,.ob 6 rk2 kk2]) fr0 [(.l 1 1,.p (.obj 2 0 0)),(.l 3 1,.p (.obj 4 0 0))]:=fun key k hm=>by
  simp only [List.mem_cons,Prod.mk.injEq,List.not_mem_nil,or_false]at hm
  rcases hm with⟨rfl,rfl⟩ | ⟨rfl,rfl⟩
  ·exact⟨_,_,_,rfl,show some (Value.pointer (some ⟨rm 0,0,none⟩))=some (.pointer (some ⟨r1 1,0,none⟩))by rw [l1]⟩
  ·exact⟨_,_,_,rfl,show some (Value.pointer (some ⟨rm2 0,0,none⟩))=some (.pointer (some ⟨r2 1,0,none⟩))by rw [l2]⟩
 have h0:=CA k a b c v ws (r 0) r1 s.D.pd rm s.D.mem r2 s.R.pd rm2 s.R.mem rk kk rk2 kk2 (fun o=>((k=9∧DB.aE s.D.mem (s.D.ldw a v)=0)∧∃(rN rN2:Nat→Nat),o=⟨(.bool true),none,[.blk [(.pointer (some (Addr.mk (rm 0) 0 none))),(.pointer (some (Addr.mk (rN 0) 0 none))),(.pointer (some (Addr.mk (rN2 0) 0 none)))],.ob 1 s.D.pd,.ob 0 s.D.mem,.ob 3 s.R.pd,.ob 2 s.R.mem],[(.ob 1 rN ((DB.load s.D.mem (DB.ldw (s.D.pd.on s.D.mem) a v)).pd)),(.ob 3 rN2 ((DB.load s.D.mem (DB.ldw (s.D.pd.on s.D.mem) a v)).pd))],[(.c 0 2,.p (.obj 8 0 0)),(.c 0 1,.p (.obj 7 0 0)),(.l 8 1,.p (.obj 4 0 0)),(.l 7 1,.p (.obj 2 0 0)),(.c 0 0,.p (.obj 2 0 0))]⟩)∨(¬(k=9∧DB.aE s.D.mem (s.D.ldw a v)=0)∧o=⟨(.bool true),none,[.blk [(.pointer (some (Addr.mk (rm 0) 0 none))),(.pointer (some (Addr.mk (r1 0) 0 none))),(.pointer (some (Addr.mk (r2 0) 0 none)))],.ob 1 (((s.D.pd.on s.D.mem).act kk k a b c v).pd),.ob 0 (((s.D.pd.on s.D.mem).act kk k a b c v).mem),.ob 3 (((s.D.pd.on s.D.mem).act kk k a b c v).pd),.ob 2 (((s.D.pd.on s.D.mem).act kk k a b c v).mem)],[],[(.c 0 0,.p (.obj 2 0 0)),(.c 0 1,.p (.obj 1 0 0)),(.c 0 2,.p (.obj 3 0 0))]⟩)) ⟨rfl,by rw [hR],by rw [hR],hkk,hv,hS,ae (fun h rN rN2=>.inl ⟨by have h2:(decide (k=9) && decide (DB.aE s.D.mem (s.D.ldw a v)=0))=true:=h;simpa using h2,rN,rN2,rfl⟩) (fun h=>.inr ⟨by have h2:(decide (k=9) && decide (DB.aE s.D.mem (s.D.ldw a v)=0))=false:=h;simpa using h2,rfl⟩)⟩ Y w hY hl1
 refine h0.mono ?_
 rintro e w' ⟨out,rs',X',rfl,⟨he,rN,rN2,rfl⟩ | ⟨he,rfl⟩,happ,hp⟩
 ·obtain rfl: [Res.blk (U:=Un) (r 0) [.pointer (some (Addr.mk (rm 0) 0 none)),.pointer (some (Addr.mk (rN 0) 0 none)),.pointer (some (Addr.mk (rN2 0) 0 none))] 34,.ob 1 r1 s.D.pd,.ob 0 rm s.D.mem,.ob 3 r2 s.R.pd,.ob 2 rm2 s.R.mem,.ob 5 rk kk,.ob 6 rk2 kk2]=rs':=Option.some.inj happ
  have k1:rN 1=rm 0:=by
   obtain⟨t,r,s',h1,h2⟩:=hp.kc (.l 7 1) (.p (.obj 2 0 0)) (by simp) (by simp)
   have h1:some (Res.ob (U:=Un) 1 rN (DB.load s.D.mem (s.D.ldw a v)).pd)=some (.ob t r s'):=h1
   cases h1
   have h2:some (Value.pointer (some ⟨rm 0,0,none⟩))=some (.pointer (some ⟨rN 1,0,none⟩)):=h2
   simpa using h2.symm
  have k2:rN2 1=rm2 0:=by
   obtain⟨t,r,s',h1,h2⟩:=hp.kc (.l 8 1) (.p (.obj 4 0 0)) (by simp) (by simp)
   have h1:some (Res.ob (U:=Un) 3 rN2 (DB.load s.D.mem (s.D.ldw a v)).pd)=some (.ob t r s'):=h1
   cases h1
   have h2:some (Value.pointer (some ⟨rm2 0,0,none⟩))=some (.pointer (some ⟨rN2 1,0,none⟩)):=h2
   simpa using h2.symm
  have hsat:Sat (aux (r 0) rN (DB.load s.D.mem (s.D.ldw a v)).pd rm s.D.mem rN2 (DB.load s.D.mem (s.D.ldw a v)).pd rm2 s.R.mem) (fun i=>X' (if i=1 then 7 else if i=3 then 8 else i)) w':=Sat.sel hp.sat _ (fun i hi=>by
   have hi:i<5:=hi
   match i,hi with
   | 0,_ | 1,_ | 2,_ | 3,_ | 4,_=>rfl) (fun i j hi hj hij=>by
   have hi:i<5:=hi
   have hj:j<5:=hj
   (repeat' split)<;>omega)
  refine hcl hsat k1 k2 rfl (by rw [hR];rfl) (hp.ch.mono fun k ⟨j,hj,h⟩=>⟨j,by have hj:j∈ [0,1,2,3,4]:=hj;simp at hj;omega,h⟩) (fun i hi k hk=>?_) (hQ _ ⟨by show(DB.load s.D.mem (s.D.ldw a v)).pd.on s.R.mem=(DB.load s.D.mem (s.D.ldw a v)).pd.on s.D.mem;rw [hR],by rw [he.1];show _=s.D.pW a v;rw [DB.pW,if_pos he.2];rfl⟩) trivial
  match i,hi,hk with
  | 0,_,hk=>exact(hp.grow 0 (show 0∈ [0,1,2,3,4]by simp) k hk).imp (fun h=>⟨0,by omega,h⟩) id
  | 1,_,hk=>exact .inr (hp.new 7 (show 7≤7 by decide) (show 7<9 by decide) k hk)
  | 2,_,hk=>exact(hp.grow 2 (show 2∈ [0,1,2,3,4]by simp) k hk).imp (fun h=>⟨2,by omega,h⟩) id
  | 3,_,hk=>exact .inr (hp.new 8 (show 7≤8 by decide) (show 8<9 by decide) k hk)
  | 4,_,hk=>exact(hp.grow 4 (show 4∈ [0,1,2,3,4]by simp) k hk).imp (fun h=>⟨4,by omega,h⟩) id
 ·obtain rfl:aux (r 0) r1 (s.D.act kk k a b c v).pd rm (s.D.act kk k a b c v).mem r2 (s.D.act kk k a b c v).pd rm2 (s.D.act kk k a b c v).mem++ [Res.ob (U:=Un) 5 rk kk,Res.ob (U:=Un) 6 rk2 kk2]=rs':=Option.some.inj happ
  have hsat:Sat (aux (r 0) r1 (s.D.act kk k a b c v).pd rm (s.D.act kk k a b c v).mem r2 (s.D.act kk k a b c v).pd rm2 (s.D.act kk k a b c v).mem) X' w':=Sat.sel hp.sat (fun i=>i) (fun i hi=>by
   have hi:i<5:=hi
   match i,hi with
   | 0,_ | 1,_ | 2,_ | 3,_ | 4,_=>rfl) (fun i j hi hj hij=>hij)
  refine hcl hsat l1 l2 rfl rfl (hp.ch.mono fun k ⟨j,hj,h⟩=>⟨j,by have hj:j∈ [0,1,2,3,4]:=hj;simp at hj;omega,h⟩) (fun i hi k hk=>?_) (hQ _ ⟨rfl,rfl⟩) trivial
  exact(hp.grow i (show i∈ [0,1,2,3,4]by simp;omega) k hk).imp (fun h=>⟨i,hi,h⟩) id
end Go.Proofs.YtbjlecpmgocoeaaGreatDoor
end
section
set_option maxRecDepth 100000
set_option maxHeartbeats 1000000
namespace Go.Proofs.YtbjlecpmgocoeaaGreatDoor
open Go Go.RowKit V
open Go.IntKind (i64 u32 u64)
open Go.Proofs (Tryz.prog)
end Go.Proofs.YtbjlecpmgocoeaaGreatDoor
end
section
set_option maxRecDepth 100000
set_option maxHeartbeats 1000000
namespace Go.Proofs.YtbjlecpmgocoeaaGreatDoor
open Go Go.RowKit V
open Go.IntKind (i64 u32 u64)
open Go.Proofs (Tryz.prog)
def gX:Ctr Un:=⟨[.one (.int .i64)],[(0,5),(1,6)],[.ob 5 [],.ob 6 []],[],fun state rk kk rk2 kk2 K=>kk2=kk∧∀(r:Nat→Nat)(s1:LSt),((s1.R=s1.D∧s1.D=DB.built kk state))→K ⟨(.pointer (some (Addr.mk (r 0) 0 none))),(some (.p (.obj 2 0 0))),[],[(.ob 8 r s1)],[]⟩⟩
def zN(state:Int)(rk:Nat→Nat)(kk:List Int)(rk2:Nat→Nat)(kk2:List Int)(Q:Ou Un→Prop):Prop:=
 ∀(r:Nat→Nat)(s1:LSt),
 ((s1.R=s1.D∧s1.D=DB.begun 7 1))→
 ∀(s:LSt),s=s1→
 LSt.Ok s→
 ∀(gv:Nat),
 ∀(l:List dx),l=([dx.mk 1 0 1 0 0 none 0 0,dx.mk 8 0 0 0 3 none 0 0,dx.mk 2 2 4 0 0 none 0 0,dx.mk 7 1 3 0 513 none 0 0,dx.mk 2 3 5 0 0 none 0 0,dx.mk 7 2 5 0 775 none 0 0,dx.mk 2 4 5 0 0 none 0 0,dx.mk 7 2 6 0 1035 none 0 0,dx.mk 7 2 7 0 261 none 0 0,dx.mk 2 5 2 0 0 none 0 0,dx.mk 7 5 0 0 4096 none 0 0,dx.mk 2 6 6 0 0 none 0 0]:List dx)→
 ∀i:Int,i=0→
 ∃I:Nat→Int→LSt→Prop,(∃m,I m i s)∧∀(m:Nat)(_gv1:Nat→Value)(i1:Int)(s2:LSt),I m i1 s2→
 LSt.Ok s2→
 split (decide (i1<(12:Int))) (
  (0≤i1∧i1<(l.length:Int))∧
  s2.R=s2.D∧
  kk2=kk∧
  (0≤((l.getD i1.toNat (dx.mk 0 0 0 0 0 none 0 0)).v)∧((l.getD i1.toNat (dx.mk 0 0 0 0 0 none 0 0)).v)<4294967296)∧
  ∀(s11:LSt),
  ((s11.R=s11.D∧s11.D=s2.D.act kk ((l.getD i1.toNat (dx.mk 0 0 0 0 0 none 0 0)).k) ((l.getD i1.toNat (dx.mk 0 0 0 0 0 none 0 0)).a) ((l.getD i1.toNat (dx.mk 0 0 0 0 0 none 0 0)).b) ((l.getD i1.toNat (dx.mk 0 0 0 0 0 none 0 0)).c) ((l.getD i1.toNat (dx.mk 0 0 0 0 0 none 0 0)).v)))→
  ∀(s3:LSt),s3=s11→
  LSt.Ok s3→
  ∀i2:Int,i2=(i64.wrap (i1+1))→
  ∃m1,m1<m∧I m1 i2 s3) (
  split (decide (state>0)) (
   ∀i2:Int,i2=11→
   ∃I1:Nat→Int→LSt→Prop,(∃m2,I1 m2 i2 s2)∧∀(m2:Nat)(_gv2:Nat→Value)(i3:Int)(s21:LSt),I1 m2 i3 s21→
   LSt.Ok s21→
   split (decide (i3<37)) (
    s21.R=s21.D∧
    (0≤(0:Int)∧(0:Int)<4294967296)∧
    ∀(s11:LSt),
    ((s11.R=s11.D∧s11.D=s21.D.wr 0 i3 0))→
    ∀(s3:LSt),s3=s11→
    LSt.Ok s3→
    ∀i4:Int,i4=(i64.wrap (i3+1))→
    ∃m3,m3<m2∧I1 m3 i4 s3) (
    s21.R=s21.D∧
    (0≤(4660:Int)∧(4660:Int)<4294967296)∧
    ∀(s11:LSt),
    ((s11.R=s11.D∧s11.D=s21.D.wr 0 3 4660))→
    ∀(s3:LSt),s3=s11→
    LSt.Ok s3→
    s3.R=s3.D∧
    kk2=kk∧
    (0≤(0:Int)∧(0:Int)<4294967296)∧
    ∀(s12:LSt),
    ((s12.R=s12.D∧s12.D=s3.D.act kk 5 0 2 0 0))→
    ∀(s4:LSt),s4=s12→
    LSt.Ok s4→
    split (decide (state>1)) (
     s4.R=s4.D∧
     kk2=kk∧
     (0≤(0:Int)∧(0:Int)<4294967296)∧
     ∀(s13:LSt),
     ((s13.R=s13.D∧s13.D=s4.D.act kk 5 0 3 0 0))→
     ∀(s5:LSt),s5=s13→
     LSt.Ok s5→
     Q ⟨(.pointer (some (Addr.mk (r 0) 0 none))),(some (.p (.obj 2 0 0))),[],[(.ob 8 r s5)],[]⟩) (
     Q ⟨(.pointer (some (Addr.mk (r 0) 0 none))),(some (.p (.obj 2 0 0))),[],[(.ob 8 r s4)],[]⟩))) (
   split (decide (state>1)) (
    s2.R=s2.D∧
    kk2=kk∧
    (0≤(0:Int)∧(0:Int)<4294967296)∧
    ∀(s11:LSt),
    ((s11.R=s11.D∧s11.D=s2.D.act kk 5 0 3 0 0))→
    ∀(s3:LSt),s3=s11→
    LSt.Ok s3→
    Q ⟨(.pointer (some (Addr.mk (r 0) 0 none))),(some (.p (.obj 2 0 0))),[],[(.ob 8 r s3)],[]⟩) (
    Q ⟨(.pointer (some (Addr.mk (r 0) 0 none))),(some (.p (.obj 2 0 0))),[],[(.ob 8 r s2)],[]⟩)))
theorem zO:Vc2 Un Tryz.prog (aV [(9,lF),(11,qY),(8,gW)]) [5,6] Tryz.f6 (.r' (.r' (.r' (.r' (.two (.r' (.two (.node [] (some ⟨[(5,(.one (.int .i64)))],[],[2,5]++upN 23 13,[(2,(.ob 8))]⟩) [] [] .leaf .leaf) .leaf)) (.two (.r' (.two (.two (.r' (.two (.node [] (some ⟨[(6,(.one (.int .i64)))],[],[6]++upN 38 7,[(2,(.ob 8))]⟩) [] [] .leaf .leaf) .leaf)) .leaf) .leaf)) .leaf)))))) [1000000,2] gX=(∀state rk (kk:List Int) rk2 (kk2:List Int),∀Q,(gX.body state rk kk rk2 kk2 Q)→zN state rk kk rk2 kk2 Q):=by kernel_rfl
theorem zM:LV Un Tryz.prog 6 gX:=verify Tryz.func6 aa (tb:= [(9,lF),(11,qY),(8,gW)]) ⟨zP,EY,qX,trivial⟩ (by kernel_rfl) (zO.mpr fun state rk kk rk2 kk2 Q h=>by
 obtain⟨hp0,h⟩:=h
 exact fun r s1 f1=>fun s h_s f2=>fun gv=>fun l h_l=>allEq<| ⟨fun m i1 s2=>(m=(12 - i1).toNat)∧(0≤i1∧i1≤12)∧(s2.R=s2.D)∧(s2.D=DB.eY kk i1.toNat),⟨_,rfl,(by omega),(by grind),(by rw [h_s,f1.2];rfl)⟩,fun m _ i1 s2 ⟨hm,hi,hR,hD⟩=>(by have hl12:l=gR:=h_l;clear h_l;(have hlen:l.length=12:=by rw [hl12];rfl);(have hrg:i1<12→0≤(l.getD i1.toNat ⟨0,0,0,0,0,none,0,0⟩).v∧(l.getD i1.toNat ⟨0,0,0,0,0,none,0,0⟩).v<4294967296:=fun h=>by rw [hl12];exact uk ⟨hi.1,h⟩);exact fun f3=>aB (fun c1=>ai (by omega) fun s4=>ai ‹_› fun s5=>ai ‹_› fun s6=>ai (hrg c1) fun s7=>fun s11 f8=>fun s3 h_s3 f9=>allEq<| ⟨_,(by(have h8:=ah (x:=i1+1) (by omega));omega),rfl,(by(have h8:=ah (x:=i1+1) (by omega));omega),(by grind),(by rw [DB.wk kk (by omega),← hD,← hl12];grind)⟩) fun c1=>aB (fun c2=>allEq<| ⟨fun m2 i3 s21=>(m2=(37 - i3).toNat)∧(11≤i3∧i3≤37)∧(s21.R=s21.D)∧(s21.D=(DB.eY kk 12).wrs 0 11 (List.replicate (i3 - 11).toNat 0)),⟨_,rfl,(by omega),‹_›,(by(have e:=show i1.toNat=12 by omega);rw [hD,e];rfl)⟩,fun m2 _ i3 s21 ⟨hm,hi2,hR2,hD2⟩=>fun f10=>aB (fun c3=>ai ‹_› fun s11=>ai (by omega) fun s12=>fun s11 f13=>fun s3 h_s3 f14=>allEq<| ⟨_,(by(have h8:=ah (x:=i3+1) (by omega));omega),rfl,(by(have h8:=ah (x:=i3+1) (by omega));omega),(by grind),(by rw [DB.yk (by omega),← hD2];grind)⟩) fun c3=>ai ‹_› fun s15=>ai (by omega) fun s16=>fun s11 f17=>fun s3 h_s3 f18=>ai (by grind) fun s19=>ai ‹_› fun s20=>ai (by omega) fun s21=>fun s12 f22=>fun s4 h_s4 f23=>aB (fun c4=>ai (by grind) fun s24=>ai ‹_› fun s25=>ai ‹_› fun s26=>fun s13 f27=>fun s5 h_s5 f28=>aG (h r s5 (by(have e:=show i1.toNat=12 by omega);rw [e]at hD;first | (have e3:=show(i3 - 11).toNat=26 by omega);rw [e3]at hD2;(grind [DB.built,DB.final]) | grind | grind [DB.built])) rfl rfl (af (congrArg (Res.ob (U:=Un) 8 _) (show @Eq LSt _ _ from(by rfl))) rfl)) fun c4=>aG (h r s4 (by(have e:=show i1.toNat=12 by omega);rw [e]at hD;first | (have e3:=show(i3 - 11).toNat=26 by omega);rw [e3]at hD2;(grind [DB.built,DB.final]) | grind | grind [DB.built])) rfl rfl (af (congrArg (Res.ob (U:=Un) 8 _) (show @Eq LSt _ _ from(by rfl))) rfl)⟩) fun c2=>aB (fun c5=>ai ‹_› fun s29=>ai ‹_› fun s30=>ai (by omega) fun s31=>fun s11 f32=>fun s3 h_s3 f33=>aG (h r s3 (by(have e:=show i1.toNat=12 by omega);rw [e]at hD;first | (have e3:=show(i3 - 11).toNat=26 by omega);rw [e3]at hD2;(first | grind | grind [DB.built,DB.final]) | grind | grind [DB.built])) rfl rfl (af (congrArg (Res.ob (U:=Un) 8 _) (show @Eq LSt _ _ from(by rfl))) rfl)) fun c5=>aG (h r s2 (by(have e:=show i1.toNat=12 by omega);rw [e]at hD;first | (have e3:=show(i3 - 11).toNat=26 by omega);rw [e3]at hD2;(first | grind | grind [DB.built,DB.final]) | grind | grind [DB.built])) rfl rfl (af (congrArg (Res.ob (U:=Un) 8 _) (show @Eq LSt _ _ from(by rfl))) rfl))⟩)
attribute [local irreducible] DB.built DB.broken DB.wr
def fq:Ctr Un:=⟨[.one (.int .i64),.one (.int .i64),.one (.int .u32)],[(0,5),(1,6)],[.ob 5 [],.ob 6 []],[],fun which off v rk kk rk2 kk2 K=>kk2=kk∧((0≤v∧v<4294967296))∧K ⟨(.bool true),none,[],[],[]⟩⟩
def nE(which:Int)(off:Int)(v:Int)(rk:Nat→Nat)(kk:List Int)(rk2:Nat→Nat)(kk2:List Int)(Q:Ou Un→Prop):Prop:=
 ∀one:Int,one=(u32.wrap (BitVec.ofInt u32.bits v ||| BitVec.ofInt u32.bits 1).toNat)→
 ∀o:Int,o=((i64.wrap (((off:Int).tmod 900)+900):Int).tmod 900)→
 ∀(gv:Nat),
 ∀(l:List LSp),l=([LSp.mk 7 o one 2 7,LSp.mk 6 o one 12 6,LSp.mk 5 (i64.wrap (18+o)) one 11 5,LSp.mk 5 (i64.wrap (1+((o:Int).tmod 17))) one 11 5,LSp.mk 0 (i64.wrap (37+o)) one 6 0,LSp.mk 0 (i64.wrap (11+((o:Int).tmod 26))) one 6 0,LSp.mk 0 1 (u32.wrap (1+((v:Int).tmod 1000))) 5 0,LSp.mk 0 2 (u32.wrap (4097+((v:Int).tmod 1000))) 5 0,LSp.mk 0 0 (u32.wrap (2+((v:Int).tmod 1000))) 7 0,LSp.mk 1 (i64.wrap (256+((o:Int).tmod 768))) one 8 1,LSp.mk 1 (i64.wrap (4+((o:Int).tmod 200))) 513 8 1,LSp.mk 1 3 0 8 1,LSp.mk 1 (i64.wrap (4+((o:Int).tmod 200))) 769 8 1,LSp.mk 2 (i64.wrap (100+o)) 775 10 3,LSp.mk 2 5 0 10 3,LSp.mk 2 (i64.wrap (100+o)) 515 9 2,LSp.mk 2 (i64.wrap (100+o)) 513 9 2,LSp.mk 2 (i64.wrap (100+o)) 9 9 2,LSp.mk 2 (i64.wrap (100+o)) 1795 9 2]:List LSp)→
 ∀state:Int,state=0→
 ∃I:Nat→Int→Prop,(∃m,I m state)∧∀(m:Nat)(_gv1:Nat→Value)(state1:Int),I m state1→
 split (decide (state1<3)) (
  kk2=kk∧
  ∀(r:Nat→Nat)(s1:LSt),
  ((s1.R=s1.D∧s1.D=DB.built kk state1))→
  ∀(s:LSt),s=s1→
  LSt.Ok s→
  Value.pointer (some (Addr.mk (LSt.pD s) 0 none))=(.pointer (some (Addr.mk (LSt.pD s) 0 none)))∧
  ∃J:Bool→Prop,(
   split (s.D.broken.1 !=0) (
    J true) (
    J (s.D.broken.2 !=0)))∧∀(_gv2:Nat→Value)(x113:Bool),J x113→
  split x113 (
   Q ⟨(.bool false),none,[],[],[]⟩) (
   ∀state2:Int,state2=(i64.wrap (state1+1))→
   ∃m1,m1<m∧I m1 state2)) (
  kk2=kk∧
  ∀(r:Nat→Nat)(s1:LSt),
  ((s1.R=s1.D∧s1.D=DB.built kk 1))→
  ∀(s:LSt),s=s1→
  LSt.Ok s→
  nz (19:Int) (
   nz (19:Int) (
    (0≤((i64.wrap ((which.tmod (19:Int))+(19:Int))).tmod (19:Int))∧((i64.wrap ((which.tmod (19:Int))+(19:Int))).tmod (19:Int))<(l.length:Int))∧
    ∀(gv2:Nat),
    ∃J:Bool→LSt→Prop,(
     s.R=s.D∧
     (0≤((l.getD (Int.toNat ((i64.wrap ((which.tmod (19:Int))+(19:Int))).tmod (19:Int))) (LSp.mk 0 0 0 0 0)).v)∧((l.getD (Int.toNat ((i64.wrap ((which.tmod (19:Int))+(19:Int))).tmod (19:Int))) (LSp.mk 0 0 0 0 0)).v)<4294967296)∧
     ∀(s11:LSt),
     ((s11.R=s11.D∧s11.D=s.D.wr ((l.getD (Int.toNat ((i64.wrap ((which.tmod (19:Int))+(19:Int))).tmod (19:Int))) (LSp.mk 0 0 0 0 0)).p) ((l.getD (Int.toNat ((i64.wrap ((which.tmod (19:Int))+(19:Int))).tmod (19:Int))) (LSp.mk 0 0 0 0 0)).off) ((l.getD (Int.toNat ((i64.wrap ((which.tmod (19:Int))+(19:Int))).tmod (19:Int))) (LSp.mk 0 0 0 0 0)).v)))→
     ∀(s2:LSt),s2=s11→
     LSt.Ok s2→
     J false s2)∧∀(_gv3:Nat→Value)(x140:Bool)(s3:LSt),J x140 s3→
    LSt.Ok s3→
    split x140 (
     Q ⟨(.bool false),none,[],[],[]⟩) (
     Value.pointer (some (Addr.mk (LSt.pD s3) 0 none))=(.pointer (some (Addr.mk (LSt.pD s3) 0 none)))∧
     ∃J1:Bool→Prop,(
      split (s3.D.broken.1 !=((l.getD (Int.toNat ((i64.wrap ((which.tmod (19:Int))+(19:Int))).tmod (19:Int))) (LSp.mk 0 0 0 0 0)).clause)) (
       J1 true) (
       J1 (s3.D.broken.2 !=((l.getD (Int.toNat ((i64.wrap ((which.tmod (19:Int))+(19:Int))).tmod (19:Int))) (LSp.mk 0 0 0 0 0)).aq))))∧∀(_gv4:Nat→Value)(x158:Bool),J1 x158→
     split x158 (
      Q ⟨(.bool false),none,[],[],[]⟩) (
      kk2=kk∧
      ∀(r1:Nat→Nat)(s11:LSt),
      ((s11.R=s11.D∧s11.D=DB.built kk 2))→
      ∀(s2:LSt),s2=s11→
      LSt.Ok s2→
      ∃J2:Bool→LSt→Prop,(
       s2.R=s2.D∧
       (0≤v∧v<4294967296)∧
       ∀(s12:LSt),
       ((s12.R=s12.D∧s12.D=s2.D.wr 1 (i64.wrap (BitVec.ofInt i64.bits off &&& BitVec.ofInt i64.bits 1023).toNat) v))→
       ∀(s4:LSt),s4=s12→
       LSt.Ok s4→
       s4.R=s4.D∧
       (0≤v∧v<4294967296)∧
       ∀(s13:LSt),
       ((s13.R=s13.D∧s13.D=s4.D.wr 2 (i64.wrap (BitVec.ofInt i64.bits off &&& BitVec.ofInt i64.bits 1023).toNat) v))→
       ∀(s5:LSt),s5=s13→
       LSt.Ok s5→
       s5.R=s5.D∧
       (0≤v∧v<4294967296)∧
       ∀(s14:LSt),
       ((s14.R=s14.D∧s14.D=s5.D.wr 3 (i64.wrap (BitVec.ofInt i64.bits off &&& BitVec.ofInt i64.bits 1023).toNat) v))→
       ∀(s6:LSt),s6=s14→
       LSt.Ok s6→
       s6.R=s6.D∧
       (0≤v∧v<4294967296)∧
       ∀(s15:LSt),
       ((s15.R=s15.D∧s15.D=s6.D.wr 0 0 v))→
       ∀(s7:LSt),s7=s15→
       LSt.Ok s7→
       J2 false s7)∧∀(_gv5:Nat→Value)(x191:Bool)(s5:LSt),J2 x191 s5→
      LSt.Ok s5→
      split x191 (
       Q ⟨(.bool false),none,[],[],[]⟩) (
       Value.pointer (some (Addr.mk (LSt.pD s5) 0 none))=(.pointer (some (Addr.mk (LSt.pD s5) 0 none)))∧
       ∃J3:Bool→Prop,(
        split (s5.D.broken.1==0) (
         J3 (s5.D.broken.2==0)) (
         J3 false))∧∀(_gv6:Nat→Value)(x6:Bool),J3 x6→
       Q ⟨(.bool x6),none,[],[],[]⟩))))))
theorem nF:Vc2 Un Tryz.prog (aV [(6,gX),(7,lD),(8,gW)]) [7,8,10] Tryz.f3 (.r' (.r' (.r' (.r' (.two (.r' (.two (.node [] (some ⟨[(10,(.one (.int .i64)))],[],[6,10,11,12,13]++upN 92 22,[]⟩) [] [] (.r' (.two (.two (.r' (.r' (.r' (.two (.node [] (some ⟨[(113,(.one .bool))],[],upN 108 6,[]⟩) [] [] .leaf .leaf) .leaf)))) .leaf) .leaf)) .leaf) .leaf)) (.r' (.r' (.two (.two (.node [] (some ⟨[(140,(.one .bool))],[],upN 128 13,[(3,(.ob 8))]⟩) [] [] .leaf .leaf) .leaf) (.r' (.two (.two (.node [] (some ⟨[(158,(.one .bool))],[],upN 149 10,[]⟩) [] [] .leaf .leaf) .leaf) (.r' (.two (.two (.node [] (some ⟨[(191,(.one .bool))],[],upN 160 32,[(5,(.ob 8))]⟩) [] [] .leaf .leaf) .leaf) (.r' (.two (.node [] (some ⟨[(6,(.one .bool))],[],[6]++upN 200 6,[]⟩) [] [] .leaf .leaf) .leaf)))))))))))))) [] fq=(∀which off v rk (kk:List Int) rk2 (kk2:List Int),∀Q,(fq.body which off v rk kk rk2 kk2 Q)→nE which off v rk kk rk2 kk2 Q):=by kernel_rfl
theorem nC:LV Un Tryz.prog 3 fq:=verify Tryz.func3 aa (tb:= [(6,gX),(7,lD),(8,gW)]) ⟨zM,zm,qX,trivial⟩ (by kernel_rfl) (nF.mpr fun which off v rk kk rk2 kk2 Q h=>by
 obtain⟨hp0,hp1,h⟩:=h
 exact fun one h_one=>fun o h_o=>fun gv=>fun l h_l=>allEq<| ⟨fun m state1=>(m=(3 - state1).toNat)∧(0≤state1∧state1≤3),⟨_,rfl,(by omega)⟩,fun m _ state1 ⟨hm,hs⟩=>(by(have ho:=Ir (w:=off) (n:=900) (by omega));rw [← h_o]at ho;clear h_o;have h1:=or1 hp1;rw [← h_one]at h1;clear h_one;(have hi:=Ir (w:=which) (n:=19) (by omega));have hl:l=spL o one v:=h_l;clear h_l;(have hll:l.length=19:=by rw [hl];rfl);have hk:=Gb off;(have hsp:=DB.A5 kk ho (show one≠0 by omega) hp1.1 hi);rw [← hl]at hsp;have hst:=DB.yv kk (v:=v) hk;have hrg:=A6 (o:=o) h1 hp1 hi;rw [← hl]at hrg;(have hb:=fun st h=>DB.D4 kk (st:=st) h);generalize hIX:((i64.wrap ((which:Int).tmod 19+19):Int).tmod 19)=ix at *;generalize hKO:(i64.wrap (BitVec.ofInt i64.bits off &&& BitVec.ofInt i64.bits 1023).toNat)=ko at *;clear hIX hKO hk h1 ho;(have hi:0≤ix∧ix<((l.length:Nat):Int):=by rw [hll];exact hi);clear hl;exact aB (fun c1=>ai ‹_› fun s1=>fun r s1 f2=>fun s h_s f3=>ai (by rfl) fun s4=>⟨fun x113=>(x113=false),bt (fun c2=>(by grind)) fun c2=>(by grind),fun _ x113 gx113=>ae (fun c3=>bF h (by grind)) fun c3=>allEq<| ⟨_,(by(have h8:=ah (x:=state1+1) (by omega));omega),rfl,(by(have h8:=ah (x:=state1+1) (by omega));omega)⟩⟩) fun c1=>ai ‹_› fun s5=>fun r s1 f6=>fun s h_s f7=>Ad (by decide)<| Ad (by decide)<| ai (hi) fun s8=>fun gv2=>⟨fun x140 s3=>(x140=false)∧(s3.R=s3.D)∧(s3.D=(DB.built kk 1).wr (l.getD ix.toNat ⟨0,0,0,0,0⟩).p (l.getD ix.toNat ⟨0,0,0,0,0⟩).off (l.getD ix.toNat ⟨0,0,0,0,0⟩).v),ai (by grind) fun s9=>ai (hrg) fun s10=>fun s11 f11=>fun s2 h_s2 f12=>⟨(by grind),(by grind),(by grind)⟩,fun _ x140 s3 ⟨gx140,hR3,hD3⟩=>fun f13=>ae (fun c4=>bF h (by grind)) fun c4=>ai (by rfl) fun s14=>⟨fun x158=>(x158=false),bt (fun c5=>(by grind)) fun c5=>(by grind),fun _ x158 gx158=>ae (fun c6=>bF h (by grind)) fun c6=>ai ‹_› fun s15=>fun r1 s11 f16=>fun s2 h_s2 f17=>⟨fun x191 s5=>(x191=false)∧(s5.R=s5.D)∧(s5.D=((((DB.built kk 2).wr 1 ko v).wr 2 ko v).wr 3 ko v).wr 0 0 v),ai (by grind) fun s18=>ai ‹_› fun s19=>fun s12 f20=>fun s4 h_s4 f21=>ai (by grind) fun s22=>ai ‹_› fun s23=>fun s13 f24=>fun s5 h_s5 f25=>ai (by grind) fun s26=>ai ‹_› fun s27=>fun s14 f28=>fun s6 h_s6 f29=>ai (by grind) fun s30=>ai ‹_› fun s31=>fun s15 f32=>fun s7 h_s7 f33=>⟨(by grind),(by grind),(by grind)⟩,fun _ x191 s5 ⟨gx191,hR5,hD5⟩=>fun f34=>ae (fun c7=>bF h (by grind)) fun c7=>ai (by rfl) fun s35=>⟨fun x6=>(x6=true),aK (fun c8=>(by grind)) fun c8=>(by grind),fun _ x6 g6=>bF h (by grind)⟩⟩⟩⟩)⟩)
end Go.Proofs.YtbjlecpmgocoeaaGreatDoor
end
section
namespace Go.Proofs.YtbjlecpmgocoeaaGreatDoor
open Go Go.RowKit V Go.ChangeShapes Go.WideShapes Go.ChangeAt
open Go.IntKind (i64 u32 u64)
open Enc (enc)
theorem FU:ownKnob Tryz.prog.godebug=none:=by kernel_rfl
theorem jV:laidOutB Tryz.prog=true:=by kernel_rfl
theorem DF:Tryz.prog.cellsOf 22=1:=by kernel_rfl
def Ja:DataW Unit→List Int
 | .agg l=>l.filterMap fun d=>match d with
  | .lit (.int _ x)=>some x
  | _=>none
 | _=>[]
def kR:List Int:=Ja Rows.laid_warden_sha_rounds
theorem FX:Rows.laid_warden_sha_rounds (H:=Unit)= .agg (kR.map fun x=>.lit (.int .u32 x)):=by kernel_rfl
theorem DK:Rows.laid_warden_wardenref02_K (H:=Unit)= .agg (kR.map fun x=>.lit (.int .u32 x)):=by kernel_rfl
theorem yO:kR.length=64:=by kernel_rfl
theorem Aq:Tryz.prog.globalNamed "warden/sha.rounds" =some 1:=by kernel_rfl
theorem gK:Tryz.prog.globalNamed "warden/wardenref02.K" =some 2:=by kernel_rfl
theorem FL {W:World}(h:laidMetH Tryz.prog Rows.validSpoilsRow.laid W):fT W 1 kR∧fT W 2 kR:=by
 rw [MakeChecks.laidMetH_plain _ _ _ (by kernel_rfl)]at h
 obtain⟨ps,⟨g0,t0,cs0,f0,p0,q0,hg0,ht0,hv0,hd0,⟨g1,t1,cs1,f1,p1,q1,hg1,ht1,hv1,hd1,hq1,e1⟩,e0⟩,_,hc⟩:=h
 obtain rfl:=Option.some.inj (Aq.symm.trans hg0)
 obtain rfl:=Option.some.inj (gK.symm.trans hg1)
 obtain rfl:=Option.some.inj ((show(Tryz.prog.globals[1]?).map (·.type)=some 194 by kernel_rfl).symm.trans ht0)
 obtain rfl:=Option.some.inj ((show(Tryz.prog.globals[2]?).map (·.type)=some 194 by kernel_rfl).symm.trans ht1)
 rw [FX]at hd0
 rw [DK]at hd1
 have c0:=sq Tryz.underlying194 Tryz.underlying22 DF hd0 (by kernel_rfl)
 have c1:=sq Tryz.underlying194 Tryz.underlying22 DF hd1 (by kernel_rfl)
 obtain⟨cs0⟩:=cs0
 obtain⟨cs1⟩:=cs1
 simp only at c0 c1
 subst c0 c1
 have s0:∀x:Nat,MemPlace.row ⟨1,0,none⟩ (kR.map (Value.int .u32)).toArray.size ⊆ ps:=fun _=>by rw [e0];intro y hy;simp only [List.mem_append];exact .inl (.inl hy)
 have s1:MemPlace.row ⟨2,0,none⟩ (kR.map (Value.int .u32)).toArray.size ⊆ ps:=by rw [e0,e1];intro y hy;simp only [List.mem_append];exact .inr (.inl (.inl hy))
 have z0:0<(kR.map (Value.int .u32)).toArray.size:=by simp [yO]
 exact⟨⟨yO,vv Aq hv0 z0 (s0 0) hc⟩,⟨yO,vv gK hv1 z0 s1 hc⟩⟩
theorem DV(os:Os)(args:Array Value):laidMetH Tryz.prog Rows.validSpoilsRow.laid ((World.doorLaid Tryz.prog 400 os).forCall (fun _ _=>0) ⟨#[],args,[]⟩).memory:=
 laidMetH_of_parts3 (fuel:=8) (laidMet_of_run' 8 (by kernel_rfl) (by kernel_rfl)) (by kernel_rfl) (by kernel_rfl)
set_option maxRecDepth 100000 in
theorem yN(os:Os)(started:os.Started)(H:Type)(enc:TypeId×Value→H):
 ReturnsInHanded {} Tryz.checked os 3 .any (fun w args=>(Rows.validSpoilsSpec.pre enc Tryz.prog Tryz.f3 [] false w args∧laidMetH Tryz.prog Rows.validSpoilsRow.laid w)∧sizedMet enc Tryz.prog Tryz.f3 (OpenSpec.ofChange Rows.validSpoilsSpec) false w args)
  (Rows.validSpoilsSpec.post enc Tryz.prog Tryz.f3 false true false false):=by
 refine returnsInHanded_of_change_and (C:=Tryz.checked) (X:=fun w _=>laidMetH Tryz.prog Rows.validSpoilsRow.laid w) (fun _ _ _ hh h=>h.of_heap hh) FU started (by kernel_rfl) Tryz.func3
  (ChangeSpec.witness_shaped (enc:=enc) (C:=Tryz.checked) (os:=os) (X:=fun w _=>laidMetH Tryz.prog Rows.validSpoilsRow.laid w) false (World.doorLaid Tryz.prog 400 os) #[.int .i64 1,.int .i64 1,.int .u32 1] 8 rfl (World.shaped_of_RefB (by kernel_rfl) (by kernel_rfl)) (by kernel_rfl) (by kernel_rfl) (by kernel_rfl) (DV os _)) ?_
 intro W base args ds gs before hval0 hW _ hsz0 hL _
 have hsz:(DataW.weightsEach Tryz.prog (Tryz.f3.params.toList++Rows.validSpoilsSpec.plain.varTypes Tryz.prog) (ds++gs)).all (· ≤reachBytes)=true:=hsz0
 clear hsz0
 have hval:∀(j:Nat) t v,Tryz.f3.params[j]? =some t→args[j]? =some v→Value.okWide Tryz.prog W .any base t v:=hval0
 have hW':=hW
 obtain⟨p,q,hA0,hV,rfl,_,_⟩:=hW
 have hA:DataW.TrodAll enc Tryz.prog W 0 (fun _=>true) true Tryz.f3.params.toList args.toList ds p:=hA0
 rw [Tryz.params3]at hA hval hsz
 obtain⟨v0,v1,v2,d0,d1,d2,p0,p1,p2,rfl,rfl,rfl,h0,h1,h2⟩:=trodAll_three hA
 obtain⟨rfl,rfl⟩:=trodVars_none hV
 obtain⟨x0,rfl,rfl,rfl,_⟩:=open_int Tryz.underlying3 (hval 0 3 v0 rfl rfl) h0
 obtain⟨x1,rfl,rfl,rfl,_⟩:=open_int Tryz.underlying3 (hval 1 3 v1 rfl rfl) h1
 obtain⟨x2,rfl,rfl,rfl,hx2⟩:=open_int Tryz.underlying22 (hval 2 22 v2 rfl rfl) h2
 clear hA0 hval0
 simp only [List.append_nil,List.nil_append]at hW'
 obtain⟨hR1,hR2⟩:=FL hL
 let X:Nat→Nat→Prop:=fun i=>if i=0 then fun k=>k=1 else fun k=>k=2
 have hsat:Sat (U:=Un) [.ob 5 (fun _=>0) kR,.ob 6 (fun _=>0) kR] X W:=Sat.two (U:=Un) (a:= .ob 5 (fun _=>0) kR) (b:= .ob 6 (fun _=>0) kR) (X:=X) (⟨fun k=>⟨fun h=>h,fun h=>h⟩,hR1⟩:(∀k,k=1↔X 0 k)∧fT W 1 kR) (⟨fun k=>⟨fun h=>h,fun h=>h⟩,hR2⟩:(∀k,k=2↔X 1 k)∧fT W 2 kR) (fun k (k1:k=1)(k2:k=2)=>by omega)
 refine(nC x0 x1 x2 (fun _=>0) kR (fun _=>0) kR (fun o=>o=_) ⟨rfl,wf_u32 hx2,rfl⟩ X W hsat (fun _ _ h=>by cases h)).mono ?_
 rintro e W' ⟨out,rs',X',rfl,rfl,happ,hp⟩
 have hpu:Pu W W':=hp.ch.mono fun k ⟨j,hj,_⟩=>by cases hj
 have hn:Below W.heap.size W W':=⟨hpu.kept.os,hpu.kept.tape,hpu.kept.output,hpu.kept.size,fun k hk=>hpu.kept.block k ⟨hk,fun h=>h⟩⟩
 refine⟨_,rfl,_,_,_,[],[],[],hW',trodAll_mk1 (shut_bool Tryz.underlying4 _),?_,rfl,hn.frame _,fun h=>by cases h⟩
 have:=trodAll_mk3 (Below.trod jV (by kernel_rfl) (of_decide_eq_true (by kernel_rfl)) h0 hn (fun x hx=>by cases hx))
  (Below.trod jV (by kernel_rfl) (of_decide_eq_true (by kernel_rfl)) h1 hn (fun x hx=>by cases hx))
  (Below.trod jV (by kernel_rfl) (of_decide_eq_true (by kernel_rfl)) h2 hn (fun x hx=>by cases hx))
 simp only [List.nil_append]at this
 exact this
theorem ou:Rows.ValidSpoilsSaid:=
 OpenClaim.holds_of_wide 3 Tryz.f3 rfl rfl rfl rfl rfl rfl rfl ⟨rfl,rfl,rfl,rfl,rfl⟩ rfl rfl rfl rfl rfl (by kernel_rfl) Tryz.func3 (by kernel_rfl)
  (of_decide_eq_true (by kernel_rfl)) (by unfold Func.isWrapper;(rw [if_neg (by decide+kernel)];exact⟨rfl,rfl⟩))
  (fun os started H enc _=>yN os started H enc)
end Go.Proofs.YtbjlecpmgocoeaaGreatDoor
end
section
namespace Go.Proofs.YtbjlecpmgocoeaaGreatDoor
open Go
theorem validSpoils_card:Rows.ValidSpoilsCardSaid:=
 Claim7.holds_tied_plain_at .later [] [.data,.data] true (true, "f058b0afc36d443aecdccf341377bd94eca7772ab4271b0ca8f2561e00fa4153") false
  ou (fun _ h=>by cases h) (by kernel_rfl) (fun _ h=>by cases h) validSpoils_row_tie rfl ⟨rfl,rfl⟩ (by kernel_rfl) rfl
  (fun f fn hf hfn=>by
   obtain rfl:f=3:=Option.some.inj ((show Tryz.prog.funcNamed "warden/wardenlaw13.ValidSpoils" =some 3 by kernel_rfl).symm.trans hf) |>.symm
   obtain rfl:fn=Tryz.f3:=(Option.some.inj (Tryz.func3.symm.trans hfn)).symm
   exact⟨by kernel_rfl,fun j t ht=>by
    rw [Tryz.params3]at ht
    have h3:t=3∨t=22:=by
     rcases j with _ | _ | _ | j
     ·left;simpa using ht.symm
     ·left;simpa using ht.symm
     ·right;simpa using ht.symm
     ·simp at ht
    rcases h3 with rfl | rfl
    ·exact(show Tryz.prog.wantsStandIn 3=false by kernel_rfl)
    ·exact(show Tryz.prog.wantsStandIn 22=false by kernel_rfl)⟩)
  (by kernel_rfl)
#print axioms validSpoils_card
end Go.Proofs.YtbjlecpmgocoeaaGreatDoor
end
