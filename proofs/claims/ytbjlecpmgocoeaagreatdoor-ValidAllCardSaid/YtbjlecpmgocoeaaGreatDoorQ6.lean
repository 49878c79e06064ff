/- Chapter 13: for every input ValidAll returns true; no condition. -/
import Derived.Test.YtbjlecpmgocoeaaGreatDoorQ5
import Derived.KernelRfl
import Derived.Test.YtbjlecpmgocoeaaGreatDoorRows
import Derived.LaidHandle
import Derived.LaidLaws
import Derived.Carry
import Derived.Test.YtbjlecpmgocoeaaGreatDoorTie
import Derived.Test.YtbjlecpmgocoeaaGreatDoorCards
import Derived.SevenTiedAt
set_option linter.unusedVariables false
set_option linter.unusedSimpArgs false
section
set_option maxRecDepth 100000
set_option maxHeartbeats 1000000
namespace Go.Proofs.YtbjlecpmgocoeaaGreatDoor
open Go Go.RowKit V
open Go.IntKind (i64 u32 u64)
open Go.Proofs (Tryz.prog)
attribute [local grind=] Pd.cB Pd.bN Pd.jT Pd.kq Pd.dy Pd.cA Pd.eT Pd.gM Pd.mT
attribute [local grind .] Pd.Ok.ent
attribute [local grind→] Pd.Ok.dk
def ke:Ctr Un:=⟨[.one (.obj 0 0),.one (.int .i64),.one (.int .i64)],[],[.ob 3 [(1,1,0)],.ob 2 []],[],fun c p r E rm m K=>E.n=m.S∧(E.on m).has p=true∧K ⟨(.bool ((E.on m).clause c p)),none,[],[],[]⟩⟩
def IN(c:Int)(p:Int)(r:Nat→Nat)(E:Pd)(rm:Nat→Nat)(m:Mem)(Q:Ou Un→Prop):Prop:=
 Pd.Ok E→
 Mem.Wf m→
 (0≤p∧p<((Pd.ai E).length:Int))∧
 ∀(gv:Nat),
 ∀space:Bool,space=((((Pd.ai E).getD p.toNat Ent.free).typ:Int)==1)→
 ∀x20:Bool,x20=((c:Int)==1)→
 split x20 (
  ∃J:Bool→Prop,(
   split (!space) (
    J true) (
    J (((Pd.ai E).getD p.toNat Ent.free).owner==p)))∧∀(_gv1:Nat→Value)(x6:Bool),J x6→
  Q ⟨(.bool x6),none,[],[],[]⟩) (
  ∀x30:Bool,x30=((c:Int)==2)→
  split x30 (
   ∃J:Bool→Prop,(
    split (((Pd.ai E).getD p.toNat Ent.free).typ !=0) (
     J true) (
     E.n=m.S∧
     (0≤(0:Int)∧(1024:Int)≤1024)∧
     J ((E.on m).zero p 0 1024)))∧∀(_gv1:Nat→Value)(x6:Bool),J x6→
   Q ⟨(.bool x6),none,[],[],[]⟩) (
   ∀x40:Bool,x40=((c:Int)==3)→
   split x40 (
    ∃J:Bool→Prop,(
     split space (
      J true) (
      split (((Pd.ai E).getD p.toNat Ent.free).typ==0) (
       J true) (
       E.n=m.S∧
       J ((E.on m).is (((Pd.ai E).getD p.toNat Ent.free).owner) 1))))∧∀(_gv1:Nat→Value)(x6:Bool),J x6→
    Q ⟨(.bool x6),none,[],[],[]⟩) (
    ∀x54:Bool,x54=((c:Int)==4)→
    split x54 (
     ∃J:Bool→Prop,(
      split (!space) (
       J true) (
       E.n=m.S∧
       ∀(A:Option Addr)(c1:Nat),
       ∀(l:List I64),l=(own (E.on m) p)→
       J (((Pd.ai E).getD p.toNat Ent.free).refs==(((own (E.on m) p).length):Int))))∧∀(_gv1:Nat→Value)(x6:Bool),J x6→
     Q ⟨(.bool x6),none,[],[],[]⟩) (
     ∀x67:Bool,x67=((c:Int)==5)→
     split x67 (
      ∃J:Bool→Prop,(
       split (!space) (
        J true) (
        E.n=m.S∧
        (E.on m).has p=true∧
        J ((E.on m).fq p)))∧∀(_gv1:Nat→Value)(x6:Bool),J x6→
      Q ⟨(.bool x6),none,[],[],[]⟩) (
      ∀x76:Bool,x76=((c:Int)==6)→
      split x76 (
       ∃J:Bool→Prop,(
        split (!space) (
         J true) (
         E.n=m.S∧
         (E.on m).has p=true∧
         J ((E.on m).lY p)))∧∀(_gv1:Nat→Value)(x6:Bool),J x6→
       Q ⟨(.bool x6),none,[],[],[]⟩) (
       ∀x85:Bool,x85=((c:Int)==7)→
       split x85 (
        ∃J:Bool→Prop,(
         split (!space) (
          J true) (
          E.n=m.S∧
          (E.on m).has p=true∧
          J ((E.on m).lZ p)))∧∀(_gv1:Nat→Value)(x6:Bool),J x6→
        Q ⟨(.bool x6),none,[],[],[]⟩) (
        ∀x94:Bool,x94=((c:Int)==8)→
        split x94 (
         ∃J:Bool→Prop,(
          split (((Pd.ai E).getD p.toNat Ent.free).typ !=3) (
           J true) (
           E.n=m.S∧
           (E.on m).has p=true∧
           split (!((E.on m).alive p)) (
            J true) (
            E.n=m.S∧
            (E.on m).has p=true∧
            J ((E.on m).fp p))))∧∀(_gv1:Nat→Value)(x6:Bool),J x6→
         Q ⟨(.bool x6),none,[],[],[]⟩) (
         ∀x110:Bool,x110=((c:Int)==9)→
         split x110 (
          ∃J:Bool→Prop,(
           split (((Pd.ai E).getD p.toNat Ent.free).typ !=4) (
            J true) (
            E.n=m.S∧
            (E.on m).has p=true∧
            split (!((E.on m).alive p)) (
             J true) (
             E.n=m.S∧
             (E.on m).has p=true∧
             J ((E.on m).ko p))))∧∀(_gv1:Nat→Value)(x6:Bool),J x6→
          Q ⟨(.bool x6),none,[],[],[]⟩) (
          ∀x126:Bool,x126=((c:Int)==10)→
          split x126 (
           ∃J:Bool→Prop,(
            split (((Pd.ai E).getD p.toNat Ent.free).typ !=5) (
             J true) (
             E.n=m.S∧
             (E.on m).has p=true∧
             split (!((E.on m).alive p)) (
              J true) (
              E.n=m.S∧
              (E.on m).has p=true∧
              J ((E.on m).oI p))))∧∀(_gv1:Nat→Value)(x6:Bool),J x6→
           Q ⟨(.bool x6),none,[],[],[]⟩) (
           ∀x142:Bool,x142=((c:Int)==11)→
           split x142 (
            ∃J:Bool→Prop,(
             split (((Pd.ai E).getD p.toNat Ent.free).typ !=2) (
              J true) (
              E.n=m.S∧
              (E.on m).has p=true∧
              J ((E.on m).jK p)))∧∀(_gv1:Nat→Value)(x6:Bool),J x6→
            Q ⟨(.bool x6),none,[],[],[]⟩) (
            ∃J:Bool→Prop,(
             split (((Pd.ai E).getD p.toNat Ent.free).typ !=6) (
              J true) (
              E.n=m.S∧
              (0≤(0:Int)∧(1024:Int)≤1024)∧
              J ((E.on m).zero p 0 1024)))∧∀(_gv1:Nat→Value)(x6:Bool),J x6→
            Q ⟨(.bool x6),none,[],[],[]⟩)))))))))))
theorem IP:Vc2 Un Tryz.prog (aN [(121,du),(122,fF),(123,iF),(124,gp),(125,iz),(126,iC),(127,iD),(128,iA),(129,jz),(130,jy),(131,gn)]) [8,20,30,40,54,67,76,85,94,110,126,142] Tryz.f96 (.r' (.r' (.r' (.two (.r' (.two (.r' (.two (.two (.node [] (some ⟨[(6,(.one .bool))],[],[6]++upN 22 8,[]⟩) [] [] .leaf .leaf) .leaf) (.r' (.two (.two (.node [] (some ⟨[(6,(.one .bool))],[],[6]++upN 32 8,[]⟩) [] [] .leaf .leaf) .leaf) (.r' (.two (.two (.node [] (some ⟨[(6,(.one .bool))],[],[6]++upN 42 12,[]⟩) [] [] .leaf .leaf) .leaf) (.r' (.two (.two (.node [] (some ⟨[(6,(.one .bool))],[],[6]++upN 56 11,[]⟩) [] [(4,[2])] .leaf .leaf) .leaf) (.r' (.two (.two (.node [] (some ⟨[(6,(.one .bool))],[],[6]++upN 69 7,[]⟩) [] [] .leaf .leaf) .leaf) (.r' (.two (.two (.node [] (some ⟨[(6,(.one .bool))],[],[6]++upN 78 7,[]⟩) [] [] .leaf .leaf) .leaf) (.r' (.two (.two (.node [] (some ⟨[(6,(.one .bool))],[],[6]++upN 87 7,[]⟩) [] [] .leaf .leaf) .leaf) (.r' (.two (.two (.node [] (some ⟨[(6,(.one .bool))],[],[6]++upN 96 14,[]⟩) [] [] .leaf .leaf) .leaf) (.r' (.two (.two (.node [] (some ⟨[(6,(.one .bool))],[],[6]++upN 112 14,[]⟩) [] [] .leaf .leaf) .leaf) (.r' (.two (.two (.node [] (some ⟨[(6,(.one .bool))],[],[6]++upN 128 14,[]⟩) [] [] .leaf .leaf) .leaf) (.r' (.two (.two (.node [] (some ⟨[(6,(.one .bool))],[],[6]++upN 144 8,[]⟩) [] [] .leaf .leaf) .leaf) .leaf)))))))))))))))))))))) .leaf)) (.two (.node [] (some ⟨[(6,(.one .bool))],[],[6]++upN 152 8,[]⟩) [] [] .leaf .leaf) .leaf))))) [] ke=(∀c p r (E:Pd) rm (m:Mem),∀Q,(ke.body c p r E rm m Q)→IN c p r E rm m Q):=by kernel_rfl
section
attribute [local grind=] DB.clause own DB.dG
theorem CQ:LV Un Tryz.prog 96 ke:=verify Tryz.func96 aa (tb:= [(121,du),(122,fF),(123,iF),(124,gp),(125,iz),(126,iC),(127,iD),(128,iA),(129,jz),(130,jy),(131,gn)]) ⟨lG,qj,Bw,yY,A6,Bk,Bp,Bb,El,Ei,yR,trivial⟩ (by kernel_rfl) (IP.mpr fun c p r E rm m Q h=>by
 obtain⟨hp0,hp1,h⟩:=h
 exact fun f1 f2=>aj (by grind) fun s3=>fun gv=>allEq<| allEq<| aA (fun c1=>aY ((!((((Pd.ai E).getD p.toNat Ent.free).typ:Int)==1)) || ((((Pd.ai E).getD p.toNat Ent.free).owner:Int)==p)) (ab (fun c2=>(by grind)) fun c2=>(by grind))<| aM h (by grind)) fun c1=>allEq<| aA (fun c3=>aY (((((Pd.ai E).getD p.toNat Ent.free).typ:Int) !=0) || ((E.on m).zero p 0 1024)) (ab (fun c4=>(by grind)) fun c4=>aj ‹_› fun s4=>aj (by omega) fun s5=>(by grind))<| aM h (by grind)) fun c3=>allEq<| aA (fun c5=>aY (((((Pd.ai E).getD p.toNat Ent.free).typ:Int)==1) || (((((Pd.ai E).getD p.toNat Ent.free).typ:Int)==0) || ((E.on m).is (((Pd.ai E).getD p.toNat Ent.free).owner) 1))) (ab (fun c6=>(by grind)) fun c6=>ab (fun c7=>(by grind)) fun c7=>aj ‹_› fun s6=>(by grind))<| aM h (by grind)) fun c5=>allEq<| aA (fun c8=>aY ((!((((Pd.ai E).getD p.toNat Ent.free).typ:Int)==1)) || ((((Pd.ai E).getD p.toNat Ent.free).refs:Int)==((((own (E.on m) p).length):Nat):Int))) (ab (fun c9=>(by grind)) fun c9=>aj ‹_› fun s7=>fun A c1=>fun l h_l=>(by grind))<| aM h (by grind)) fun c8=>allEq<| aA (fun c10=>aY ((!((((Pd.ai E).getD p.toNat Ent.free).typ:Int)==1)) || ((E.on m).fq p)) (ab (fun c11=>(by grind)) fun c11=>aj ‹_› fun s8=>aj ‹_› fun s9=>(by grind))<| aM h (by grind)) fun c10=>allEq<| aA (fun c12=>aY ((!((((Pd.ai E).getD p.toNat Ent.free).typ:Int)==1)) || ((E.on m).lY p)) (ab (fun c13=>(by grind)) fun c13=>aj ‹_› fun s10=>aj ‹_› fun s11=>(by grind))<| aM h (by grind)) fun c12=>allEq<| aA (fun c14=>aY ((!((((Pd.ai E).getD p.toNat Ent.free).typ:Int)==1)) || ((E.on m).lZ p)) (ab (fun c15=>(by grind)) fun c15=>aj ‹_› fun s12=>aj ‹_› fun s13=>(by grind))<| aM h (by grind)) fun c14=>allEq<| aA (fun c16=>aY (((((Pd.ai E).getD p.toNat Ent.free).typ:Int) !=3) || ((!((E.on m).alive p)) || ((E.on m).fp p))) (ab (fun c17=>(by grind)) fun c17=>aj ‹_› fun s14=>aj ‹_› fun s15=>ab (fun c18=>(by grind)) fun c18=>aj ‹_› fun s16=>aj ‹_› fun s17=>(by grind))<| aM h (by grind)) fun c16=>allEq<| aA (fun c19=>aY (((((Pd.ai E).getD p.toNat Ent.free).typ:Int) !=4) || ((!((E.on m).alive p)) || ((E.on m).ko p))) (ab (fun c20=>(by grind)) fun c20=>aj ‹_› fun s18=>aj ‹_› fun s19=>ab (fun c21=>(by grind)) fun c21=>aj ‹_› fun s20=>aj ‹_› fun s21=>(by grind))<| aM h (by grind)) fun c19=>allEq<| aA (fun c22=>aY (((((Pd.ai E).getD p.toNat Ent.free).typ:Int) !=5) || ((!((E.on m).alive p)) || ((E.on m).oI p))) (ab (fun c23=>(by grind)) fun c23=>aj ‹_› fun s22=>aj ‹_› fun s23=>ab (fun c24=>(by grind)) fun c24=>aj ‹_› fun s24=>aj ‹_› fun s25=>(by grind))<| aM h (by grind)) fun c22=>allEq<| aA (fun c25=>aY (((((Pd.ai E).getD p.toNat Ent.free).typ:Int) !=2) || ((E.on m).jK p)) (ab (fun c26=>(by grind)) fun c26=>aj ‹_› fun s26=>aj ‹_› fun s27=>(by grind))<| aM h (by grind)) fun c25=>aY (((((Pd.ai E).getD p.toNat Ent.free).typ:Int) !=6) || ((E.on m).zero p 0 1024)) (ab (fun c27=>(by grind)) fun c27=>aj ‹_› fun s28=>aj (by omega) fun s29=>(by grind))<| aM h (by grind))
end
theorem DB.j6 {D:DB} {c p:Int}(hc:1≤c∧c≤12)(hb:D.eO (13 - c).toNat c=D.broken)(hz:eU (D.clause c) 0 p=true)(hf:D.clause c p=false)(hp:0≤p∧p<(D.S:Int)):D.broken=(c,p):=by
 rw [← hb,show(13 - c).toNat=(12 - c).toNat+1 by omega,eO,fN,bT hp.1 hp.2 hf,leastN_eq hz hf hp.1 (by omega)]
 rfl
theorem DB.o6 {D:DB} {c:Int}(hc:1≤c∧c≤12)(hb:D.eO (13 - c).toNat c=D.broken) {p:Int}(hp:p=(D.S:Int))(hz:eU (D.clause c) 0 p=true):D.eO (13 - (c+1)).toNat (c+1)=D.broken:=by
 subst hp
 rw [← hb,show(13 - c).toNat=(13 - (c+1)).toNat+1 by omega,eO,fN,hz]
 rfl
theorem DB.iX {D:DB} {c:Int}(hc:¬c≤12)(hc2:c≤13)(hb:D.eO (13 - c).toNat c=D.broken):D.broken=(0,0):=by
 rw [← hb,show(13 - c).toNat=0 by omega];rfl
def mC:Ctr Un:=⟨[.one (.obj 0 0),.one (.int .i64)],[],[.ob 3 [(1,1,0)],.ob 2 []],[],fun c r E rm m K=>E.n=m.S∧K ⟨(.bool ((E.on m).holds c)),none,[],[],[]⟩⟩
def Bf(c:Int)(r:Nat→Nat)(E:Pd)(rm:Nat→Nat)(m:Mem)(Q:Ou Un→Prop):Prop:=
 Pd.Ok E→
 Mem.Wf m→
 ∃J:Bool→Prop,(
  split (decide (c<1)) (
   J true) (
   J (decide (c>12))))∧∀(_gv:Nat→Value)(x11:Bool),J x11→
 split x11 (
  Q ⟨(.bool false),none,[],[],[]⟩) (
  ∀p:Int,p=0→
  ∃I:Nat→Int→Prop,(∃m1,I m1 p)∧∀(m1:Nat)(_gv1:Nat→Value)(p1:Int),I m1 p1→
  split (decide (p1<((Pd.ai E).length:Int))) (
   E.n=m.S∧
   (E.on m).has p1=true∧
   split (!((E.on m).clause c p1)) (
    Q ⟨(.bool false),none,[],[],[]⟩) (
    ∀p2:Int,p2=(i64.wrap (p1+1))→
    ∃m2,m2<m1∧I m2 p2)) (
   Q ⟨(.bool true),none,[],[],[]⟩))
theorem Bg:Vc2 Un Tryz.prog (aN [(96,ke)]) [5] Tryz.f47 (.r' (.two (.two (.node [] (some ⟨[(11,(.one .bool))],[],upN 6 6,[]⟩) [] [] .leaf .leaf) .leaf) (.two (.r' (.two (.node [] (some ⟨[(5,(.one (.int .i64)))],[],[4,5]++upN 12 14,[]⟩) [] [] .leaf .leaf) .leaf)) .leaf))) [] mC=(∀c r (E:Pd) rm (m:Mem),∀Q,(mC.body c r E rm m Q)→Bf c r E rm m Q):=by kernel_rfl
section
attribute [local grind=] DB.holds
theorem Be:LV Un Tryz.prog 47 mC:=verify Tryz.func47 aa (tb:= [(96,ke)]) ⟨CQ,trivial⟩ (by kernel_rfl) (Bg.mpr fun c r E rm m Q h=>by
 obtain⟨hp0,h⟩:=h
 exact fun f1 f2=>aY ((decide ((c:Int)<1)) || (decide ((c:Int)>12))) (ab (fun c1=>(by grind)) fun c1=>(by grind))<| aK (fun c2=>aM h (by grind)) fun c2=>allEq<| ⟨fun m1 p1=>(m1=((E.n:Int) - p1).toNat)∧(0≤p1∧p1≤(E.n:Int))∧(eU ((E.on m).clause c) 0 p1=true),⟨_,rfl,(by omega),(dq (Int.le_refl _))⟩,fun m1 _ p1 ⟨hm,hi1,hz⟩=>au (fun c3=>aj ‹_› fun s3=>aj (by grind) fun s4=>aQ (fun c4=>aM h (by rw [DB.holds,DB.fN,bT hi1.1 (by(grind [Pd.gi])) c4];simp)) fun c4=>allEq<| ⟨_,(by(have h9:=af (x:=p1+1) (by grind));grind),rfl,(by(have h9:=af (x:=p1+1) (by grind));grind),(bI hz (by grind) (af (by grind)))⟩) fun c3=>aM h (by rw [DB.holds,DB.fN,← (show p1=((E.on m).S:Int)by(grind [Pd.gi])),hz];grind)⟩)
end
def kW:Ctr Un:=⟨[.one (.obj 0 0)],[],[.ob 3 [(1,1,0)],.ob 2 []],[],fun r E rm m K=>E.n=m.S∧K ⟨(.tuple #[(.int .i64 ((E.on m).broken.1)),(.int .i64 ((E.on m).broken.2))]),(some (.t [none,none])),[],[],[]⟩⟩
def yW(r:Nat→Nat)(E:Pd)(rm:Nat→Nat)(m:Mem)(Q:Ou Un→Prop):Prop:=
 Pd.Ok E→
 Mem.Wf m→
 ∀c:Int,c=1→
 ∃I:Nat→Int→Prop,(∃m1,I m1 c)∧∀(m1:Nat)(_gv:Nat→Value)(c1:Int),I m1 c1→
 split (decide (c1≤12)) (
  ∀p:Int,p=0→
  ∃I1:Nat→Int→Prop,(∃m3,I1 m3 p)∧∀(m3:Nat)(_gv1:Nat→Value)(p1:Int),I1 m3 p1→
  split (decide (p1<((Pd.ai E).length:Int))) (
   E.n=m.S∧
   (E.on m).has p1=true∧
   split (!((E.on m).clause c1 p1)) (
    Q ⟨(.tuple #[(.int .i64 c1),(.int .i64 p1)]),(some (.t [none,none])),[],[],[]⟩) (
    ∀p2:Int,p2=(i64.wrap (p1+1))→
    ∃m4,m4<m3∧I1 m4 p2)) (
   ∀c2:Int,c2=(i64.wrap (c1+1))→
   ∃m2,m2<m1∧I m2 c2)) (
  Q ⟨(.tuple #[(.int .i64 0),(.int .i64 0)]),(some (.t [none,none])),[],[],[]⟩)
theorem yX:Vc2 Un Tryz.prog (aN [(96,ke)]) [4,5] Tryz.f46 (.r' (.two (.r' (.two (.node [] (some ⟨[(4,(.one (.int .i64)))],[],upN 2 24,[]⟩) [] [] (.r' (.two (.two (.r' (.two (.node [] (some ⟨[(5,(.one (.int .i64)))],[],[2,3,5]++upN 10 16,[]⟩) [] [] .leaf .leaf) .leaf)) .leaf) .leaf)) .leaf) .leaf)) .leaf)) [] kW=(∀r (E:Pd) rm (m:Mem),∀Q,(kW.body r E rm m Q)→yW r E rm m Q):=by kernel_rfl
theorem yV:LV Un Tryz.prog 46 kW:=verify Tryz.func46 aa (tb:= [(96,ke)]) ⟨CQ,trivial⟩ (by kernel_rfl) (yX.mpr fun r E rm m Q h=>by
 obtain⟨hp0,h⟩:=h
 exact fun f1 f2=>allEq<| ⟨fun m1 c1=>(m1=(13 - c1).toNat)∧(1≤c1∧c1≤13)∧((E.on m).eO (13 - c1).toNat c1=(E.on m).broken),⟨_,rfl,(by omega),(by rfl)⟩,fun m1 _ c1 ⟨hm,hc,hb⟩=>au (fun k1=>allEq<| ⟨fun m3 p1=>(m3=((E.n:Int) - p1).toNat)∧(0≤p1∧p1≤(E.n:Int))∧(eU ((E.on m).clause c1) 0 p1=true),⟨_,rfl,(by omega),(dq (Int.le_refl _))⟩,fun m3 _ p1 ⟨hm,hi1,hz⟩=>au (fun k2=>aj ‹_› fun s3=>aj (by grind) fun s4=>aQ (fun k3=>aF h (congrArg (fun l=>Value.tuple (List.toArray l)) (ah (congrArg (Value.int .i64) (by rw [DB.j6 ⟨hc.1,by omega⟩ hb hz k3 ⟨hi1.1,by(grind [Pd.gi])⟩])) (ah (congrArg (Value.int .i64) (by rw [DB.j6 ⟨hc.1,by omega⟩ hb hz k3 ⟨hi1.1,by(grind [Pd.gi])⟩])) rfl))) rfl rfl) fun k3=>allEq<| ⟨_,(by(have h9:=af (x:=p1+1) (by grind));grind),rfl,(by(have h9:=af (x:=p1+1) (by grind));grind),(bI hz (by grind) (af (by grind)))⟩) fun k2=>allEq<| ⟨_,(by(have h8:=af (x:=c1+1) (by omega));omega),rfl,(by(have h8:=af (x:=c1+1) (by omega));omega),(by(have h8:=af (x:=c1+1) (by omega));rw [h8];exact DB.o6 ⟨hc.1,by omega⟩ hb (show p1=((E.on m).S:Int)by(grind [Pd.gi])) hz)⟩⟩) fun k1=>aF h (congrArg (fun l=>Value.tuple (List.toArray l)) (ah (congrArg (Value.int .i64) (by rw [DB.iX (by omega) hc.2 hb])) (ah (congrArg (Value.int .i64) (by rw [DB.iX (by omega) hc.2 hb])) rfl))) rfl rfl⟩)
end Go.Proofs.YtbjlecpmgocoeaaGreatDoor
end
section
set_option maxRecDepth 100000
set_option maxHeartbeats 1000000
namespace Go.Proofs.YtbjlecpmgocoeaaGreatDoor
open Go Go.RowKit V
open Go.IntKind (i64 u32 u64)
open Go.Proofs (Tryz.prog)
attribute [local grind=] Pd.cB Pd.bN Pd.jT Pd.kq Pd.dy Pd.cA Pd.eT Pd.gM Pd.mT Pd.gi
attribute [local grind .] Pd.Ok.ent
attribute [local grind→] Pd.Ok.dk
def fh:Ctr Un:=⟨[.one (.int .i64),.one (.ptr 0)],[],[.blk [.ptr 1] 53,.blk [.obj 2 0,.sl 4] 58,.ob 1 [(1,3,0)],.ob 0 [],.lst 4 false 99],[],fun p gb g r E rm m A c l K=>E.n=m.S∧l=E.ai∧(E.on m).has p=true∧K ⟨(.bool ((E.on m).clause 1 p)),none,[],[],[]⟩⟩
def yI(p:Int)(gb:Nat)(g:Nat)(r:Nat→Nat)(E:Pd)(rm:Nat→Nat)(m:Mem)(A:Option Addr)(c:Nat)(l:List Ent)(Q:Ou Un→Prop):Prop:=
 Pd.Ok E→
 Mem.Wf m→
 ∃J:Bool→Prop,(
  E.n=m.S∧
  l=E.ai∧
  (E.on m).has p=true∧
  split (!((E.on m).is p 1)) (
   J true) (
   (0≤p∧p<(l.length:Int))∧
   J ((l.getD p.toNat Ent.free).owner==p)))∧∀(_gv:Nat→Value)(x3:Bool),J x3→
 Q ⟨(.bool x3),none,[],[],[]⟩
theorem yJ:Vc2 Un Tryz.prog (aN [(56,cJ)]) [] Tryz.f55 (.r' (.two (.node [] (some ⟨[(3,(.one .bool))],[],upN 3 17,[]⟩) [] [] .leaf .leaf) .leaf)) [] fh=(∀p gb g r (E:Pd) rm (m:Mem) A c (l:List Ent),∀Q,(E.n=m.S∧l=E.ai∧(E.on m).has p=true∧Q ⟨(.bool ((E.on m).clause 1 p)),none,[],[],[]⟩)→yI p gb g r E rm m A c l Q):=by kernel_rfl
section
attribute [local grind=] DB.xZ DB.is
theorem pr:LV Un Tryz.prog 55 fh:=verify Tryz.func55 aa (tb:= [(56,cJ)]) ⟨iY,trivial⟩ (by kernel_rfl) (yJ.mpr fun p gb g r E rm m A c l Q h=>by
 obtain⟨hp0,hp1,hp2,h⟩:=h
 subst hp1
 exact fun f1 f2=>aY ((!((E.on m).is p 1)) || (((E.ai.getD p.toNat Ent.free).owner:Int)==p)) (aj ‹_› fun s3=>aj (by rfl) fun s4=>aj ‹_› fun s5=>ab (fun c1=>(by grind)) fun c1=>aj (by grind) fun s6=>(by grind))<| aM h (by grind))
end
def fg:Ctr Un:=⟨[.one (.int .i64),.one (.ptr 0)],[],[.blk [.ptr 1] 53,.blk [.obj 2 0,.sl 4] 58,.ob 1 [(1,3,0)],.ob 0 [],.lst 4 false 99],[],fun p gb g r E rm m A c l K=>E.n=m.S∧l=E.ai∧(E.on m).has p=true∧K ⟨(.bool ((E.on m).clause 2 p)),none,[],[],[]⟩⟩
def yG(p:Int)(gb:Nat)(g:Nat)(r:Nat→Nat)(E:Pd)(rm:Nat→Nat)(m:Mem)(A:Option Addr)(c:Nat)(l:List Ent)(Q:Ou Un→Prop):Prop:=
 Pd.Ok E→
 Mem.Wf m→
 ∃J:Bool→Prop,(
  E.n=m.S∧
  l=E.ai∧
  (E.on m).has p=true∧
  split (!((E.on m).is p 0)) (
   J true) (
   E.n=m.S∧
   l=E.ai∧
   (0≤(0:Int)∧(1024:Int)≤1024)∧
   J ((E.on m).zero p 0 1024)))∧∀(_gv:Nat→Value)(x3:Bool),J x3→
 Q ⟨(.bool x3),none,[],[],[]⟩
theorem yH:Vc2 Un Tryz.prog (aN [(56,cJ),(58,eP)]) [] Tryz.f57 (.r' (.two (.node [] (some ⟨[(3,(.one .bool))],[],upN 3 10,[]⟩) [] [] .leaf .leaf) .leaf)) [] fg=(∀p gb g r (E:Pd) rm (m:Mem) A c (l:List Ent),∀Q,(E.n=m.S∧l=E.ai∧(E.on m).has p=true∧Q ⟨(.bool ((E.on m).clause 2 p)),none,[],[],[]⟩)→yG p gb g r E rm m A c l Q):=by kernel_rfl
section
attribute [local grind=] DB.rJ DB.is
theorem pq:LV Un Tryz.prog 57 fg:=verify Tryz.func57 aa (tb:= [(56,cJ),(58,eP)]) ⟨iY,nu,trivial⟩ (by kernel_rfl) (yH.mpr fun p gb g r E rm m A c l Q h=>by
 obtain⟨hp0,hp1,hp2,h⟩:=h
 subst hp1
 exact fun f1 f2=>aY ((!((E.on m).is p 0)) || ((E.on m).zero p 0 1024)) (aj ‹_› fun s3=>aj (by rfl) fun s4=>aj ‹_› fun s5=>ab (fun c1=>(by grind)) fun c1=>aj ‹_› fun s6=>aj (by rfl) fun s7=>aj (by omega) fun s8=>(by grind))<| aM h (by grind))
end
def ff:Ctr Un:=⟨[.one (.int .i64),.one (.ptr 0)],[],[.blk [.ptr 1] 53,.blk [.obj 2 0,.sl 4] 58,.ob 1 [(1,3,0)],.ob 0 [],.lst 4 false 99],[],fun p gb g r E rm m A c l K=>E.n=m.S∧l=E.ai∧(E.on m).has p=true∧K ⟨(.bool ((E.on m).clause 3 p)),none,[],[],[]⟩⟩
def yE(p:Int)(gb:Nat)(g:Nat)(r:Nat→Nat)(E:Pd)(rm:Nat→Nat)(m:Mem)(A:Option Addr)(c:Nat)(l:List Ent)(Q:Ou Un→Prop):Prop:=
 Pd.Ok E→
 Mem.Wf m→
 ∃J:Bool→Prop,(
  E.n=m.S∧
  l=E.ai∧
  (E.on m).has p=true∧
  split ((E.on m).is p 0) (
   J true) (
   E.n=m.S∧
   l=E.ai∧
   (E.on m).has p=true∧
   split ((E.on m).is p 1) (
    J true) (
    E.n=m.S∧
    l=E.ai∧
    (E.on m).has p=true∧
    J (decide (((E.on m).cg p)≥0)))))∧∀(_gv:Nat→Value)(x3:Bool),J x3→
 Q ⟨(.bool x3),none,[],[],[]⟩
theorem yF:Vc2 Un Tryz.prog (aN [(56,cJ),(60,gm)]) [] Tryz.f59 (.r' (.two (.node [] (some ⟨[(3,(.one .bool))],[],upN 3 15,[]⟩) [] [] .leaf .leaf) .leaf)) [] ff=(∀p gb g r (E:Pd) rm (m:Mem) A c (l:List Ent),∀Q,(E.n=m.S∧l=E.ai∧(E.on m).has p=true∧Q ⟨(.bool ((E.on m).clause 3 p)),none,[],[],[]⟩)→yE p gb g r E rm m A c l Q):=by kernel_rfl
section
attribute [local grind=] DB.Gl DB.is DB.cg
theorem po:LV Un Tryz.prog 59 ff:=verify Tryz.func59 aa (tb:= [(56,cJ),(60,gm)]) ⟨iY,r3,trivial⟩ (by kernel_rfl) (yF.mpr fun p gb g r E rm m A c l Q h=>by
 obtain⟨hp0,hp1,hp2,h⟩:=h
 subst hp1
 exact fun f1 f2=>aY (((E.on m).is p 0) || (((E.on m).is p 1) || (decide ((((E.on m).cg p):Int)≥0)))) (aj ‹_› fun s3=>aj (by rfl) fun s4=>aj ‹_› fun s5=>ab (fun c1=>(by grind)) fun c1=>aj ‹_› fun s6=>aj (by rfl) fun s7=>aj ‹_› fun s8=>ab (fun c2=>(by grind)) fun c2=>aj ‹_› fun s9=>aj (by rfl) fun s10=>aj ‹_› fun s11=>(by grind))<| aM h (by grind))
end
def fe:Ctr Un:=⟨[.one (.int .i64),.one (.ptr 0)],[],[.blk [.ptr 1] 53,.blk [.obj 2 0,.sl 4] 58,.ob 1 [(1,3,0)],.ob 0 [],.lst 4 false 99],[],fun p gb g r E rm m A c l K=>E.n=m.S∧l=E.ai∧(E.on m).has p=true∧K ⟨(.bool ((E.on m).clause 4 p)),none,[],[],[]⟩⟩
def yC(p:Int)(gb:Nat)(g:Nat)(r:Nat→Nat)(E:Pd)(rm:Nat→Nat)(m:Mem)(A:Option Addr)(c:Nat)(l:List Ent)(Q:Ou Un→Prop):Prop:=
 Pd.Ok E→
 Mem.Wf m→
 ∃J:Bool→Prop,(
  E.n=m.S∧
  l=E.ai∧
  (E.on m).has p=true∧
  split (!((E.on m).is p 1)) (
   J true) (
   (0≤p∧p<(l.length:Int))∧
   E.n=m.S∧
   ∀(A1:Option Addr)(c1:Nat),
   ∀(l1:List I64),l1=own (E.on m) p→
   J ((l.getD p.toNat Ent.free).refs==(((own (E.on m) p).length):Int))))∧∀(_gv:Nat→Value)(x3:Bool),J x3→
 Q ⟨(.bool x3),none,[],[],[]⟩
theorem yD:Vc2 Un Tryz.prog (aN [(56,cJ),(51,sK)]) [] Tryz.f61 (.r' (.two (.node [] (some ⟨[(3,(.one .bool))],[],upN 3 23,[]⟩) [] [(0,[0]),(5,[0]),(8,[1]),(12,[4]),(13,[0]),(16,[1])] .leaf .leaf) .leaf)) [] fe=(∀p gb g r (E:Pd) rm (m:Mem) A c (l:List Ent),∀Q,(E.n=m.S∧l=E.ai∧(E.on m).has p=true∧Q ⟨(.bool ((E.on m).clause 4 p)),none,[],[],[]⟩)→yC p gb g r E rm m A c l Q):=by kernel_rfl
section
attribute [local grind=] DB.Gk DB.is own DB.dG
theorem pn:LV Un Tryz.prog 61 fe:=verify Tryz.func61 aa (tb:= [(56,cJ),(51,sK)]) ⟨iY,Hu,trivial⟩ (by kernel_rfl) (yD.mpr fun p gb g r E rm m A c l Q h=>by
 obtain⟨hp0,hp1,hp2,h⟩:=h
 subst hp1
 exact fun f1 f2=>aY ((!((E.on m).is p 1)) || (((E.ai.getD p.toNat Ent.free).refs:Int)==((((own (E.on m) p).length):Nat):Int))) (aj ‹_› fun s3=>aj (by rfl) fun s4=>aj ‹_› fun s5=>ab (fun c1=>(by grind)) fun c1=>aj (by grind) fun s6=>aj ‹_› fun s7=>fun A1 c1=>fun l1 h_l1=>(by grind))<| aM h (by grind))
end
def fc:Ctr Un:=⟨[.one (.int .i64),.one (.ptr 0)],[],[.blk [.ptr 1] 53,.blk [.obj 2 0,.sl 4] 58,.ob 1 [(1,3,0)],.ob 0 [],.lst 4 false 99],[],fun p gb g r E rm m A c l K=>E.n=m.S∧l=E.ai∧(E.on m).has p=true∧K ⟨(.bool ((E.on m).clause 12 p)),none,[],[],[]⟩⟩
def yA(p:Int)(gb:Nat)(g:Nat)(r:Nat→Nat)(E:Pd)(rm:Nat→Nat)(m:Mem)(A:Option Addr)(c:Nat)(l:List Ent)(Q:Ou Un→Prop):Prop:=
 Pd.Ok E→
 Mem.Wf m→
 ∃J:Bool→Prop,(
  E.n=m.S∧
  l=E.ai∧
  (E.on m).has p=true∧
  split (!((E.on m).is p 6)) (
   J true) (
   E.n=m.S∧
   l=E.ai∧
   (0≤(0:Int)∧(1024:Int)≤1024)∧
   J ((E.on m).zero p 0 1024)))∧∀(_gv:Nat→Value)(x3:Bool),J x3→
 Q ⟨(.bool x3),none,[],[],[]⟩
theorem yB:Vc2 Un Tryz.prog (aN [(56,cJ),(58,eP)]) [] Tryz.f69 (.r' (.two (.node [] (some ⟨[(3,(.one .bool))],[],upN 3 10,[]⟩) [] [] .leaf .leaf) .leaf)) [] fc=(∀p gb g r (E:Pd) rm (m:Mem) A c (l:List Ent),∀Q,(E.n=m.S∧l=E.ai∧(E.on m).has p=true∧Q ⟨(.bool ((E.on m).clause 12 p)),none,[],[],[]⟩)→yA p gb g r E rm m A c l Q):=by kernel_rfl
section
attribute [local grind=] DB.DI DB.is
theorem pj:LV Un Tryz.prog 69 fc:=verify Tryz.func69 aa (tb:= [(56,cJ),(58,eP)]) ⟨iY,nu,trivial⟩ (by kernel_rfl) (yB.mpr fun p gb g r E rm m A c l Q h=>by
 obtain⟨hp0,hp1,hp2,h⟩:=h
 subst hp1
 exact fun f1 f2=>aY ((!((E.on m).is p 6)) || ((E.on m).zero p 0 1024)) (aj ‹_› fun s3=>aj (by rfl) fun s4=>aj ‹_› fun s5=>ab (fun c1=>(by grind)) fun c1=>aj ‹_› fun s6=>aj (by rfl) fun s7=>aj (by omega) fun s8=>(by grind))<| aM h (by grind))
end
def cH(g gb:Nat)(n:Int):Value:=
 if n=1 then .func (.func 55) #[] #[.pointer (some ⟨gb,0,none⟩)]
 else if n=2 then .func (.func 57) #[] #[.pointer (some ⟨gb,0,none⟩)]
 else if n=3 then .func (.func 59) #[] #[.pointer (some ⟨gb,0,none⟩)]
 else if n=4 then .func (.func 61) #[] #[.pointer (some ⟨gb,0,none⟩)]
 else if n=5 then .func (.func 62) #[.pointer (some ⟨g,0,none⟩)] #[]
 else if n=6 then .func (.func 63) #[.pointer (some ⟨g,0,none⟩)] #[]
 else if n=7 then .func (.func 64) #[.pointer (some ⟨g,0,none⟩)] #[]
 else if n=8 then .func (.func 65) #[.pointer (some ⟨g,0,none⟩)] #[]
 else if n=9 then .func (.func 66) #[.pointer (some ⟨g,0,none⟩)] #[]
 else if n=10 then .func (.func 67) #[.pointer (some ⟨g,0,none⟩)] #[]
 else if n=11 then .func (.func 68) #[.pointer (some ⟨g,0,none⟩)] #[]
 else .func (.func 69) #[] #[.pointer (some ⟨gb,0,none⟩)]
def gW:Ctr Un:=⟨[.one (.ptr 0),.one (.int .i64)],[],[.blk [.obj 1 0,.sl 3] 58,.ob 1 [(1,2,0)],.ob 0 [],.lst 4 false 99],[],fun n g r E rm m A c l K=>E.n=m.S∧l=E.ai∧∀(gb:Nat)(v:Value),v=cH g gb n→K ⟨v,none,[],[(.blk gb [(.pointer (some (Addr.mk g 0 none)))] 53)],[(.c 4 0,.p (.loc 0 0))]⟩⟩
def D1(n:Int)(g:Nat)(r:Nat→Nat)(E:Pd)(rm:Nat→Nat)(m:Mem)(A:Option Addr)(c:Nat)(l:List Ent)(Q:Ou Un→Prop):Prop:=
 Pd.Ok E→
 Mem.Wf m→
 ∀(gv:Nat),
 ∀x6:Bool,x6=((n:Int)==1)→
 split x6 (
  ∃J:Value→Prop,(
   J (.func (.func 55) #[] #[(.pointer (some (Addr.mk gv 0 none)))]))∧∀(_gv1:Nat→Value)(x4:Value),J x4→
  Q ⟨x4,none,[],[(.blk gv [(.pointer (some (Addr.mk g 0 none)))] 53)],[(.c 4 0,.p (.loc 0 0))]⟩) (
  ∀x9:Bool,x9=((n:Int)==2)→
  split x9 (
   ∃J:Value→Prop,(
    J (.func (.func 57) #[] #[(.pointer (some (Addr.mk gv 0 none)))]))∧∀(_gv1:Nat→Value)(x4:Value),J x4→
   Q ⟨x4,none,[],[(.blk gv [(.pointer (some (Addr.mk g 0 none)))] 53)],[(.c 4 0,.p (.loc 0 0))]⟩) (
   ∀x12:Bool,x12=((n:Int)==3)→
   split x12 (
    ∃J:Value→Prop,(
     J (.func (.func 59) #[] #[(.pointer (some (Addr.mk gv 0 none)))]))∧∀(_gv1:Nat→Value)(x4:Value),J x4→
    Q ⟨x4,none,[],[(.blk gv [(.pointer (some (Addr.mk g 0 none)))] 53)],[(.c 4 0,.p (.loc 0 0))]⟩) (
    ∀x15:Bool,x15=((n:Int)==4)→
    split x15 (
     ∃J:Value→Prop,(
      J (.func (.func 61) #[] #[(.pointer (some (Addr.mk gv 0 none)))]))∧∀(_gv1:Nat→Value)(x4:Value),J x4→
     Q ⟨x4,none,[],[(.blk gv [(.pointer (some (Addr.mk g 0 none)))] 53)],[(.c 4 0,.p (.loc 0 0))]⟩) (
     ∀x18:Bool,x18=((n:Int)==5)→
     split x18 (
      ∃J:Value→Prop,(
       J (.func (.func 62) #[(.pointer (some (Addr.mk g 0 none)))] #[]))∧∀(_gv1:Nat→Value)(x4:Value),J x4→
      Q ⟨x4,none,[],[(.blk gv [(.pointer (some (Addr.mk g 0 none)))] 53)],[(.c 4 0,.p (.loc 0 0))]⟩) (
      ∀x22:Bool,x22=((n:Int)==6)→
      split x22 (
       ∃J:Value→Prop,(
        J (.func (.func 63) #[(.pointer (some (Addr.mk g 0 none)))] #[]))∧∀(_gv1:Nat→Value)(x4:Value),J x4→
       Q ⟨x4,none,[],[(.blk gv [(.pointer (some (Addr.mk g 0 none)))] 53)],[(.c 4 0,.p (.loc 0 0))]⟩) (
       ∀x26:Bool,x26=((n:Int)==7)→
       split x26 (
        ∃J:Value→Prop,(
         J (.func (.func 64) #[(.pointer (some (Addr.mk g 0 none)))] #[]))∧∀(_gv1:Nat→Value)(x4:Value),J x4→
        Q ⟨x4,none,[],[(.blk gv [(.pointer (some (Addr.mk g 0 none)))] 53)],[(.c 4 0,.p (.loc 0 0))]⟩) (
        ∀x30:Bool,x30=((n:Int)==8)→
        split x30 (
         ∃J:Value→Prop,(
          J (.func (.func 65) #[(.pointer (some (Addr.mk g 0 none)))] #[]))∧∀(_gv1:Nat→Value)(x4:Value),J x4→
         Q ⟨x4,none,[],[(.blk gv [(.pointer (some (Addr.mk g 0 none)))] 53)],[(.c 4 0,.p (.loc 0 0))]⟩) (
         ∀x34:Bool,x34=((n:Int)==9)→
         split x34 (
          ∃J:Value→Prop,(
           J (.func (.func 66) #[(.pointer (some (Addr.mk g 0 none)))] #[]))∧∀(_gv1:Nat→Value)(x4:Value),J x4→
          Q ⟨x4,none,[],[(.blk gv [(.pointer (some (Addr.mk g 0 none)))] 53)],[(.c 4 0,.p (.loc 0 0))]⟩) (
          ∀x38:Bool,x38=((n:Int)==10)→
          split x38 (
           ∃J:Value→Prop,(
            J (.func (.func 67) #[(.pointer (some (Addr.mk g 0 none)))] #[]))∧∀(_gv1:Nat→Value)(x4:Value),J x4→
           Q ⟨x4,none,[],[(.blk gv [(.pointer (some (Addr.mk g 0 none)))] 53)],[(.c 4 0,.p (.loc 0 0))]⟩) (
           ∀x42:Bool,x42=((n:Int)==11)→
           split x42 (
            ∃J:Value→Prop,(
             J (.func (.func 68) #[(.pointer (some (Addr.mk g 0 none)))] #[]))∧∀(_gv1:Nat→Value)(x4:Value),J x4→
            Q ⟨x4,none,[],[(.blk gv [(.pointer (some (Addr.mk g 0 none)))] 53)],[(.c 4 0,.p (.loc 0 0))]⟩) (
            ∃J:Value→Prop,(
             J (.func (.func 69) #[] #[(.pointer (some (Addr.mk gv 0 none)))]))∧∀(_gv1:Nat→Value)(x4:Value),J x4→
            Q ⟨x4,none,[],[(.blk gv [(.pointer (some (Addr.mk g 0 none)))] 53)],[(.c 4 0,.p (.loc 0 0))]⟩)))))))))))
theorem D2:Vc2 Un Tryz.prog (aN []) [6,9,12,15,18,22,26,30,34,38,42] Tryz.f22 (.r' (.two (.r' (.two (.r' (.two (.two (.node [] (some ⟨[(4,(.one .val))],[],[4,8],[]⟩) [] [] .leaf .leaf) .leaf) (.r' (.two (.two (.node [] (some ⟨[(4,(.one .val))],[],[4,11],[]⟩) [] [] .leaf .leaf) .leaf) (.r' (.two (.two (.node [] (some ⟨[(4,(.one .val))],[],[4,14],[]⟩) [] [] .leaf .leaf) .leaf) (.r' (.two (.two (.node [] (some ⟨[(4,(.one .val))],[],[4,17],[]⟩) [] [] .leaf .leaf) .leaf) (.r' (.two (.two (.node [] (some ⟨[(4,(.one .val))],[],[4,20,21],[]⟩) [] [] .leaf .leaf) .leaf) (.r' (.two (.two (.node [] (some ⟨[(4,(.one .val))],[],[4,24,25],[]⟩) [] [] .leaf .leaf) .leaf) (.r' (.two (.two (.node [] (some ⟨[(4,(.one .val))],[],[4,28,29],[]⟩) [] [] .leaf .leaf) .leaf) (.r' (.two (.two (.node [] (some ⟨[(4,(.one .val))],[],[4,32,33],[]⟩) [] [] .leaf .leaf) .leaf) (.r' (.two (.two (.node [] (some ⟨[(4,(.one .val))],[],[4,36,37],[]⟩) [] [] .leaf .leaf) .leaf) (.r' (.two (.two (.node [] (some ⟨[(4,(.one .val))],[],[4,40,41],[]⟩) [] [] .leaf .leaf) .leaf) (.r' (.two (.two (.node [] (some ⟨[(4,(.one .val))],[],[4,44,45],[]⟩) [] [] .leaf .leaf) .leaf) .leaf)))))))))))))))))))))) .leaf)) (.two (.node [] (some ⟨[(4,(.one .val))],[],[4,46],[]⟩) [] [] .leaf .leaf) .leaf))) [4] gW=(∀n g r (E:Pd) rm (m:Mem) A c (l:List Ent),∀Q,(E.n=m.S∧l=E.ai∧∀(gb:Nat)(v:Value),v=cH g gb n→Q ⟨v,none,[],[(.blk gb [(.pointer (some (Addr.mk g 0 none)))] 53)],[(.c 4 0,.p (.loc 0 0))]⟩)→D1 n g r E rm m A c l Q):=by kernel_rfl
theorem uD:LV Un Tryz.prog 22 gW:=verify Tryz.func22 aa (tb:= []) trivial (by kernel_rfl) (D2.mpr fun n g r E rm m A c l Q h=>by
 obtain⟨hp0,hp1,h⟩:=h
 subst hp1
 exact fun f1 f2=>fun gv=>allEq<| aA (fun c1=>pN<| aF (h gv (.func (.func 55) #[] #[(.pointer (some (Addr.mk gv 0 none)))]) (by simp [cH,c1])) rfl rfl (ah (congrArg (fun l=>Res.blk (U:=Un) _ l _) rfl) rfl)) fun c1=>allEq<| aA (fun c2=>pN<| aF (h gv (.func (.func 57) #[] #[(.pointer (some (Addr.mk gv 0 none)))]) (by simp [cH,c1,c2])) rfl rfl (ah (congrArg (fun l=>Res.blk (U:=Un) _ l _) rfl) rfl)) fun c2=>allEq<| aA (fun c3=>pN<| aF (h gv (.func (.func 59) #[] #[(.pointer (some (Addr.mk gv 0 none)))]) (by simp [cH,c1,c2,c3])) rfl rfl (ah (congrArg (fun l=>Res.blk (U:=Un) _ l _) rfl) rfl)) fun c3=>allEq<| aA (fun c4=>pN<| aF (h gv (.func (.func 61) #[] #[(.pointer (some (Addr.mk gv 0 none)))]) (by simp [cH,c1,c2,c3,c4])) rfl rfl (ah (congrArg (fun l=>Res.blk (U:=Un) _ l _) rfl) rfl)) fun c4=>allEq<| aA (fun c5=>pN<| aF (h gv (.func (.func 62) #[(.pointer (some (Addr.mk g 0 none)))] #[]) (by simp [cH,c1,c2,c3,c4,c5])) rfl rfl (ah (congrArg (fun l=>Res.blk (U:=Un) _ l _) rfl) rfl)) fun c5=>allEq<| aA (fun c6=>pN<| aF (h gv (.func (.func 63) #[(.pointer (some (Addr.mk g 0 none)))] #[]) (by simp [cH,c1,c2,c3,c4,c5,c6])) rfl rfl (ah (congrArg (fun l=>Res.blk (U:=Un) _ l _) rfl) rfl)) fun c6=>allEq<| aA (fun c7=>pN<| aF (h gv (.func (.func 64) #[(.pointer (some (Addr.mk g 0 none)))] #[]) (by simp [cH,c1,c2,c3,c4,c5,c6,c7])) rfl rfl (ah (congrArg (fun l=>Res.blk (U:=Un) _ l _) rfl) rfl)) fun c7=>allEq<| aA (fun c8=>pN<| aF (h gv (.func (.func 65) #[(.pointer (some (Addr.mk g 0 none)))] #[]) (by simp [cH,c1,c2,c3,c4,c5,c6,c7,c8])) rfl rfl (ah (congrArg (fun l=>Res.blk (U:=Un) _ l _) rfl) rfl)) fun c8=>allEq<| aA (fun c9=>pN<| aF (h gv (.func (.func 66) #[(.pointer (some (Addr.mk g 0 none)))] #[]) (by simp [cH,c1,c2,c3,c4,c5,c6,c7,c8,c9])) rfl rfl (ah (congrArg (fun l=>Res.blk (U:=Un) _ l _) rfl) rfl)) fun c9=>allEq<| aA (fun c10=>pN<| aF (h gv (.func (.func 67) #[(.pointer (some (Addr.mk g 0 none)))] #[]) (by simp [cH,c1,c2,c3,c4,c5,c6,c7,c8,c9,c10])) rfl rfl (ah (congrArg (fun l=>Res.blk (U:=Un) _ l _) rfl) rfl)) fun c10=>allEq<| aA (fun c11=>pN<| aF (h gv (.func (.func 68) #[(.pointer (some (Addr.mk g 0 none)))] #[]) (by simp [cH,c1,c2,c3,c4,c5,c6,c7,c8,c9,c10,c11])) rfl rfl (ah (congrArg (fun l=>Res.blk (U:=Un) _ l _) rfl) rfl)) fun c11=>pN<| aF (h gv (.func (.func 69) #[] #[(.pointer (some (Addr.mk gv 0 none)))]) (by simp [cH,c1,c2,c3,c4,c5,c6,c7,c8,c9,c10,c11])) rfl rfl (ah (congrArg (fun l=>Res.blk (U:=Un) _ l _) rfl) rfl))
def r4:Ctr Un:=⟨[.one (.obj 0 0),.one (.int .i64)],[],[.ob 1 [(1,1,0)],.ob 0 []],[],fun n r E rm m K=>E.n=m.S∧K ⟨(.bool ((E.on m).holds n)),none,[],[],[]⟩⟩
def GR(n:Int)(r:Nat→Nat)(E:Pd)(rm:Nat→Nat)(m:Mem)(Q:Ou Un→Prop):Prop:=
 Pd.Ok E→
 Mem.Wf m→
 ∃J:Bool→Prop,(
  split (decide (n<1)) (
   J true) (
   J (decide (n>12))))∧∀(_gv:Nat→Value)(x13:Bool),J x13→
 split x13 (
  Q ⟨(.bool false),none,[],[],[]⟩) (
  E.n=m.S∧
  ∀(gv1:Nat)(A:Option Addr)(c:Nat),
  ∀(l:List Ent),l=E.ai→
  E.n=m.S∧
  l=E.ai∧
  ∀(gb:Nat)(v:Value),
  v=cH gv1 gb n→
  ∃I:Nat→Int→Prop,(∃m1,I m1 0)∧∀(m1:Nat)(_gv2:Nat→Value)(x24:Int),I m1 x24→
  split (decide (x24<(E.ai.length:Int))) (
   ∃b:Bool,(
    (v=(.func (.func 55) #[] #[(.pointer (some (Addr.mk gb 0 none)))])∧
     E.n=m.S∧
     l=E.ai∧
     (E.on m).has x24=true∧
     ((.bool ((E.on m).clause 1 x24)):Value)=(.bool b))∨
    (v=(.func (.func 57) #[] #[(.pointer (some (Addr.mk gb 0 none)))])∧
     E.n=m.S∧
     l=E.ai∧
     (E.on m).has x24=true∧
     ((.bool ((E.on m).clause 2 x24)):Value)=(.bool b))∨
    (v=(.func (.func 59) #[] #[(.pointer (some (Addr.mk gb 0 none)))])∧
     E.n=m.S∧
     l=E.ai∧
     (E.on m).has x24=true∧
     ((.bool ((E.on m).clause 3 x24)):Value)=(.bool b))∨
    (v=(.func (.func 61) #[] #[(.pointer (some (Addr.mk gb 0 none)))])∧
     E.n=m.S∧
     l=E.ai∧
     (E.on m).has x24=true∧
     ((.bool ((E.on m).clause 4 x24)):Value)=(.bool b))∨
    (v=(.func (.func 62) #[(.pointer (some (Addr.mk gv1 0 none)))] #[])∧
     E.n=m.S∧
     l=E.ai∧
     (E.on m).has x24=true∧
     ((.bool ((E.on m).clause 5 x24)):Value)=(.bool b))∨
    (v=(.func (.func 63) #[(.pointer (some (Addr.mk gv1 0 none)))] #[])∧
     E.n=m.S∧
     l=E.ai∧
     (E.on m).has x24=true∧
     ((.bool ((E.on m).clause 6 x24)):Value)=(.bool b))∨
    (v=(.func (.func 64) #[(.pointer (some (Addr.mk gv1 0 none)))] #[])∧
     E.n=m.S∧
     l=E.ai∧
     (E.on m).has x24=true∧
     ((.bool ((E.on m).clause 7 x24)):Value)=(.bool b))∨
    (v=(.func (.func 65) #[(.pointer (some (Addr.mk gv1 0 none)))] #[])∧
     E.n=m.S∧
     l=E.ai∧
     (E.on m).has x24=true∧
     ((.bool ((E.on m).clause 8 x24)):Value)=(.bool b))∨
    (v=(.func (.func 66) #[(.pointer (some (Addr.mk gv1 0 none)))] #[])∧
     E.n=m.S∧
     l=E.ai∧
     (E.on m).has x24=true∧
     ((.bool ((E.on m).clause 9 x24)):Value)=(.bool b))∨
    (v=(.func (.func 67) #[(.pointer (some (Addr.mk gv1 0 none)))] #[])∧
     E.n=m.S∧
     l=E.ai∧
     (E.on m).has x24=true∧
     ((.bool ((E.on m).clause 10 x24)):Value)=(.bool b))∨
    (v=(.func (.func 68) #[(.pointer (some (Addr.mk gv1 0 none)))] #[])∧
     E.n=m.S∧
     l=E.ai∧
     (E.on m).has x24=true∧
     ((.bool ((E.on m).clause 11 x24)):Value)=(.bool b))∨
    (v=(.func (.func 69) #[] #[(.pointer (some (Addr.mk gb 0 none)))])∧
     E.n=m.S∧
     l=E.ai∧
     (E.on m).has x24=true∧
     ((.bool ((E.on m).clause 12 x24)):Value)=(.bool b)))∧
   split (!b) (
    Q ⟨(.bool false),none,[],[],[]⟩) (
    ∃m2,m2<m1∧I m2 (i64.wrap (x24+1)))) (
   Q ⟨(.bool true),none,[],[],[]⟩))
theorem GS:Vc2 Un Tryz.prog ⟨zZ [(21,ka),(22,gW),(55,fh),(57,fg),(59,ff),(61,fe),(62,gX),(63,jv),(64,jx),(65,jw),(66,lF),(67,gV),(68,gU),(69,fc)],.bool,[(55,[],[(.loc 4 0)]),(57,[],[(.loc 4 0)]),(59,[],[(.loc 4 0)]),(61,[],[(.loc 4 0)]),(62,[(.loc 2 0)],[]),(63,[(.loc 2 0)],[]),(64,[(.loc 2 0)],[]),(65,[(.loc 2 0)],[]),(66,[(.loc 2 0)],[]),(67,[(.loc 2 0)],[]),(68,[(.loc 2 0)],[]),(69,[],[(.loc 4 0)])]⟩ [] Tryz.f17 (.r' (.two (.two (.node [] (some ⟨[(13,(.one .bool))],[],upN 8 6,[]⟩) [] [] .leaf .leaf) .leaf) (.r' (.r' (.two (.r' (.two (.node [] (some ⟨[(24,(.one (.int .i64)))],[],[4,7]++upN 24 8,[]⟩) [] [] .leaf .leaf) .leaf)) .leaf))))) [] r4=(∀n r (E:Pd) rm (m:Mem),∀Q,(r4.body n r E rm m Q)→GR n r E rm m Q):=by kernel_rfl
section
attribute [local grind=] DB.holds
theorem GQ:LV Un Tryz.prog 17 r4:=verify Tryz.func17 aa (tb:= [(21,ka),(22,gW),(55,fh),(57,fg),(59,ff),(61,fe),(62,gX),(63,jv),(64,jx),(65,jw),(66,lF),(67,gV),(68,gU),(69,fc)]) ⟨CL,uD,pr,pq,po,pn,uE,yv,yz,yy,CM,uC,uB,pj,trivial⟩ (by kernel_rfl) (GS.mpr fun n r E rm m Q h=>by
 obtain⟨hp0,h⟩:=h
 exact fun f1 f2=>aY ((decide ((n:Int)<1)) || (decide ((n:Int)>12))) (ab (fun c1=>(by grind)) fun c1=>(by grind))<| aK (fun c2=>aM h (by grind)) fun c2=>(by(have hn12:1≤n∧n≤12:=by simp at c2;omega);exact aj ‹_› fun s3=>fun gv1 A c=>fun l h_l=>aj ‹_› fun s4=>aj ‹_› fun s5=>fun gb v f6=>(by(have hv:=(by assumption:v=cH gv1 gb n));exact⟨fun m1 x24=>(m1=((E.n:Int) - x24).toNat)∧(0≤x24∧x24≤(E.n:Int))∧(eU ((E.on m).clause n) 0 x24=true),⟨_,rfl,(by omega),(dq (Int.le_refl _))⟩,fun m1 _ x24 ⟨hm,hi1,hz⟩=>au (fun c3=>(by(have hhas:(E.on m).has x24=true:=by grind);exact⟨((E.on m).clause n x24),(by rcases(show n=1∨n=2∨n=3∨n=4∨n=5∨n=6∨n=7∨n=8∨n=9∨n=10∨n=11∨n=12 from by omega)with hk | hk | hk | hk | hk | hk | hk | hk | hk | hk | hk | hk<;>first | exact .inl ⟨by rw [hv,hk];rfl,hp0,h_l,hhas,by rw [hk]⟩ | exact .inr (.inl ⟨by rw [hv,hk];rfl,hp0,h_l,hhas,by rw [hk]⟩) | exact .inr (.inr (.inl ⟨by rw [hv,hk];rfl,hp0,h_l,hhas,by rw [hk]⟩)) | exact .inr (.inr (.inr (.inl ⟨by rw [hv,hk];rfl,hp0,h_l,hhas,by rw [hk]⟩))) | exact .inr (.inr (.inr (.inr (.inl ⟨by rw [hv,hk];rfl,hp0,h_l,hhas,by rw [hk]⟩)))) | exact .inr (.inr (.inr (.inr (.inr (.inl ⟨by rw [hv,hk];rfl,hp0,h_l,hhas,by rw [hk]⟩))))) | exact .inr (.inr (.inr (.inr (.inr (.inr (.inl ⟨by rw [hv,hk];rfl,hp0,h_l,hhas,by rw [hk]⟩)))))) | exact .inr (.inr (.inr (.inr (.inr (.inr (.inr (.inl ⟨by rw [hv,hk];rfl,hp0,h_l,hhas,by rw [hk]⟩))))))) | exact .inr (.inr (.inr (.inr (.inr (.inr (.inr (.inr (.inl ⟨by rw [hv,hk];rfl,hp0,h_l,hhas,by rw [hk]⟩)))))))) | exact .inr (.inr (.inr (.inr (.inr (.inr (.inr (.inr (.inr (.inl ⟨by rw [hv,hk];rfl,hp0,h_l,hhas,by rw [hk]⟩))))))))) | exact .inr (.inr (.inr (.inr (.inr (.inr (.inr (.inr (.inr (.inr (.inl ⟨by rw [hv,hk];rfl,hp0,h_l,hhas,by rw [hk]⟩)))))))))) | exact .inr (.inr (.inr (.inr (.inr (.inr (.inr (.inr (.inr (.inr (.inr (⟨by rw [hv,hk];rfl,hp0,h_l,hhas,by rw [hk]⟩)))))))))))),aQ (fun c4=>aM h (by rw [DB.holds,DB.fN,bT hi1.1 (by grind) c4];simp)) fun c4=>⟨_,(by(have h9:=af (x:=x24+1) (by grind));grind),rfl,(by(have h9:=af (x:=x24+1) (by grind));grind),(bI hz (by grind) (af (by grind)))⟩⟩)) fun c3=>aM h (by rw [DB.holds,DB.fN,← (show x24=((E.on m).S:Int)by grind),hz];grind)⟩)))
end
def ot:Ctr Un:=⟨[.one (.obj 0 0)],[],[.ob 1 [(1,1,0)],.ob 0 []],[],fun r E rm m K=>E.n=m.S∧K ⟨(.tuple #[(.int .i64 ((E.on m).broken.1)),(.int .i64 ((E.on m).broken.2))]),(some (.t [none,none])),[],[],[]⟩⟩
def D4(r:Nat→Nat)(E:Pd)(rm:Nat→Nat)(m:Mem)(Q:Ou Un→Prop):Prop:=
 Pd.Ok E→
 Mem.Wf m→
 E.n=m.S∧
 ∀(gv:Nat)(A:Option Addr)(c:Nat),
 ∀(l:List Ent),l=E.ai→
 ∃I:Nat→Int→Int→Int→Prop,(∃m1,I m1 0 0 0)∧∀(m1:Nat)(_gv1:Nat→Value)(number:Int)(aq:Int)(x10:Int),I m1 number aq x10→
 split (decide (x10<12)) (
  E.n=m.S∧
  l=E.ai∧
  ∀(gb:Nat)(v:Value),
  v=cH gv gb (i64.wrap (x10+1))→
  ∃I1:Nat→Int→Int→Int→Prop,(∃m3,I1 m3 number aq 0)∧∀(m3:Nat)(_gv2:Nat→Value)(number1:Int)(page1:Int)(x22:Int),I1 m3 number1 page1 x22→
  split (decide (x22<(E.ai.length:Int))) (
   ∃b:Bool,(
    (v=(.func (.func 55) #[] #[(.pointer (some (Addr.mk gb 0 none)))])∧
     E.n=m.S∧
     l=E.ai∧
     (E.on m).has x22=true∧
     ((.bool ((E.on m).clause 1 x22)):Value)=(.bool b))∨
    (v=(.func (.func 57) #[] #[(.pointer (some (Addr.mk gb 0 none)))])∧
     E.n=m.S∧
     l=E.ai∧
     (E.on m).has x22=true∧
     ((.bool ((E.on m).clause 2 x22)):Value)=(.bool b))∨
    (v=(.func (.func 59) #[] #[(.pointer (some (Addr.mk gb 0 none)))])∧
     E.n=m.S∧
     l=E.ai∧
     (E.on m).has x22=true∧
     ((.bool ((E.on m).clause 3 x22)):Value)=(.bool b))∨
    (v=(.func (.func 61) #[] #[(.pointer (some (Addr.mk gb 0 none)))])∧
     E.n=m.S∧
     l=E.ai∧
     (E.on m).has x22=true∧
     ((.bool ((E.on m).clause 4 x22)):Value)=(.bool b))∨
    (v=(.func (.func 62) #[(.pointer (some (Addr.mk gv 0 none)))] #[])∧
     E.n=m.S∧
     l=E.ai∧
     (E.on m).has x22=true∧
     ((.bool ((E.on m).clause 5 x22)):Value)=(.bool b))∨
    (v=(.func (.func 63) #[(.pointer (some (Addr.mk gv 0 none)))] #[])∧
     E.n=m.S∧
     l=E.ai∧
     (E.on m).has x22=true∧
     ((.bool ((E.on m).clause 6 x22)):Value)=(.bool b))∨
    (v=(.func (.func 64) #[(.pointer (some (Addr.mk gv 0 none)))] #[])∧
     E.n=m.S∧
     l=E.ai∧
     (E.on m).has x22=true∧
     ((.bool ((E.on m).clause 7 x22)):Value)=(.bool b))∨
    (v=(.func (.func 65) #[(.pointer (some (Addr.mk gv 0 none)))] #[])∧
     E.n=m.S∧
     l=E.ai∧
     (E.on m).has x22=true∧
     ((.bool ((E.on m).clause 8 x22)):Value)=(.bool b))∨
    (v=(.func (.func 66) #[(.pointer (some (Addr.mk gv 0 none)))] #[])∧
     E.n=m.S∧
     l=E.ai∧
     (E.on m).has x22=true∧
     ((.bool ((E.on m).clause 9 x22)):Value)=(.bool b))∨
    (v=(.func (.func 67) #[(.pointer (some (Addr.mk gv 0 none)))] #[])∧
     E.n=m.S∧
     l=E.ai∧
     (E.on m).has x22=true∧
     ((.bool ((E.on m).clause 10 x22)):Value)=(.bool b))∨
    (v=(.func (.func 68) #[(.pointer (some (Addr.mk gv 0 none)))] #[])∧
     E.n=m.S∧
     l=E.ai∧
     (E.on m).has x22=true∧
     ((.bool ((E.on m).clause 11 x22)):Value)=(.bool b))∨
    (v=(.func (.func 69) #[] #[(.pointer (some (Addr.mk gb 0 none)))])∧
     E.n=m.S∧
     l=E.ai∧
     (E.on m).has x22=true∧
     ((.bool ((E.on m).clause 12 x22)):Value)=(.bool b)))∧
   split (!b) (
    Q ⟨(.tuple #[(.int .i64 (i64.wrap (x10+1))),(.int .i64 x22)]),(some (.t [none,none])),[],[],[]⟩) (
    ∃m4,m4<m3∧I1 m4 number1 page1 (i64.wrap (x22+1)))) (
   ∃m2,m2<m1∧I m2 number1 page1 (i64.wrap (x10+1)))) (
  Q ⟨(.tuple #[(.int .i64 number),(.int .i64 aq)]),(some (.t [none,none])),[],[],[]⟩)
theorem D5:Vc2 Un Tryz.prog ⟨zZ [(21,ka),(22,gW),(55,fh),(57,fg),(59,ff),(61,fe),(62,gX),(63,jv),(64,jx),(65,jw),(66,lF),(67,gV),(68,gU),(69,fc)],.bool,[(55,[],[(.loc 4 0)]),(57,[],[(.loc 4 0)]),(59,[],[(.loc 4 0)]),(61,[],[(.loc 4 0)]),(62,[(.loc 2 0)],[]),(63,[(.loc 2 0)],[]),(64,[(.loc 2 0)],[]),(65,[(.loc 2 0)],[]),(66,[(.loc 2 0)],[]),(67,[(.loc 2 0)],[]),(68,[(.loc 2 0)],[]),(69,[],[(.loc 4 0)])]⟩ [] Tryz.f7 (.r' (.two (.r' (.r' (.two (.r' (.two (.node [] (some ⟨[(2,(.one (.int .i64))),(3,(.one (.int .i64))),(10,(.one (.int .i64)))],[],[2,3,5,6,7]++upN 10 24,[]⟩) [] [] (.r' (.r' (.two (.two (.r' (.r' (.r' (.two (.node [] (some ⟨[(2,(.one (.int .i64))),(3,(.one (.int .i64))),(22,(.one (.int .i64)))],[],[2,3,7]++upN 22 11,[]⟩) [] [] .leaf .leaf) .leaf)))) .leaf) .leaf))) .leaf) .leaf)) .leaf))) .leaf)) [] ot=(∀r (E:Pd) rm (m:Mem),∀Q,(ot.body r E rm m Q)→D4 r E rm m Q):=by kernel_rfl
theorem D3:LV Un Tryz.prog 7 ot:=verify Tryz.func7 aa (tb:= [(21,ka),(22,gW),(55,fh),(57,fg),(59,ff),(61,fe),(62,gX),(63,jv),(64,jx),(65,jw),(66,lF),(67,gV),(68,gU),(69,fc)]) ⟨CL,uD,pr,pq,po,pn,uE,yv,yz,yy,CM,uC,uB,pj,trivial⟩ (by kernel_rfl) (D5.mpr fun r E rm m Q h=>by
 obtain⟨hp0,h⟩:=h
 exact fun f1 f2=>aj ‹_› fun s3=>fun gv A c=>fun l h_l=>⟨fun m1 number aq x10=>(m1=(12 - x10).toNat)∧(number=0∧aq=0)∧(0≤x10∧x10≤12)∧((E.on m).eO (13 - (x10+1)).toNat (x10+1)=(E.on m).broken),⟨_,rfl,(by omega),(by omega),(by rfl)⟩,fun m1 _ number aq x10 ⟨hm,hn,hc,hb⟩=>au (fun c1=>aj ‹_› fun s4=>aj ‹_› fun s5=>fun gb v f6=>(by(have hv:=(by assumption:v=cH gv gb (i64.wrap (x10+1))));(rw [af (x:=x10+1) (by omega)]at hv);exact⟨fun m3 number1 page1 x22=>(m3=((E.n:Int) - x22).toNat)∧(number1=0∧page1=0)∧(0≤x22∧x22≤(E.n:Int))∧(eU ((E.on m).clause (x10+1)) 0 x22=true),⟨_,rfl,‹_›,(by omega),(dq (Int.le_refl _))⟩,fun m3 _ number1 page1 x22 ⟨hm,hn2,hi1,hz⟩=>au (fun c2=>(by(have hhas:(E.on m).has x22=true:=by grind);exact⟨((E.on m).clause (x10+1) x22),(by rcases(show x10+1=1∨x10+1=2∨x10+1=3∨x10+1=4∨x10+1=5∨x10+1=6∨x10+1=7∨x10+1=8∨x10+1=9∨x10+1=10∨x10+1=11∨x10+1=12 from by omega)with hk | hk | hk | hk | hk | hk | hk | hk | hk | hk | hk | hk<;>first | exact .inl ⟨by rw [hv,hk];rfl,hp0,h_l,hhas,by rw [hk]⟩ | exact .inr (.inl ⟨by rw [hv,hk];rfl,hp0,h_l,hhas,by rw [hk]⟩) | exact .inr (.inr (.inl ⟨by rw [hv,hk];rfl,hp0,h_l,hhas,by rw [hk]⟩)) | exact .inr (.inr (.inr (.inl ⟨by rw [hv,hk];rfl,hp0,h_l,hhas,by rw [hk]⟩))) | exact .inr (.inr (.inr (.inr (.inl ⟨by rw [hv,hk];rfl,hp0,h_l,hhas,by rw [hk]⟩)))) | exact .inr (.inr (.inr (.inr (.inr (.inl ⟨by rw [hv,hk];rfl,hp0,h_l,hhas,by rw [hk]⟩))))) | exact .inr (.inr (.inr (.inr (.inr (.inr (.inl ⟨by rw [hv,hk];rfl,hp0,h_l,hhas,by rw [hk]⟩)))))) | exact .inr (.inr (.inr (.inr (.inr (.inr (.inr (.inl ⟨by rw [hv,hk];rfl,hp0,h_l,hhas,by rw [hk]⟩))))))) | exact .inr (.inr (.inr (.inr (.inr (.inr (.inr (.inr (.inl ⟨by rw [hv,hk];rfl,hp0,h_l,hhas,by rw [hk]⟩)))))))) | exact .inr (.inr (.inr (.inr (.inr (.inr (.inr (.inr (.inr (.inl ⟨by rw [hv,hk];rfl,hp0,h_l,hhas,by rw [hk]⟩))))))))) | exact .inr (.inr (.inr (.inr (.inr (.inr (.inr (.inr (.inr (.inr (.inl ⟨by rw [hv,hk];rfl,hp0,h_l,hhas,by rw [hk]⟩)))))))))) | exact .inr (.inr (.inr (.inr (.inr (.inr (.inr (.inr (.inr (.inr (.inr (⟨by rw [hv,hk];rfl,hp0,h_l,hhas,by rw [hk]⟩)))))))))))),aQ (fun c3=>aF h (congrArg (fun l=>Value.tuple (List.toArray l)) (ah (congrArg (Value.int .i64) (by(rw [af (x:=x10+1) (by omega),DB.j6 ⟨by omega,by omega⟩ hb hz c3 ⟨hi1.1,by grind⟩]))) (ah (congrArg (Value.int .i64) (by(rw [DB.j6 ⟨by omega,by omega⟩ hb hz c3 ⟨hi1.1,by grind⟩]))) rfl))) rfl rfl) fun c3=>⟨_,(by(have h9:=af (x:=x22+1) (by grind));grind),rfl,‹_›,(by(have h9:=af (x:=x22+1) (by grind));grind),(bI hz (by grind) (af (by grind)))⟩⟩)) fun c2=>⟨_,(by(have h8:=af (x:=x10+1) (by omega));omega),rfl,(hn2),(by(have h8:=af (x:=x10+1) (by omega));omega),(by rw [af (x:=x10+1) (by omega)];exact DB.o6 ⟨by omega,by omega⟩ hb (show x22=((E.on m).S:Int)by grind) hz)⟩⟩)) fun c1=>aF h (congrArg (fun l=>Value.tuple (List.toArray l)) (ah (congrArg (Value.int .i64) (by rw [DB.iX (by omega) (by omega) hb];omega)) (ah (congrArg (Value.int .i64) (by rw [DB.iX (by omega) (by omega) hb];omega)) rfl))) rfl rfl⟩)
end Go.Proofs.YtbjlecpmgocoeaaGreatDoor
end
section
set_option maxRecDepth 100000
set_option maxHeartbeats 1000000
namespace Go.Proofs.YtbjlecpmgocoeaaGreatDoor
open Go Go.RowKit V
open Go.IntKind (i64 u32 u64)
open Go.Proofs (Tryz.prog)
def BR:Ctr Un:=⟨[.one (.int .i64),.one (.int .i64)],[],[],[],fun s i K=>((1≤(s:Int)∧(s:Int)≤64)∧(1≤(i:Int)∧(i:Int)≤64))∧∀(rN:Nat→Nat),K ⟨(.tuple #[(.pointer (some (Addr.mk (rN 0) 0 none))),(.int .i64 0)]),(some (.t [(some (.obj 0 0 0)),none])),[],[(.ob 0 rN (Mem.fresh s.toNat i.toNat))],[]⟩⟩
theorem Kx:LV Un Tryz.prog 27 BR:=by
 show ∀(s:Int)(i:Int),∀Q:Ou Un→Prop,(((1≤(s:Int)∧(s:Int)≤64)∧(1≤(i:Int)∧(i:Int)≤64))∧∀(rN:Nat→Nat),Q ⟨(.tuple #[(.pointer (some (Addr.mk (rN 0) 0 none))),(.int .i64 0)]),(some (.t [(some (.obj 0 0 0)),none])),[],[(.ob 0 rN (Mem.fresh s.toNat i.toNat))],[]⟩)→∀(X:Nat→Nat→Prop)(w:World),Sat (U:=Un) [] X w→aC (U:=Un) [] fr0 []→Calls Tryz.prog 27 #[(.int .i64 s),(.int .i64 i)] w (aU (U:=Un) [] [] X w Q)
 intro s i Q hQ X w hs hl
 obtain⟨⟨h1,h2⟩,hQ⟩:=hQ
 refine(Lq s i h1 h2).mono ?_
 rintro e w' ⟨u,rfl,L,rfl,hM,hf,q⟩
 exact aU.xv (Z:=L.X) hs q (show RS (U:=Un) L.X w' (.ob 0 (fun _=>L.g) (Mem.fresh s.toNat i.toNat))from(⟨L,rfl,fun _=>Iff.rfl,hM⟩:bp 0 (fun _=>L.g) (Mem.fresh s.toNat i.toNat) L.X w')) hf (hQ (fun _=>L.g)) (KnO.pair rfl) (fun _ _ h=>by cases h)
def sk:Ctr Un:=⟨[.one (.int .i64),.one (.int .i64)],[],[],[],fun s i K=>((1≤(s:Int)∧(s:Int)≤64)∧(1≤(i:Int)∧(i:Int)≤64))∧∀(rN:Nat→Nat),K ⟨(.tuple #[(.pointer (some (Addr.mk (rN 0) 0 none))),(.int .i64 0)]),(some (.t [(some (.obj 0 0 0)),none])),[],[(.ob 2 rN (Mem.fresh s.toNat i.toNat))],[]⟩⟩
theorem G7:LV Un Tryz.prog 30 sk:=by
 show ∀(s:Int)(i:Int),∀Q:Ou Un→Prop,(((1≤(s:Int)∧(s:Int)≤64)∧(1≤(i:Int)∧(i:Int)≤64))∧∀(rN:Nat→Nat),Q ⟨(.tuple #[(.pointer (some (Addr.mk (rN 0) 0 none))),(.int .i64 0)]),(some (.t [(some (.obj 0 0 0)),none])),[],[(.ob 2 rN (Mem.fresh s.toNat i.toNat))],[]⟩)→∀(X:Nat→Nat→Prop)(w:World),Sat (U:=Un) [] X w→aC (U:=Un) [] fr0 []→Calls Tryz.prog 30 #[(.int .i64 s),(.int .i64 i)] w (aU (U:=Un) [] [] X w Q)
 intro s i Q hQ X w hs hl
 obtain⟨⟨h1,h2⟩,hQ⟩:=hQ
 refine(JL s i h1 h2).mono ?_
 rintro e w' ⟨u,rfl,g,L,rfl,hM,hf,q⟩
 exact aU.xv (Z:=L.X) hs q (show RS (U:=Un) L.X w' (.ob 2 (fun _=>g) (Mem.fresh s.toNat i.toNat))from(⟨L,fun _=>Iff.rfl,hM⟩:bp 2 (fun _=>g) (Mem.fresh s.toNat i.toNat) L.X w')) hf (hQ (fun _=>g)) (KnO.pair rfl) (fun _ _ h=>by cases h)
def B6:Ctr Un:=⟨[.one (.obj 0 0)],[],[.ob 0 []],[0],fun rm m K=>1≤m.S∧∀(rN:Nat→Nat),K ⟨(.pointer (some (Addr.mk (rN 0) 0 none))),(some (.p (.obj 1 0 0))),[.ob 0 (m.bL m.S)],[(.ob 1 rN ((DB.new m).pd))],[(.l 1 1,.p (.obj 0 0 0))]⟩⟩
theorem KA:LV Un Tryz.prog 29 B6:=by
 show ∀(rm:Nat→Nat)(m:Mem),∀Q:Ou Un→Prop,(1≤m.S∧∀(rN:Nat→Nat),Q ⟨(.pointer (some (Addr.mk (rN 0) 0 none))),(some (.p (.obj 1 0 0))),[.ob 0 (m.bL m.S)],[(.ob 1 rN ((DB.new m).pd))],[(.l 1 1,.p (.obj 0 0 0))]⟩)→∀(X:Nat→Nat→Prop)(w:World),Sat (U:=Un) [(.ob 0 rm m)] X w→aC (U:=Un) [(.ob 0 rm m)] fr0 []→Calls Tryz.prog 29 #[(.pointer (some (Addr.mk (rm 0) 0 none)))] w (aU (U:=Un) [(.ob 0 rm m)] [0] X w Q)
 intro rm m Q hQ X w hs hl
 obtain⟨hS,hQ⟩:=hQ
 obtain⟨L,hg,hM,hX⟩:=Cq hs
 rw [hg]
 refine(Lu hM hS).mono ?_
 rintro e w' ⟨u,rfl,g,a,rfl,hM2,hD,⟨hb1,hb2⟩,q⟩
 have hlt:∀k,L.X k→k<w.heap.size:=hM.lt
 exact aU.JP (k:=some (.p (.obj 1 0 0))) (kc:= [(.l 1 1,.p (.obj 0 0 0))]) (Z0:=X 0) (Z1:=fun k=>k=g∨k=a) (q.mono fun k hk=>(hX k).1 hk) (show bp 0 rm (m.bL m.S) (X 0) w' from⟨L,hg,hX,hM2⟩) (fun k hk=>.inl hk) (show RS (U:=Un) (fun k=>k=g∨k=a) w' (.ob 1 (fun i=>if i=0 then g else L.g) (DB.new m).pd)from(⟨a,fun k=>Iff.rfl,hD.pd⟩:bp 1 (fun i=>if i=0 then g else L.g) (DB.new m).pd (fun k=>k=g∨k=a) w'))
  (fun k hk=>by rcases hk with rfl | rfl;exact hb1;exact hb2) (fun k hk hk2=>by have:=hlt k ((hX k).2 hk);rcases hk2 with rfl | rfl<;>omega) (hQ (fun i=>if i=0 then g else L.g)) rfl (n6 ⟨_,_,_,rfl,show some (Value.pointer (some ⟨rm 0,0,none⟩))=some (.pointer (some ⟨L.g,0,none⟩))by rw [hg]⟩)
def sF:Ctr Un:=⟨[.one (.obj 0 0)],[],[.ob 1 [(1,1,0)],.ob 0 []],[],fun r E rm m K=>E.n=m.S∧∀(A:Option Addr)(c:Nat),K ⟨(.slice A (((E.on m).words.map U32.mk).length) c),(some (.p (.sl 2 0))),[],[(.lst 1 true 22 A c ((E.on m).words.map U32.mk))],[]⟩⟩
theorem Hp:LV Un Tryz.prog 52 sF:=by
 show ∀(r:Nat→Nat)(E:Pd)(rm:Nat→Nat)(m:Mem),∀Q:Ou Un→Prop,(E.n=m.S∧∀(A:Option Addr)(c:Nat),Q ⟨(.slice A (((E.on m).words.map U32.mk).length) c),(some (.p (.sl 2 0))),[],[(.lst 1 true 22 A c ((E.on m).words.map U32.mk))],[]⟩)→∀(X:Nat→Nat→Prop)(w:World),Sat (U:=Un) [(.ob 1 r E),(.ob 0 rm m)] X w→aC (U:=Un) [(.ob 1 r E),(.ob 0 rm m)] fr0 [(.l 0 1,.p (.obj 1 0 0))]→Calls Tryz.prog 52 #[(.pointer (some (Addr.mk (r 0) 0 none)))] w (aU (U:=Un) [(.ob 1 r E),(.ob 0 rm m)] [] X w Q)
 intro r E rm m Q hQ X w hs hl
 obtain⟨hn,hQ⟩:=hQ
 obtain⟨a,L,hg,hr,hD,hX0,hX1⟩:=sU hs hl hn
 refine(Ka hD).mono ?_
 rintro e w' ⟨u,rfl,g,n,rfl,ho,hz,q⟩
 have hl2:=ho.len
 subst hl2
 exact aU.more hs q (vg (U:=Un) (t:=1) ho) (fun k hk=>by have:=hk.1;omega) (hQ _ _) rfl
def mE:Ctr Un:=⟨[.one (.obj 0 0)],[],[.ob 3 [(1,1,0)],.ob 2 []],[],fun r E rm m K=>E.n=m.S∧∀(A:Option Addr)(c:Nat),K ⟨(.slice A (((E.on m).words.map U32.mk).length) c),(some (.p (.sl 2 0))),[],[(.lst 1 true 22 A c ((E.on m).words.map U32.mk))],[]⟩⟩
theorem Bs:LV Un Tryz.prog 93 mE:=by
 show ∀(r:Nat→Nat)(E:Pd)(rm:Nat→Nat)(m:Mem),∀Q:Ou Un→Prop,(E.n=m.S∧∀(A:Option Addr)(c:Nat),Q ⟨(.slice A (((E.on m).words.map U32.mk).length) c),(some (.p (.sl 2 0))),[],[(.lst 1 true 22 A c ((E.on m).words.map U32.mk))],[]⟩)→∀(X:Nat→Nat→Prop)(w:World),Sat (U:=Un) [(.ob 3 r E),(.ob 2 rm m)] X w→aC (U:=Un) [(.ob 3 r E),(.ob 2 rm m)] fr0 [(.l 0 1,.p (.obj 1 0 0))]→Calls Tryz.prog 93 #[(.pointer (some (Addr.mk (r 0) 0 none)))] w (aU (U:=Un) [(.ob 3 r E),(.ob 2 rm m)] [] X w Q)
 intro r E rm m Q hQ X w hs hl
 obtain⟨hn,hQ⟩:=hQ
 obtain⟨L,hD⟩:=KK hs hl hn
 refine(FF hD).mono ?_
 rintro e w' ⟨u,rfl,Z',A',N',C',rfl,ho,hz,q⟩
 have hl2:=ho.len
 subst hl2
 exact aU.more hs q (vg (U:=Un) (t:=1) ho) (fun k hk=>hz k hk.1) (hQ _ _) rfl
def AY:Ctr Un:=⟨[],[],[],[],fun K=>∀(rN:Nat→Nat),K ⟨(.pointer (some (Addr.mk (rN 0) 0 none))),(some (.p (.obj 0 0 0))),[],[(.ob 4 rN Dg.new)],[]⟩⟩
theorem Ku:LV Un Tryz.prog 87 AY:=by
 show ∀Q:Ou Un→Prop,(∀(rN:Nat→Nat),Q ⟨(.pointer (some (Addr.mk (rN 0) 0 none))),(some (.p (.obj 0 0 0))),[],[(.ob 4 rN Dg.new)],[]⟩)→∀(X:Nat→Nat→Prop)(w:World),Sat (U:=Un) [] X w→aC (U:=Un) [] fr0 []→Calls Tryz.prog 87 #[] w (aU (U:=Un) [] [] X w Q)
 intro Q hQ X w hs hl
 refine Ll.mono ?_
 rintro e w' ⟨u,rfl,g,L,rfl,hD,hf,q⟩
 exact aU.xv (Z:=L.X g) hs q (show RS (U:=Un) (L.X g) w' (.ob 4 (fun _=>g) Dg.new)from(⟨L,fun _=>Iff.rfl,hD⟩:bp 4 (fun _=>g) Dg.new (L.X g) w')) hf (hQ (fun _=>g)) rfl (fun _ _ h=>by cases h)
def A5:Ctr Un:=⟨[.one (.obj 0 0),.one (.sl 1)],[(2,5)],[.ob 4 [],.lst 1 false 22,.ob 5 []],[0],fun r d A c l rk kk K=>d.Ok∧l.length≤1099511627776∧K ⟨(.tuple #[]),(some (.t [])),[.ob 4 (d.add kk l)],[],[]⟩⟩
theorem Kv:LV Un Tryz.prog 89 A5:=by
 show ∀(r:Nat→Nat)(d:Dg)(A:Option Addr)(c:Nat)(l:List U32)(rk:Nat→Nat)(kk:List Int),∀Q:Ou Un→Prop,(d.Ok∧l.length≤1099511627776∧Q ⟨(.tuple #[]),(some (.t [])),[.ob 4 (d.add kk l)],[],[]⟩)→∀(X:Nat→Nat→Prop)(w:World),Sat (U:=Un) [(.ob 4 r d),(.lst 1 false 22 A c l),(.ob 5 rk kk)] X w→aC (U:=Un) [(.ob 4 r d),(.lst 1 false 22 A c l),(.ob 5 rk kk)] fr0 []→Calls Tryz.prog 89 #[(.pointer (some (Addr.mk (r 0) 0 none))),(.slice A l.length c)] w (aU (U:=Un) [(.ob 4 r d),(.lst 1 false 22 A c l),(.ob 5 rk kk)] [0] X w Q)
 intro r d A c l rk kk Q hQ X w hs hl
 obtain⟨hok,hlen,hQ⟩:=hQ
 obtain⟨L,hX,hD⟩:=(hs.res 0 _ rfl:bp 4 r d (X 0) w)
 have hr:Rd w (X 1) A l.length c l:=hs.res 1 _ rfl
 obtain⟨hX2,hK⟩:=(hs.res 2 _ rfl:bp 5 rk kk (X 2) w)
 have h0:X 0 (r 0):=(hX _).1 (.inl rfl)
 refine(Lm hD hr hK hok hlen (fun h=>hs.dis 0 1 (by simp) (by simp) (by omega) _ h0 h) (fun h=>hs.dis 0 2 (by simp) (by simp) (by omega) _ h0 ((hX2 _).1 h))).mono ?_
 rintro e w' ⟨u,rfl,L',rfl,hD',hg,q⟩
 exact aU.first (Z:=L'.X (r 0)) hs (q.mono fun k hk=>(hX k).1 hk) (show bp 4 r (d.add kk l) (L'.X (r 0)) w' from⟨L',fun _=>Iff.rfl,hD'⟩) (fun k hk=>(hg k hk).imp (fun h=>(hX k).1 h) id) hQ (KnO.tup _ (by simp))
def vQ:Ctr Un:=⟨[.one (.obj 0 0)],[],[.ob 4 []],[],fun r d K=>d.Ok∧K ⟨(.agg ⟨Dg.sv d⟩),none,[],[],[]⟩⟩
theorem IE:LV Un Tryz.prog 91 vQ:=by
 show ∀(r:Nat→Nat)(d:Dg),∀Q:Ou Un→Prop,(d.Ok∧Q ⟨(.agg ⟨Dg.sv d⟩),none,[],[],[]⟩)→∀(X:Nat→Nat→Prop)(w:World),Sat (U:=Un) [(.ob 4 r d)] X w→aC (U:=Un) [(.ob 4 r d)] fr0 []→Calls Tryz.prog 91 #[(.pointer (some (Addr.mk (r 0) 0 none)))] w (aU (U:=Un) [(.ob 4 r d)] [] X w Q)
 intro r d Q hQ X w hs hl
 obtain⟨hok,hQ⟩:=hQ
 obtain⟨L,hX,hD⟩:=(hs.res 0 _ rfl:bp 4 r d (X 0) w)
 refine(KI hD hok).mono ?_
 rintro e w' ⟨u,rfl,rfl,q⟩
 rw [wW (by rw [Dg.qF hok])]
 exact aU.pu hs q hQ trivial
def sr:Ctr Un:=⟨[],[],[],[],fun K=>K ⟨(.agg #[(.int .u32 S8.first.a),(.int .u32 S8.first.b),(.int .u32 S8.first.c),(.int .u32 S8.first.d),(.int .u32 S8.first.e),(.int .u32 S8.first.f),(.int .u32 S8.first.g),(.int .u32 S8.first.h),(.slice none 0 0),(.int .i64 0)]),none,[],[],[]⟩⟩
theorem G8:LV Un Tryz.prog 88 sr:=by
 show ∀Q:Ou Un→Prop,(Q ⟨(.agg #[(.int .u32 S8.first.a),(.int .u32 S8.first.b),(.int .u32 S8.first.c),(.int .u32 S8.first.d),(.int .u32 S8.first.e),(.int .u32 S8.first.f),(.int .u32 S8.first.g),(.int .u32 S8.first.h),(.slice none 0 0),(.int .i64 0)]),none,[],[],[]⟩)→∀(X:Nat→Nat→Prop)(w:World),Sat (U:=Un) [] X w→aC (U:=Un) [] fr0 []→Calls Tryz.prog 88 #[] w (aU (U:=Un) [] [] X w Q)
 intro Q hQ X w hs hl
 refine JM.mono ?_
 rintro e w' ⟨u,rfl,rfl,q⟩
 exact aU.pu hs q hQ trivial
def sy:Ctr Un:=⟨[.agg [.int .u32,.int .u32,.int .u32,.int .u32,.int .u32,.int .u32,.int .u32,.int .u32,.sl 0,.int .i64],.one (.sl 1)],[(2,6)],[.lst 1 true 22,.lst 1 false 22,.ob 6 []],[0],fun da db dc dd de df dg dh dn A0 c0 l0 A c l rk kk K=>(Dg.mk (S8.mk da db dc dd de df dg dh) dn l0).Ok∧(l.length≤1099511627776∧(l.length:Int)≤36028797018963968 - dn)∧∀(A1:Option Addr)(c1:Nat),K ⟨(.agg #[(.int .u32 (((Dg.mk (S8.mk da db dc dd de df dg dh) dn l0).add kk l).st.a)),(.int .u32 (((Dg.mk (S8.mk da db dc dd de df dg dh) dn l0).add kk l).st.b)),(.int .u32 (((Dg.mk (S8.mk da db dc dd de df dg dh) dn l0).add kk l).st.c)),(.int .u32 (((Dg.mk (S8.mk da db dc dd de df dg dh) dn l0).add kk l).st.d)),(.int .u32 (((Dg.mk (S8.mk da db dc dd de df dg dh) dn l0).add kk l).st.e)),(.int .u32 (((Dg.mk (S8.mk da db dc dd de df dg dh) dn l0).add kk l).st.f)),(.int .u32 (((Dg.mk (S8.mk da db dc dd de df dg dh) dn l0).add kk l).st.g)),(.int .u32 (((Dg.mk (S8.mk da db dc dd de df dg dh) dn l0).add kk l).st.h)),(.slice A1 (((Dg.mk (S8.mk da db dc dd de df dg dh) dn l0).add kk l).waits.length) c1),(.int .i64 (((Dg.mk (S8.mk da db dc dd de df dg dh) dn l0).add kk l).n))]),(some (.ag [none,none,none,none,none,none,none,none,(some (.sl 0 0)),none])),[.lst 1 A1 c1 (((Dg.mk (S8.mk da db dc dd de df dg dh) dn l0).add kk l).waits)],[],[]⟩⟩
theorem G9:LV Un Tryz.prog 90 sy:=by
 show ∀(da:Int)(db:Int)(dc:Int)(dd:Int)(de:Int)(df:Int)(dg:Int)(dh:Int)(dn:Int)(A0:Option Addr)(c0:Nat)(l0:List U32)(A:Option Addr)(c:Nat)(l:List U32)(rk:Nat→Nat)(kk:List Int),∀Q:Ou Un→Prop,((Dg.mk (S8.mk da db dc dd de df dg dh) dn l0).Ok∧(l.length≤1099511627776∧(l.length:Int)≤36028797018963968 - dn)∧∀(A1:Option Addr)(c1:Nat),Q ⟨(.agg #[(.int .u32 (((Dg.mk (S8.mk da db dc dd de df dg dh) dn l0).add kk l).st.a)),(.int .u32 (((Dg.mk (S8.mk da db dc dd de df dg dh) dn l0).add kk l).st.b)),(.int .u32 (((Dg.mk (S8.mk da db dc dd de df dg dh) dn l0).add kk l).st.c)),(.int .u32 (((Dg.mk (S8.mk da db dc dd de df dg dh) dn l0).add kk l).st.d)),(.int .u32 (((Dg.mk (S8.mk da db dc dd de df dg dh) dn l0).add kk l).st.e)),(.int .u32 (((Dg.mk (S8.mk da db dc dd de df dg dh) dn l0).add kk l).st.f)),(.int .u32 (((Dg.mk (S8.mk da db dc dd de df dg dh) dn l0).add kk l).st.g)),(.int .u32 (((Dg.mk (S8.mk da db dc dd de df dg dh) dn l0).add kk l).st.h)),(.slice A1 (((Dg.mk (S8.mk da db dc dd de df dg dh) dn l0).add kk l).waits.length) c1),(.int .i64 (((Dg.mk (S8.mk da db dc dd de df dg dh) dn l0).add kk l).n))]),(some (.ag [none,none,none,none,none,none,none,none,(some (.sl 0 0)),none])),[.lst 1 A1 c1 (((Dg.mk (S8.mk da db dc dd de df dg dh) dn l0).add kk l).waits)],[],[]⟩)→∀(X:Nat→Nat→Prop)(w:World),Sat (U:=Un) [(.lst 1 true 22 A0 c0 l0),(.lst 1 false 22 A c l),(.ob 6 rk kk)] X w→aC (U:=Un) [(.lst 1 true 22 A0 c0 l0),(.lst 1 false 22 A c l),(.ob 6 rk kk)] fr0 []→Calls Tryz.prog 90 #[(.agg #[(.int .u32 da),(.int .u32 db),(.int .u32 dc),(.int .u32 dd),(.int .u32 de),(.int .u32 df),(.int .u32 dg),(.int .u32 dh),(.slice A0 l0.length c0),(.int .i64 dn)]),(.slice A l.length c)] w (aU (U:=Un) [(.lst 1 true 22 A0 c0 l0),(.lst 1 false 22 A c l),(.ob 6 rk kk)] [0] X w Q)
 intro da db dc dd de df dg dh dn A0 c0 l0 A c l rk kk Q hQ X w hs hl
 obtain⟨hok,⟨hlen,hle⟩,hQ⟩:=hQ
 obtain⟨hO,hOl⟩:Own w (X 0) 22 A0 l0.length c0 l0∧∀k,X 0 k→k<w.heap.size:=hs.res 0 _ rfl
 have hr:Rd w (X 1) A l.length c l:=hs.res 1 _ rfl
 obtain⟨hX2,hK⟩:=(hs.res 2 _ rfl:bp 6 rk kk (X 2) w)
 refine(JN hO.rd hr hK da db dc dd de df dg dh dn hok hlen).mono ?_
 rintro e w' ⟨u,rfl,Z',A',N',C',rfl,hr2,_,ho,q⟩
 obtain⟨ho,hz⟩:=ho hle
 have hl2:=hr2.len
 subst hl2
 exact aU.J6 (Z:=fun k=>Z' k∧k<w'.heap.size) hs (q.mono fun k hk=>hk.elim) (vg (U:=Un) (t:=1) ho) (fun k hk=>.inr (hz k hk.1)) (hQ A' C') ⟨_,rfl,fun j k hj=>by
  match j,hj with
  | 8,hj=>simp only [nth,Option.some.injEq]at hj;subst hj;exact⟨_,rfl,rfl⟩
  | 0,hj | 1,hj | 2,hj | 3,hj | 4,hj | 5,hj | 6,hj | 7,hj | 9,hj=>simp [nth]at hj
  | j+10,hj=>simp [nth]at hj⟩
def oA:Ctr Un:=⟨[.agg [.int .u32,.int .u32,.int .u32,.int .u32,.int .u32,.int .u32,.int .u32,.int .u32,.sl 0,.int .i64]],[],[.lst 1 true 22],[],fun da db dc dd de df dg dh dn A0 c0 l0 K=>(Dg.mk (S8.mk da db dc dd de df dg dh) dn l0).Ok∧K ⟨(.agg ⟨Dg.sv (Dg.mk (S8.mk da db dc dd de df dg dh) dn l0)⟩),none,[],[],[]⟩⟩
theorem EE:LV Un Tryz.prog 92 oA:=by
 show ∀(da:Int)(db:Int)(dc:Int)(dd:Int)(de:Int)(df:Int)(dg:Int)(dh:Int)(dn:Int)(A0:Option Addr)(c0:Nat)(l0:List U32),∀Q:Ou Un→Prop,((Dg.mk (S8.mk da db dc dd de df dg dh) dn l0).Ok∧Q ⟨(.agg ⟨Dg.sv (Dg.mk (S8.mk da db dc dd de df dg dh) dn l0)⟩),none,[],[],[]⟩)→∀(X:Nat→Nat→Prop)(w:World),Sat (U:=Un) [(.lst 1 true 22 A0 c0 l0)] X w→aC (U:=Un) [(.lst 1 true 22 A0 c0 l0)] fr0 []→Calls Tryz.prog 92 #[(.agg #[(.int .u32 da),(.int .u32 db),(.int .u32 dc),(.int .u32 dd),(.int .u32 de),(.int .u32 df),(.int .u32 dg),(.int .u32 dh),(.slice A0 l0.length c0),(.int .i64 dn)])] w (aU (U:=Un) [(.lst 1 true 22 A0 c0 l0)] [] X w Q)
 intro da db dc dd de df dg dh dn A0 c0 l0 Q hQ X w hs hl
 obtain⟨hok,hQ⟩:=hQ
 obtain⟨hO,hOl⟩:Own w (X 0) 22 A0 l0.length c0 l0∧∀k,X 0 k→k<w.heap.size:=hs.res 0 _ rfl
 refine(HQ hO.rd da db dc dd de df dg dh dn hok).mono ?_
 rintro e w' ⟨u,rfl,rfl,q⟩
 rw [wW (by rw [Dg.qF hok])]
 exact aU.pu hs q hQ trivial
end Go.Proofs.YtbjlecpmgocoeaaGreatDoor
end
section
set_option maxRecDepth 100000
set_option maxHeartbeats 1000000
namespace Go.Proofs.YtbjlecpmgocoeaaGreatDoor
open Go Go.RowKit V
open Go.IntKind (i64 u32 u64)
open Go.Proofs (Tryz.prog)
attribute [local grind=] Pd.cB Pd.bN Pd.jT Pd.kq Pd.dy Pd.cA Pd.eT Pd.gM Pd.mT Pd.gi
attribute [local grind .] Pd.Ok.ent
attribute [local grind→] Pd.Ok.dk
def gx:Ctr Un:=⟨[.one (.obj 0 0)],[],[.ob 2 []],[],fun rm m K=>K ⟨(.int .i64 (m.S:Int)),none,[],[],[]⟩⟩
theorem pz:LV Un Tryz.prog 76 gx:=by
 show ∀(rm:Nat→Nat)(m:Mem),∀Q:Ou Un→Prop,(Q ⟨(.int .i64 (m.S:Int)),none,[],[],[]⟩)→∀(X:Nat→Nat→Prop)(w:World),Sat (U:=Un) [(.ob 2 rm m)] X w→aC (U:=Un) [(.ob 2 rm m)] fr0 []→Calls Tryz.prog 76 #[(.pointer (some (Addr.mk (rm 0) 0 none)))] w (aU (U:=Un) [(.ob 2 rm m)] [] X w Q)
 intro rm m Q hQ X w hs hl
 obtain⟨L,hX,hM⟩:=(hs.res 0 _ rfl:bp 2 rm m (X 0) w)
 refine(Dl hM).mono ?_
 rintro e w' ⟨u,rfl,rfl,q⟩
 subst q
 exact aU.pu hs (Ch.refl _ _) hQ trivial
theorem ud {m:Mem} {l:List U32} {p:Nat}(h:(Ent.cN (DB.wd l (1+2*p)) (DB.wd l (2+2*p)) !=0)=true∨decide ((Ent.dec (DB.wd l (1+2*p)) (DB.wd l (2+2*p))).owner≥(m.S:Int))=true):DB.gk m l p=false:=by
 unfold DB.gk
 rcases h with h | h
 ·simp at h;simp [h]
 ·simp at h;simp;omega
theorem rC {m:Mem} {l:List U32} {p:Nat}(hok:∀q,q<p→DB.gk m l q=true)(h:(Ent.cN (DB.wd l (1+2*p)) (DB.wd l (2+2*p)) !=0)=false∧decide ((Ent.dec (DB.wd l (1+2*p)) (DB.wd l (2+2*p))).owner≥(m.S:Int))=false):∀q,q<p+1→DB.gk m l q=true:=by
 intro q hq
 by_cases e:q=p
 ·subst e
  unfold DB.gk
  have h1:=h.1
  have h2:=h.2
  simp at h1 h2
  simp [h1,h2]
 ·exact hok q (by omega)
def sd:Ctr Un:=⟨[.one (.obj 0 0),.one (.sl 1)],[],[.ob 2 [],.lst 1 false 22],[],fun rm m A c l K=>((∀x∈l,0≤x.v∧x.v<4294967296))∧split (decide (DB.aE m l=0)) (∀(g:Nat)(A1:Option Addr)(c1:Nat),K ⟨(.tuple #[(.pointer (some (Addr.mk g 0 none))),(.int .i64 0)]),(some (.t [(some (.loc 2 0)),none])),[],[(.blk g [(.pointer (some (Addr.mk (rm 0) 0 none))),(.slice A1 (((DB.load m l).ai).length) c1),(.int .i64 (DB.wd l 0))] 67),(.lst 4 true 120 A1 c1 ((DB.load m l).ai))],[(.c 2 0,.p (.obj 0 0 0)),(.c 2 1,.p (.sl 3 0))]⟩) (K ⟨(.tuple #[(.pointer none),(.int .i64 110)]),(some (.t [none,none])),[],[],[]⟩)⟩
def BA(rm:Nat→Nat)(m:Mem)(A:Option Addr)(c:Nat)(l:List U32)(Q:Ou Un→Prop):Prop:=
 Mem.Wf m→
 ∃J:Bool→Prop,(
  split ((l.length:Int) !=(i64.wrap (1+(i64.wrap (2*m.S))))) (
   J true) (
   (0≤(0:Int)∧(0:Int)<(l.length:Int))∧
   J (decide ((l.getD (Int.toNat 0) (U32.mk 0)).v>64))))∧∀(_gv:Nat→Value)(x26:Bool),J x26→
 split x26 (
  Q ⟨(.tuple #[(.pointer none),(.int .i64 110)]),(some (.t [none,none])),[],[],[]⟩) (
  (0≤(0:Int)∧(0:Int)<(l.length:Int))∧
  (some (.pointer (some (Addr.mk (rm 0) 0 none))):Option Value)=some (.pointer (some (Addr.mk (rm 0) 0 none)))∧
  ∀(gv1:Nat),
  ∀p:Int,p=0→
  ∃I:Nat→Int→Int→Option Addr→Nat→List Ent→Prop,(∃m1,I m1 p (i64.wrap ((l.getD (Int.toNat 0) (U32.mk 0)).v)) none 0 ([]:List Ent))∧∀(m1:Nat)(_gv2:Nat→Value)(p1:Int)(y2c:Int)(A3:Option Addr)(c3:Nat)(l3:List Ent),I m1 p1 y2c A3 c3 l3→
  split (decide (p1<m.S)) (
   (0≤(i64.wrap (1+(i64.wrap (2*p1))))∧(i64.wrap (1+(i64.wrap (2*p1))))<(l.length:Int))∧
   (0≤(i64.wrap (2+(i64.wrap (2*p1))))∧(i64.wrap (2+(i64.wrap (2*p1))))<(l.length:Int))∧
   (((0≤((l.getD (Int.toNat (i64.wrap (1+(i64.wrap (2*p1))))) (U32.mk 0)).v)∧((l.getD (Int.toNat (i64.wrap (1+(i64.wrap (2*p1))))) (U32.mk 0)).v)<4294967296)∧(0≤((l.getD (Int.toNat (i64.wrap (2+(i64.wrap (2*p1))))) (U32.mk 0)).v)∧((l.getD (Int.toNat (i64.wrap (2+(i64.wrap (2*p1))))) (U32.mk 0)).v)<4294967296))∧
     ∀(gv3:Nat),
     ∃J1:Bool→Prop,(
      split ((Ent.cN ((l.getD (Int.toNat (i64.wrap (1+(i64.wrap (2*p1))))) (U32.mk 0)).v) ((l.getD (Int.toNat (i64.wrap (2+(i64.wrap (2*p1))))) (U32.mk 0)).v)) !=0) (
       J1 true) (
       J1 (decide ((Ent.dec ((l.getD (Int.toNat (i64.wrap (1+(i64.wrap (2*p1))))) (U32.mk 0)).v) ((l.getD (Int.toNat (i64.wrap (2+(i64.wrap (2*p1))))) (U32.mk 0)).v)).owner≥m.S))))∧∀(_gv4:Nat→Value)(x65:Bool),J1 x65→
     split x65 (
      Q ⟨(.tuple #[(.pointer none),(.int .i64 110)]),(some (.t [none,none])),[],[],[]⟩) (
      ∀(gv5:Nat),
      ∀(l1:List Ent),l1=([Ent.mk ((Ent.dec ((l.getD (Int.toNat (i64.wrap (1+(i64.wrap (2*p1))))) (U32.mk 0)).v) ((l.getD (Int.toNat (i64.wrap (2+(i64.wrap (2*p1))))) (U32.mk 0)).v)).typ) ((Ent.dec ((l.getD (Int.toNat (i64.wrap (1+(i64.wrap (2*p1))))) (U32.mk 0)).v) ((l.getD (Int.toNat (i64.wrap (2+(i64.wrap (2*p1))))) (U32.mk 0)).v)).owner) ((Ent.dec ((l.getD (Int.toNat (i64.wrap (1+(i64.wrap (2*p1))))) (U32.mk 0)).v) ((l.getD (Int.toNat (i64.wrap (2+(i64.wrap (2*p1))))) (U32.mk 0)).v)).refs) ((Ent.dec ((l.getD (Int.toNat (i64.wrap (1+(i64.wrap (2*p1))))) (U32.mk 0)).v) ((l.getD (Int.toNat (i64.wrap (2+(i64.wrap (2*p1))))) (U32.mk 0)).v)).state) ((Ent.dec ((l.getD (Int.toNat (i64.wrap (1+(i64.wrap (2*p1))))) (U32.mk 0)).v) ((l.getD (Int.toNat (i64.wrap (2+(i64.wrap (2*p1))))) (U32.mk 0)).v)).aG)]:List Ent)→
      ((l3.length+l1.length)*40≤140737488355328)∧
      ∀(A1:Option Addr)(c1:Nat),
      ∀(l2:List Ent),l2=(l3++l1)→
      ∀p2:Int,p2=(i64.wrap (p1+1))→
      ∃m2,m2<m1∧I m2 p2 y2c A1 c1 l2))∧
   (∀(gv3:Nat),
    ((0≤((l.getD (Int.toNat (i64.wrap (1+(i64.wrap (2*p1))))) (U32.mk 0)).v)∧((l.getD (Int.toNat (i64.wrap (1+(i64.wrap (2*p1))))) (U32.mk 0)).v)<4294967296)∧(0≤((l.getD (Int.toNat (i64.wrap (2+(i64.wrap (2*p1))))) (U32.mk 0)).v)∧((l.getD (Int.toNat (i64.wrap (2+(i64.wrap (2*p1))))) (U32.mk 0)).v)<4294967296))∧
    ∃J1:Bool→Prop,(
     split ((Ent.cN ((l.getD (Int.toNat (i64.wrap (1+(i64.wrap (2*p1))))) (U32.mk 0)).v) ((l.getD (Int.toNat (i64.wrap (2+(i64.wrap (2*p1))))) (U32.mk 0)).v)) !=0) (
      J1 true) (
      J1 (decide ((Ent.dec ((l.getD (Int.toNat (i64.wrap (1+(i64.wrap (2*p1))))) (U32.mk 0)).v) ((l.getD (Int.toNat (i64.wrap (2+(i64.wrap (2*p1))))) (U32.mk 0)).v)).owner≥m.S))))∧∀(_gv4:Nat→Value)(x65:Bool),J1 x65→
    split x65 (
     Q ⟨(.tuple #[(.pointer none),(.int .i64 110)]),(some (.t [none,none])),[],[],[]⟩) (
     ∀(gv5:Nat),
     ∀(l1:List Ent),l1=([Ent.mk ((Ent.dec ((l.getD (Int.toNat (i64.wrap (1+(i64.wrap (2*p1))))) (U32.mk 0)).v) ((l.getD (Int.toNat (i64.wrap (2+(i64.wrap (2*p1))))) (U32.mk 0)).v)).typ) ((Ent.dec ((l.getD (Int.toNat (i64.wrap (1+(i64.wrap (2*p1))))) (U32.mk 0)).v) ((l.getD (Int.toNat (i64.wrap (2+(i64.wrap (2*p1))))) (U32.mk 0)).v)).owner) ((Ent.dec ((l.getD (Int.toNat (i64.wrap (1+(i64.wrap (2*p1))))) (U32.mk 0)).v) ((l.getD (Int.toNat (i64.wrap (2+(i64.wrap (2*p1))))) (U32.mk 0)).v)).refs) ((Ent.dec ((l.getD (Int.toNat (i64.wrap (1+(i64.wrap (2*p1))))) (U32.mk 0)).v) ((l.getD (Int.toNat (i64.wrap (2+(i64.wrap (2*p1))))) (U32.mk 0)).v)).state) ((Ent.dec ((l.getD (Int.toNat (i64.wrap (1+(i64.wrap (2*p1))))) (U32.mk 0)).v) ((l.getD (Int.toNat (i64.wrap (2+(i64.wrap (2*p1))))) (U32.mk 0)).v)).aG)]:List Ent)→
     ((l3.length+l1.length)*40≤140737488355328)∧
     ∀(A1:Option Addr)(c1:Nat),
     ∀(l2:List Ent),l2=(l3++l1)→
     ∀p2:Int,p2=(i64.wrap (p1+1))→
     ∃m2,m2<m1∧I m2 p2 y2c A1 c1 l2))) (
   Q ⟨(.tuple #[(.pointer (some (Addr.mk gv1 0 none))),(.int .i64 0)]),(some (.t [(some (.loc 2 0)),none])),[],[(.blk gv1 [(.pointer (some (Addr.mk (rm 0) 0 none))),(.slice A3 l3.length c3),(.int .i64 y2c)] 67),(.lst 4 true 120 A3 c3 l3)],[(.c 2 0,.p (.obj 0 0 0)),(.c 2 1,.p (.sl 3 0))]⟩))
theorem BB:Vc2 Un Tryz.prog (aN [(76,gx),(120,gu)]) [7] Tryz.f95 (.r' (.two (.two (.node [] (some ⟨[(26,(.one .bool))],[],upN 10 17,[]⟩) [] [] .leaf .leaf) .leaf) (.r' (.two (.r' (.two (.node [(.c 2 1,4,120)] (some ⟨[(7,(.one (.int .i64)))],[],[4,5,7,8,9]++upN 34 42,[(2,(.blk [(.k (.obj 0 0 0)),(.k (.sl 3 0)),(.v (.int .i64))])),(3,(.lst 4))]⟩) [] [] (.r' (.two (.two (.two (.node [] none [] [(5,[1]),(11,[1])] .leaf .leaf) (.two (.two (.node [] (some ⟨[(65,(.one .bool))],[],upN 57 9,[]⟩) [] [(4,[4])] .leaf .leaf) .leaf) (.node [] none [] [(4,[2]),(5,[4])] .leaf .leaf))) .leaf) .leaf)) .leaf) .leaf)) .leaf)))) [1000000,2,3] sd=(∀rm (m:Mem) A c (l:List U32),∀Q,(((∀x∈l,0≤x.v∧x.v<4294967296))∧split (decide (DB.aE m l=0)) (∀(g:Nat)(A1:Option Addr)(c1:Nat),Q ⟨(.tuple #[(.pointer (some (Addr.mk g 0 none))),(.int .i64 0)]),(some (.t [(some (.loc 2 0)),none])),[],[(.blk g [(.pointer (some (Addr.mk (rm 0) 0 none))),(.slice A1 (((DB.load m l).ai).length) c1),(.int .i64 (DB.wd l 0))] 67),(.lst 4 true 120 A1 c1 ((DB.load m l).ai))],[(.c 2 0,.p (.obj 0 0 0)),(.c 2 1,.p (.sl 3 0))]⟩) (Q ⟨(.tuple #[(.pointer none),(.int .i64 110)]),(some (.t [none,none])),[],[],[]⟩))→BA rm m A c l Q):=by kernel_rfl
theorem Bz:LV Un Tryz.prog 95 sd:=verify Tryz.func95 aa (tb:= [(76,gx),(120,gu)]) ⟨pz,za,trivial⟩ (by kernel_rfl) (BB.mpr fun rm m A c l Q h=>by
 try skip
 obtain⟨hp0,h⟩:=h
 exact fun f1=>(by have hS:=f1.2.1;(have e16:i64.wrap (1+i64.wrap (2*(m.S:Int)))=1+2*(m.S:Int):=by rw [af (x:=2*(m.S:Int)) (by omega),af (by omega)]);have hwr:=DB.uZ hp0;exact aY (((((l.length:Nat):Int):Int) !=(i64.wrap (1+(i64.wrap (2*(m.S:Int)))))) || (decide (((l.getD (Int.toNat 0) (U32.mk 0)).v:Int)>64))) (ab (fun k1=>(by grind)) fun k1=>aj (by((rw [e16]at k1;simp at k1;omega))) fun s2=>(by grind))<| aK (fun k2=>(bx h (by(by_cases hn:l.length=1+2*m.S;(rw [DB.tX hn (by rw [e16]at k2;rcases k2 with k2 | k2;(simp at k2;omega);(simpa [DB.wd]using k2))];rfl);(rw [DB.oR hn];rfl))))) fun k2=>(by rw [e16]at k2;(have hlen:l.length=1+2*m.S:=by have:=k2.1;simp at this;omega);(have hb:¬DB.wd l 0>64:=by have:=k2.2;simpa [DB.wd]using this);exact aj (by(omega)) fun s3=>aj (by rfl) fun s4=>fun gv1=>allEq<| ⟨fun m1 p1 y2c A3 c3 l3=>(m1=((m.S:Int) - p1).toNat)∧(0≤p1∧p1≤(m.S:Int))∧(y2c=DB.wd l 0)∧(l3=(List.range p1.toNat).map (DB.load m l).ent)∧(∀q,q<p1.toNat→DB.gk m l q=true),⟨_,rfl,(by omega),(by have:=hwr 0;exact af (x:=DB.wd l 0) (by omega)),(by rfl),(by intro q hq;omega)⟩,fun m1 _ p1 y2c A3 c3 l3 ⟨hm,hi,hy,hl,hok⟩=>(by(have hwa:p1<(m.S:Int)→(l.getD (Int.toNat (i64.wrap (1+i64.wrap (2*p1)))) (U32.mk 0)).v=DB.wd l (1+2*p1.toNat):=fun hh=>by rw [af (x:=2*p1) (by omega),af (by omega),show(1+2*p1).toNat=1+2*p1.toNat by omega];rfl);(have hwb:p1<(m.S:Int)→(l.getD (Int.toNat (i64.wrap (2+i64.wrap (2*p1)))) (U32.mk 0)).v=DB.wd l (2+2*p1.toNat):=fun hh=>by rw [af (x:=2*p1) (by omega),af (by omega),show(2+2*p1).toNat=2+2*p1.toNat by omega];rfl);exact au (fun k3=>(by replace hwa:=hwa k3;replace hwb:=hwb k3;exact aj (by rw [af (x:=2*p1) (by omega),af (by omega)];omega) fun s5=>aj (by rw [af (x:=2*p1) (by omega),af (by omega)];omega) fun s6=>⟨aj (by rw [hwa,hwb];exact⟨hwr _,hwr _⟩) fun s7=>fun gv3=>aY ((((Ent.cN ((l.getD (Int.toNat (i64.wrap (1+(i64.wrap (2*p1))))) (U32.mk 0)).v) ((l.getD (Int.toNat (i64.wrap (2+(i64.wrap (2*p1))))) (U32.mk 0)).v)):Int) !=0) || (decide (((Ent.dec ((l.getD (Int.toNat (i64.wrap (1+(i64.wrap (2*p1))))) (U32.mk 0)).v) ((l.getD (Int.toNat (i64.wrap (2+(i64.wrap (2*p1))))) (U32.mk 0)).v)).owner:Int)≥(m.S:Int)))) (ab (fun k4=>(by grind)) fun k4=>(by grind))<| aK (fun k5=>(bx h (by(rw [hwa,hwb]at k5;rw [DB.cx hlen hb (p:=p1.toNat) (by omega) (ud k5)];rfl)))) fun k5=>fun gv5=>fun l1 h_l1=>aj (by rw [h_l1,hl];simp;omega) fun s8=>fun A1 c1=>fun l2 h_l2=>allEq<| ⟨_,(by rw [af (x:=p1+1) (by omega)];omega),rfl,(by rw [af (x:=p1+1) (by omega)];omega),(hy),(by rw [h_l2,h_l1,hl,hwa,hwb,af (x:=p1+1) (by omega),show(p1+1).toNat=p1.toNat+1 by omega,List.range_succ,List.map_append];rfl),(by rw [af (x:=p1+1) (by omega),show(p1+1).toNat=p1.toNat+1 by omega];(rw [hwa,hwb]at k5;exact rC hok k5))⟩,fun gv3=>aj (by rw [hwa,hwb];exact⟨hwr _,hwr _⟩) fun s9=>aY ((((Ent.cN ((l.getD (Int.toNat (i64.wrap (1+(i64.wrap (2*p1))))) (U32.mk 0)).v) ((l.getD (Int.toNat (i64.wrap (2+(i64.wrap (2*p1))))) (U32.mk 0)).v)):Int) !=0) || (decide (((Ent.dec ((l.getD (Int.toNat (i64.wrap (1+(i64.wrap (2*p1))))) (U32.mk 0)).v) ((l.getD (Int.toNat (i64.wrap (2+(i64.wrap (2*p1))))) (U32.mk 0)).v)).owner:Int)≥(m.S:Int)))) (ab (fun k6=>(by grind)) fun k6=>(by grind))<| aK (fun k7=>(bx h (by(rw [hwa,hwb]at k7;rw [DB.cx hlen hb (p:=p1.toNat) (by omega) (ud k7)];rfl)))) fun k7=>fun gv5=>fun l1 h_l1=>aj (by rw [h_l1,hl];simp;omega) fun s10=>fun A1 c1=>fun l2 h_l2=>allEq<| ⟨_,(by rw [af (x:=p1+1) (by omega)];omega),rfl,(by rw [af (x:=p1+1) (by omega)];omega),(hy),(by rw [h_l2,h_l1,hl,hwa,hwb,af (x:=p1+1) (by omega),show(p1+1).toNat=p1.toNat+1 by omega,List.range_succ,List.map_append];rfl),(by rw [af (x:=p1+1) (by omega),show(p1+1).toNat=p1.toNat+1 by omega];(rw [hwa,hwb]at k7;exact rC hok k7))⟩⟩)) fun k3=>(by(have hl3:(DB.load m l).ai=l3:=by rw [hl,show p1.toNat=m.S by omega];rfl);exact aF ((jm h (by(rw [DB.oS hlen hb (fun q hq=>hok q (by omega))];rfl))) gv1 A3 c3) rfl rfl (ah (congrArg (fun l=>Res.blk (U:=Un) _ l _) (ah rfl (ah (by grind) (ah (congrArg (Value.int .i64) (by omega)) rfl)))) (ah (congrArg (Res.lst (U:=Un) 4 true 120 _ _) ‹_›) rfl))))⟩)))
def ou:Ctr Un:=⟨[.one (.obj 0 0)],[],[.ob 2 []],[0],fun rm m K=>∀(g:Nat)(A1:Option Addr)(c1:Nat),K ⟨(.pointer (some (Addr.mk g 0 none))),(some (.p (.loc 1 0))),[.ob 2 (m.bL m.S)],[(.blk g [(.pointer (some (Addr.mk (rm 0) 0 none))),(.slice A1 ((List.replicate m.S Ent.free).length) c1),(.int .i64 0)] 67),(.lst 4 true 120 A1 c1 (List.replicate m.S Ent.free))],[(.c 1 0,.p (.obj 0 0 0)),(.c 1 1,.p (.sl 2 0))]⟩⟩
def Ew(rm:Nat→Nat)(m:Mem)(Q:Ou Un→Prop):Prop:=
 Mem.Wf m→
 (some (.pointer (some (Addr.mk (rm 0) 0 none))):Option Value)=some (.pointer (some (Addr.mk (rm 0) 0 none)))∧
 ∀(gv:Nat),
 ∀p:Int,p=0→
 ∃I:Nat→Int→Mem→Int→Option Addr→Nat→List Ent→Prop,(∃m1,I m1 p m 0 none 0 ([]:List Ent))∧∀(m1:Nat)(_gv1:Nat→Value)(p1:Int)(s0:Mem)(y1c:Int)(A2:Option Addr)(c2:Nat)(l2:List Ent),I m1 p1 s0 y1c A2 c2 l2→
 Mem.Wf s0→
 split (decide (p1<s0.S)) (
  ∀(m3:Mem),m3=(s0.zero true p1)→
  Mem.Wf m3→
  ∀(gv2:Nat),
  ∀(l:List Ent),l=([Ent.mk 0 0 0 0 false]:List Ent)→
  ((l2.length+l.length)*40≤140737488355328)∧
  ∀(A:Option Addr)(c:Nat),
  ∀(l1:List Ent),l1=(l2++l)→
  ∀p2:Int,p2=(i64.wrap (p1+1))→
  ∃m2,m2<m1∧I m2 p2 m3 y1c A c l1) (
  Q ⟨(.pointer (some (Addr.mk gv 0 none))),(some (.p (.loc 1 0))),[.ob 2 s0],[(.blk gv [(.pointer (some (Addr.mk (rm 0) 0 none))),(.slice A2 l2.length c2),(.int .i64 y1c)] 67),(.lst 4 true 120 A2 c2 l2)],[(.c 1 0,.p (.obj 0 0 0)),(.c 1 1,.p (.sl 2 0))]⟩)
theorem Ex:Vc2 Un Tryz.prog (aN [(76,gx),(78,cF),(77,fQ)]) [4] Tryz.f31 (.r' (.r' (.r' (.two (.r' (.two (.node [(.c 1 1,4,120)] (some ⟨[(4,(.one (.int .i64)))],[],[4]++upN 10 20,[(0,(.ob 2)),(1,(.blk [(.k (.obj 0 0 0)),(.k (.sl 2 0)),(.v (.int .i64))])),(2,(.lst 4))]⟩) [] [] .leaf .leaf) .leaf)) .leaf)))) [1,2] ou=(∀rm (m:Mem),∀Q,(ou.body rm m Q)→Ew rm m Q):=by kernel_rfl
theorem Ev:LV Un Tryz.prog 31 ou:=verify Tryz.func31 aa (tb:= [(76,gx),(78,cF),(77,fQ)]) ⟨pz,kh,oy,trivial⟩ (by kernel_rfl) (Ex.mpr fun rm m Q h=>fun f1=>(by have hS:=f1.2.1;exact aj (by rfl) fun s2=>fun gv=>allEq<| ⟨fun m1 p1 s0 y1c A2 c2 l2=>(m1=((m.S:Int) - p1).toNat)∧(0≤p1∧p1≤(m.S:Int))∧(s0=m.bL p1.toNat)∧(y1c=0)∧(l2=List.replicate p1.toNat Ent.free),⟨_,rfl,(by omega),(by rfl),(by rfl),(by rfl)⟩,fun m1 _ p1 s0 y1c A2 c2 l2 ⟨hm,hi,hs,hy,hl⟩=>(by(have hsS:s0.S=m.S:=by rw [hs,Mem.jI]);exact fun f3=>au (fun c1=>fun m3 h_m3 f4=>fun gv2=>fun l h_l=>aj (by rw [h_l,hl];simp;omega) fun s5=>fun A c=>fun l1 h_l1=>allEq<| ⟨_,(by rw [af (x:=p1+1) (by omega)];omega),rfl,(by rw [af (x:=p1+1) (by omega)];omega),(by rw [h_m3,hs,Mem.qk _ (by omega)]),(hy),(by rw [h_l1,h_l,hl,af (x:=p1+1) (by omega),show(p1+1).toNat=p1.toNat+1 by omega,List.replicate_succ'])⟩) fun c1=>(by(have hl3:List.replicate m.S Ent.free=l2:=by rw [hl,show p1.toNat=m.S by omega]);(have hm3:m.bL m.S=s0:=by rw [hs,show p1.toNat=m.S by omega]);exact aF (h gv A2 c2) rfl (ah (congrArg (Upd.ob (U:=Un) 2) (show @Eq Mem _ _ from ‹_›)) rfl) (ah (congrArg (fun l=>Res.blk (U:=Un) _ l _) (ah rfl (ah (by grind) (ah (congrArg (Value.int .i64) (by omega)) rfl)))) (ah (congrArg (Res.lst (U:=Un) 4 true 120 _ _) ‹_›) rfl))))⟩))
end Go.Proofs.YtbjlecpmgocoeaaGreatDoor
end
section
set_option maxRecDepth 100000
set_option maxHeartbeats 1000000
namespace Go.Proofs.YtbjlecpmgocoeaaGreatDoor
open Go Go.RowKit V
open Go.IntKind (i64 u32 u64)
open Go.Proofs (Tryz.prog)
theorem DB.xr(m:Mem):(DB.new m).pd.ai=List.replicate m.S Ent.free:=by
 show(List.range (DB.new m).S).map (fun _=>Ent.free)=_
 rw [DB.rf,List.map_const',List.length_range]
theorem DB.H4 {m:Mem} {l:List U32}(hw:∀x∈l,0≤x.v∧x.v<4294967296)(h:DB.aE m l=0)(hS:m.S≤64):(DB.load m l).pd.Ok:=⟨(DB.vm hw h).ent,(DB.vm hw h).ay,hS⟩
theorem DB.JQ {m:Mem}(h:1≤m.S)(hS:m.S≤64):(DB.new m).pd.Ok:=⟨(DB.qZ m h).ent,(DB.qZ m h).ay,by show(DB.new m).S≤64;rw [DB.rf];exact hS⟩
def sb:Ctr Un:=⟨[.one (.obj 0 0)],[],[.ob 2 []],[0],fun rm m K=>1≤m.S∧∀(rN:Nat→Nat),K ⟨(.pointer (some (Addr.mk (rN 0) 0 none))),(some (.p (.obj 1 0 0))),[.ob 2 (m.bL m.S)],[(.ob 3 rN ((DB.new m).pd))],[(.l 1 1,.p (.obj 0 0 0))]⟩⟩
theorem G6:LV Un Tryz.prog 31 sb:=by
 show ∀(rm:Nat→Nat)(m:Mem),∀Q:Ou Un→Prop,(1≤m.S∧∀(rN:Nat→Nat),Q ⟨(.pointer (some (Addr.mk (rN 0) 0 none))),(some (.p (.obj 1 0 0))),[.ob 2 (m.bL m.S)],[(.ob 3 rN ((DB.new m).pd))],[(.l 1 1,.p (.obj 0 0 0))]⟩)→∀(X:Nat→Nat→Prop)(w:World),Sat (U:=Un) [(.ob 2 rm m)] X w→aC (U:=Un) [(.ob 2 rm m)] fr0 []→Calls Tryz.prog 31 #[(.pointer (some (Addr.mk (rm 0) 0 none)))] w (aU (U:=Un) [(.ob 2 rm m)] [0] X w Q)
 intro rm m Q hQ X w hs hl
 obtain⟨hS,hQ⟩:=hQ
 have hwf:Mem.Wf m:=vN (t:=2) (r:=rm) (s:=m) (hs.res 0 _ rfl)
 have h1:=Ev rm m (fun o=>∃(g:Nat)(A1:Option Addr)(c1:Nat),o=⟨(.pointer (some (Addr.mk g 0 none))),(some (.p (.loc 1 0))),[.ob 2 (m.bL m.S)],[(.blk g [(.pointer (some (Addr.mk (rm 0) 0 none))),(.slice A1 ((List.replicate m.S Ent.free).length) c1),(.int .i64 0)] 67),(.lst 4 true 120 A1 c1 (List.replicate m.S Ent.free))],[(.c 1 0,.p (.obj 0 0 0)),(.c 1 1,.p (.sl 2 0))]⟩) (fun g A1 c1=>⟨g,A1,c1,rfl⟩) X w hs hl
 refine h1.mono ?_
 rintro e w' ⟨out,rs',X',rfl,⟨g,A1,c1,rfl⟩,happ,hp⟩
 change bk [Res.ob 2 rm m] [0] [.ob 2 (m.bL m.S)]=some rs' at happ
 have happ2: [Res.ob (U:=Un) 2 rm (m.bL m.S)]=rs':=by simpa [bk,cn,nth,cj]using happ
 subst happ2
 have hb1:RS (U:=Un) (X' 1) w' (.blk g [.pointer (some (Addr.mk (rm 0) 0 none)),.slice A1 (DB.new m).pd.ai.length c1,.int .i64 (DB.new m).pd.ay] 67):=by rw [DB.xr];exact hp.sat.res 1 _ rfl
 have hb2:RS (U:=Un) (X' 2) w' (.lst 4 true 120 A1 c1 (DB.new m).pd.ai):=by rw [DB.xr];exact hp.sat.res 2 _ rfl
 obtain⟨e,hob,hZ⟩:=FC (E:=(DB.new m).pd) hb1 hb2 (hp.sat.dis 1 2 (by simp) (by simp) (by omega)) (by show 1≤(DB.new m).S;rw [DB.rf];exact hS) (DB.JQ hS hwf.2.1)
 exact aU.pack (k':=some (.p (.obj 1 0 0))) (kc':= [(.l 1 1,.p (.obj 0 0 0))]) happ hp hob (fun k hk=>hk.elim (fun e=>.inl (e▸hb1.1)) (fun e=>.inr (e▸hZ))) (hQ (fun i=>if i=0 then g else if i=1 then rm 0 else if i=2 then e else c1)) rfl (n6 ⟨_,_,_,rfl,rfl⟩)
def ov:Ctr Un:=⟨[.one (.obj 0 0),.one (.sl 1)],[],[.ob 2 [],.lst 1 false 22],[],fun rm m A c l K=>((∀x∈l,0≤x.v∧x.v<4294967296))∧1≤m.S∧split (decide (DB.aE m l=0)) (∀(rN:Nat→Nat),K ⟨(.tuple #[(.pointer (some (Addr.mk (rN 0) 0 none))),(.int .i64 0)]),(some (.t [(some (.obj 2 0 0)),none])),[],[(.ob 3 rN ((DB.load m l).pd))],[(.l 2 1,.p (.obj 0 0 0))]⟩) (K ⟨(.tuple #[(.pointer none),(.int .i64 110)]),(some (.t [none,none])),[],[],[]⟩)⟩
theorem Ey:LV Un Tryz.prog 95 ov:=by
 show ∀(rm:Nat→Nat)(m:Mem)(A:Option Addr)(c:Nat)(l:List U32),∀Q:Ou Un→Prop,(((∀x∈l,0≤x.v∧x.v<4294967296))∧1≤m.S∧split (decide (DB.aE m l=0)) (∀(rN:Nat→Nat),Q ⟨(.tuple #[(.pointer (some (Addr.mk (rN 0) 0 none))),(.int .i64 0)]),(some (.t [(some (.obj 2 0 0)),none])),[],[(.ob 3 rN ((DB.load m l).pd))],[(.l 2 1,.p (.obj 0 0 0))]⟩) (Q ⟨(.tuple #[(.pointer none),(.int .i64 110)]),(some (.t [none,none])),[],[],[]⟩))→∀(X:Nat→Nat→Prop)(w:World),Sat (U:=Un) [(.ob 2 rm m),(.lst 1 false 22 A c l)] X w→aC (U:=Un) [(.ob 2 rm m),(.lst 1 false 22 A c l)] fr0 []→Calls Tryz.prog 95 #[(.pointer (some (Addr.mk (rm 0) 0 none))),(.slice A l.length c)] w (aU (U:=Un) [(.ob 2 rm m),(.lst 1 false 22 A c l)] [] X w Q)
 intro rm m A c l Q hQ X w hs hl
 obtain⟨hw,hS,hQ⟩:=hQ
 have hwf:Mem.Wf m:=vN (t:=2) (r:=rm) (s:=m) (hs.res 0 _ rfl)
 have h1:=Bz rm m A c l (fun o=>(DB.aE m l=0∧∃(g:Nat)(A1:Option Addr)(c1:Nat),o=⟨(.tuple #[(.pointer (some (Addr.mk g 0 none))),(.int .i64 0)]),(some (.t [(some (.loc 2 0)),none])),[],[(.blk g [(.pointer (some (Addr.mk (rm 0) 0 none))),(.slice A1 (((DB.load m l).ai).length) c1),(.int .i64 (DB.wd l 0))] 67),(.lst 4 true 120 A1 c1 ((DB.load m l).ai))],[(.c 2 0,.p (.obj 0 0 0)),(.c 2 1,.p (.sl 3 0))]⟩)∨(DB.aE m l≠0∧o=⟨(.tuple #[(.pointer none),(.int .i64 110)]),(some (.t [none,none])),[],[],[]⟩)) ⟨hw,ab (fun h g A1 c1=>.inl ⟨of_decide_eq_true h,g,A1,c1,rfl⟩) (fun h=>.inr ⟨of_decide_eq_false h,rfl⟩)⟩ X w hs hl
 refine h1.mono ?_
 rintro e w' ⟨out,rs',X',rfl,⟨he,g,A1,c1,rfl⟩ | ⟨he,rfl⟩,happ,hp⟩
 ·change bk [Res.ob (U:=Un) 2 rm m,.lst 1 false 22 A c l] [] []=some rs' at happ
  have happ2: [Res.ob (U:=Un) 2 rm m,.lst 1 false 22 A c l]=rs':=by simpa [bk]using happ
  subst happ2
  have hb1:RS (U:=Un) (X' 2) w' (.blk g [.pointer (some (Addr.mk (rm 0) 0 none)),.slice A1 (DB.load m l).pd.ai.length c1,.int .i64 (DB.load m l).pd.ay] 67):=hp.sat.res 2 _ rfl
  have hb2:RS (U:=Un) (X' 3) w' (.lst 4 true 120 A1 c1 (DB.load m l).pd.ai):=hp.sat.res 3 _ rfl
  obtain⟨e,hob,hZ⟩:=FC (E:=(DB.load m l).pd) hb1 hb2 (hp.sat.dis 2 3 (by simp) (by simp) (by omega)) hS (DB.H4 hw he hwf.2.1)
  exact aU.pack (k':=some (.t [some (.obj 2 0 0),none])) (kc':= [(.l 2 1,.p (.obj 0 0 0))]) happ hp hob (fun k hk=>hk.elim (fun e=>.inl (e▸hb1.1)) (fun e=>.inr (e▸hZ))) (jm hQ (decide_eq_true he) (fun i=>if i=0 then g else if i=1 then rm 0 else if i=2 then e else c1)) (KnO.pair rfl) (n6 ⟨_,_,_,rfl,rfl⟩)
 ·exact⟨_,_,_,rfl,bx hQ (decide_eq_false he),happ,hp⟩
def wu:Ctr Un:=⟨[.one (.obj 0 0),.one (.sl 1)],[],[.ob 0 [],.lst 1 false 22],[],fun rm m A c l K=>((∀x∈l,0≤x.v∧x.v<4294967296))∧1≤m.S∧split (decide (DB.aE m l=0)) (∀(rN:Nat→Nat),K ⟨(.tuple #[(.pointer (some (Addr.mk (rN 0) 0 none))),(.int .i64 0)]),(some (.t [(some (.obj 2 0 0)),none])),[],[(.ob 1 rN ((DB.load m l).pd))],[(.l 2 1,.p (.obj 0 0 0))]⟩) (K ⟨(.tuple #[(.pointer none),(.int .i64 110)]),(some (.t [none,none])),[],[],[]⟩)⟩
theorem I5:LV Un Tryz.prog 94 wu:=by
 show ∀(rm:Nat→Nat)(m:Mem)(A:Option Addr)(c:Nat)(l:List U32),∀Q:Ou Un→Prop,(((∀x∈l,0≤x.v∧x.v<4294967296))∧1≤m.S∧split (decide (DB.aE m l=0)) (∀(rN:Nat→Nat),Q ⟨(.tuple #[(.pointer (some (Addr.mk (rN 0) 0 none))),(.int .i64 0)]),(some (.t [(some (.obj 2 0 0)),none])),[],[(.ob 1 rN ((DB.load m l).pd))],[(.l 2 1,.p (.obj 0 0 0))]⟩) (Q ⟨(.tuple #[(.pointer none),(.int .i64 110)]),(some (.t [none,none])),[],[],[]⟩))→∀(X:Nat→Nat→Prop)(w:World),Sat (U:=Un) [(.ob 0 rm m),(.lst 1 false 22 A c l)] X w→aC (U:=Un) [(.ob 0 rm m),(.lst 1 false 22 A c l)] fr0 []→Calls Tryz.prog 94 #[(.pointer (some (Addr.mk (rm 0) 0 none))),(.slice A l.length c)] w (aU (U:=Un) [(.ob 0 rm m),(.lst 1 false 22 A c l)] [] X w Q)
 intro rm m A c l Q hQ X w hs hl
 obtain⟨hw,hS,hQ⟩:=hQ
 obtain⟨L,hg,hX,hM⟩:=(hs.res 0 _ rfl:bp 0 rm m (X 0) w)
 have hr:Rd w (X 1) A l.length c l:=hs.res 1 _ rfl
 rw [hg]
 refine(K2 hM hr hw).mono ?_
 rintro e w' ⟨u,rfl,p,rfl,hok,hbad,q⟩
 by_cases he:DB.aE m l=0
 ·obtain⟨g,a,rfl,hD,hg1,ha1⟩:=hok he
  have hQ:=jm hQ (decide_eq_true he) (fun i=>if i=0 then g else L.g)
  rw [he]
  exact aU.xv (Z:=fun k=>k=g∨k=a) hs q (show RS (U:=Un) (fun k=>k=g∨k=a) w' (.ob 1 (fun i=>if i=0 then g else L.g) (DB.load m l).pd)from(⟨a,fun k=>Iff.rfl,hD.pd⟩:bp 1 (fun i=>if i=0 then g else L.g) (DB.load m l).pd (fun k=>k=g∨k=a) w')) (fun k hk=>by rcases hk with rfl | rfl;exact hg1;exact ha1) hQ (KnO.pair rfl) (n6 ⟨_,_,_,rfl,show some (Value.pointer (some ⟨rm 0,0,none⟩))=some (.pointer (some ⟨L.g,0,none⟩))by rw [hg]⟩)
 ·have he2:DB.aE m l=110:=by unfold DB.aE at he ⊢;split;rfl;split;rfl;split;(rename_i h1 h2 h3;rw [if_neg h1,if_neg h2,if_pos h3]at he;exact absurd rfl he);rfl
  rw [hbad he,he2]
  exact aU.pu hs q (bx hQ (decide_eq_false he)) (KnO.tup _ (by simp))
end Go.Proofs.YtbjlecpmgocoeaaGreatDoor
end
section
set_option maxRecDepth 100000
set_option maxHeartbeats 1000000
namespace Go.Proofs.YtbjlecpmgocoeaaGreatDoor
open Go Go.RowKit V
open Go.IntKind (i64 u32 u64)
open Go.Proofs (Tryz.prog)
attribute [local grind=] Pd.cB Pd.bN Pd.jT Pd.kq Pd.dy Pd.cA Pd.eT Pd.gM Pd.mT Pd.gi
attribute [local grind .] Pd.Ok.ent
attribute [local grind→] Pd.Ok.dk
def iw:Ctr Un:=⟨[.one (.any)],[(0,8)],[.ob 8 []],[],fun pv r s K=>Value.pointer (some (Addr.mk (LSt.pD s) 0 none))=pv∧K ⟨(.tuple #[(.int .i64 s.D.broken.1),(.int .i64 s.D.broken.2)]),(some (.t [none,none])),[],[],[]⟩⟩
theorem r5:LV Un Tryz.prog 7 iw:=by
 show ∀(pv:Value)(r:Nat→Nat)(s:LSt),∀Q:Ou Un→Prop,(Value.pointer (some (Addr.mk (LSt.pD s) 0 none))=pv∧Q ⟨(.tuple #[(.int .i64 s.D.broken.1),(.int .i64 s.D.broken.2)]),(some (.t [none,none])),[],[],[]⟩)→∀(X:Nat→Nat→Prop)(w:World),Sat (U:=Un) [(.ob 8 r s)] X w→aC (U:=Un) [(.ob 8 r s)] fr0 []→Calls Tryz.prog 7 #[pv] w (aU (U:=Un) [(.ob 8 r s)] [] X w Q)
 intro pv r s Q hQ X w hs hl
 obtain⟨hpv,hQ⟩:=hQ
 subst hpv
 refine KG hs (fun r1 rm X1 hs1 hl1 e1=>?_) hQ (KnO.tup _ (by simp))
 rw [e1];exact D3 r1 s.D.pd rm s.D.mem (fun o=>o=_) ⟨rfl,rfl⟩ X1 w hs1 hl1
def oq:Ctr Un:=⟨[.one (.any),.one (.int .i64)],[(0,8)],[.ob 8 []],[],fun pv n r s K=>Value.pointer (some (Addr.mk (LSt.pD s) 0 none))=pv∧K ⟨(.bool (s.D.holds n)),none,[],[],[]⟩⟩
theorem D0:LV Un Tryz.prog 17 oq:=by
 show ∀(pv:Value)(n:Int)(r:Nat→Nat)(s:LSt),∀Q:Ou Un→Prop,(Value.pointer (some (Addr.mk (LSt.pD s) 0 none))=pv∧Q ⟨(.bool (s.D.holds n)),none,[],[],[]⟩)→∀(X:Nat→Nat→Prop)(w:World),Sat (U:=Un) [(.ob 8 r s)] X w→aC (U:=Un) [(.ob 8 r s)] fr0 []→Calls Tryz.prog 17 #[pv,(.int .i64 n)] w (aU (U:=Un) [(.ob 8 r s)] [] X w Q)
 intro pv n r s Q hQ X w hs hl
 obtain⟨hpv,hQ⟩:=hQ
 subst hpv
 refine KG hs (fun r1 rm X1 hs1 hl1 e1=>?_) hQ trivial
 rw [e1];exact GQ n r1 s.D.pd rm s.D.mem (fun o=>o=_) ⟨rfl,rfl⟩ X1 w hs1 hl1
def kd:Ctr Un:=⟨[.one (.any)],[(0,8)],[.ob 8 []],[],fun pv r s K=>Value.pointer (some (Addr.mk (LSt.pR s) 0 none))=pv∧K ⟨(.tuple #[(.int .i64 s.R.broken.1),(.int .i64 s.R.broken.2)]),(some (.t [none,none])),[],[],[]⟩⟩
theorem vV:LV Un Tryz.prog 46 kd:=by
 show ∀(pv:Value)(r:Nat→Nat)(s:LSt),∀Q:Ou Un→Prop,(Value.pointer (some (Addr.mk (LSt.pR s) 0 none))=pv∧Q ⟨(.tuple #[(.int .i64 s.R.broken.1),(.int .i64 s.R.broken.2)]),(some (.t [none,none])),[],[],[]⟩)→∀(X:Nat→Nat→Prop)(w:World),Sat (U:=Un) [(.ob 8 r s)] X w→aC (U:=Un) [(.ob 8 r s)] fr0 []→Calls Tryz.prog 46 #[pv] w (aU (U:=Un) [(.ob 8 r s)] [] X w Q)
 intro pv r s Q hQ X w hs hl
 obtain⟨hpv,hQ⟩:=hQ
 subst hpv
 refine KF hs (fun r1 rm X1 hs1 hl1 e1=>?_) hQ (KnO.tup _ (by simp))
 rw [e1];exact yV r1 s.R.pd rm s.R.mem (fun o=>o=_) ⟨rfl,rfl⟩ X1 w hs1 hl1
def kV:Ctr Un:=⟨[.one (.any),.one (.int .i64)],[(0,8)],[.ob 8 []],[],fun pv c r s K=>Value.pointer (some (Addr.mk (LSt.pR s) 0 none))=pv∧K ⟨(.bool (s.R.holds c)),none,[],[],[]⟩⟩
theorem yU:LV Un Tryz.prog 47 kV:=by
 show ∀(pv:Value)(c:Int)(r:Nat→Nat)(s:LSt),∀Q:Ou Un→Prop,(Value.pointer (some (Addr.mk (LSt.pR s) 0 none))=pv∧Q ⟨(.bool (s.R.holds c)),none,[],[],[]⟩)→∀(X:Nat→Nat→Prop)(w:World),Sat (U:=Un) [(.ob 8 r s)] X w→aC (U:=Un) [(.ob 8 r s)] fr0 []→Calls Tryz.prog 47 #[pv,(.int .i64 c)] w (aU (U:=Un) [(.ob 8 r s)] [] X w Q)
 intro pv c r s Q hQ X w hs hl
 obtain⟨hpv,hQ⟩:=hQ
 subst hpv
 refine KF hs (fun r1 rm X1 hs1 hl1 e1=>?_) hQ trivial
 rw [e1];exact Be c r1 s.R.pd rm s.R.mem (fun o=>o=_) ⟨rfl,rfl⟩ X1 w hs1 hl1
end Go.Proofs.YtbjlecpmgocoeaaGreatDoor
end
section
set_option maxRecDepth 100000
set_option maxHeartbeats 1000000
namespace Go.Proofs.YtbjlecpmgocoeaaGreatDoor
open Go Go.RowKit V
open Go.IntKind (i64 u32 u64)
open Go.Proofs (Tryz.prog)
def er:Ctr Un:=⟨[.one (.int .i64)],[],[],[],fun n K=>K ⟨(.int .i64 n),none,[],[],[]⟩⟩
def Hg(n:Int)(Q:Ou Un→Prop):Prop:=
 Q ⟨(.int .i64 n),none,[],[],[]⟩
theorem Hh:Vc2 Un Tryz.prog (aN []) [] Tryz.f26 .leaf [] er=(∀n,∀Q,(er.body n Q)→Hg n Q):=by kernel_rfl
theorem nE:LV Un Tryz.prog 26 er:=verify Tryz.func26 aa (tb:= []) trivial (by kernel_rfl) (Hh.mpr fun n Q h=>h)
def gy:Ctr Un:=⟨[.one (.int .i64)],[],[],[],fun p K=>K ⟨(.agg #[(.bool true),(.int .i64 p)]),none,[],[],[]⟩⟩
def zy(p:Int)(Q:Ou Un→Prop):Prop:=
 ∀(gv:Nat),
 Q ⟨(.agg #[(.bool true),(.int .i64 p)]),none,[],[],[]⟩
theorem zz:Vc2 Un Tryz.prog (aN []) [] Tryz.f24 .leaf [] gy=(∀p,∀Q,(gy.body p Q)→zy p Q):=by kernel_rfl
theorem zx:LV Un Tryz.prog 24 gy:=verify Tryz.func24 aa (tb:= []) trivial (by kernel_rfl) (zz.mpr fun p Q h=>fun gv=>h)
def jF:Ctr Un:=⟨[.one (.int .i64)],[],[],[],fun n K=>K ⟨(.int .i64 (sz n)),none,[],[],[]⟩⟩
def EP(n:Int)(Q:Ou Un→Prop):Prop:=
 Q ⟨(.int .i64 (i64.wrap (((i64.wrap ((n.tmod 8)+8)).tmod 8)+1))),none,[],[],[]⟩
theorem ER:Vc2 Un Tryz.prog (aN []) [] Tryz.f28 .leaf [] jF=(∀n,∀Q,(jF.body n Q)→EP n Q):=by kernel_rfl
theorem EO:LV Un Tryz.prog 28 jF:=verify Tryz.func28 aa (tb:= []) trivial (by kernel_rfl) (ER.mpr fun n Q h=>eE h (by have h1:=Int.lt_tmod_of_pos n (show(0:Int)<8 by decide);have h2:=Int.tmod_lt_of_pos n (show(0:Int)<8 by decide);have h3:=Int.tmod_lt_of_pos (Int.tmod n 8+8) (show(0:Int)<8 by decide);have h4:=Int.tmod_nonneg (a:=Int.tmod n 8+8) 8 (by omega);unfold sz;rw [af (x:=Int.tmod n 8+8) (by omega),af (by omega)]))
def ep:Ctr Un:=⟨[.one (.ptr 0),.one (.int .i64),.one (.int .i64),.one (.int .u32)],[],[.blk [.obj 2 0,.obj 1 0,.obj 3 0] 34,.ob 1 [(1,2,0)],.ob 0 [],.ob 3 [(1,4,0)],.ob 2 []],[2,4],fun p off v g r E rm m r2 F rm2 m2 K=>(0≤(v:Int)∧(v:Int)<4294967296)∧K ⟨(.bool (decide (m.err true p off=m2.err true p off))),none,[.ob 0 (m.write true p off v),.ob 2 (m2.write true p off v)],[],[]⟩⟩
def zv(p:Int)(off:Int)(v:Int)(g:Nat)(r:Nat→Nat)(E:Pd)(rm:Nat→Nat)(m:Mem)(r2:Nat→Nat)(F:Pd)(rm2:Nat→Nat)(m2:Mem)(Q:Ou Un→Prop):Prop:=
 Pd.Ok E→
 Mem.Wf m→
 Pd.Ok F→
 Mem.Wf m2→
 (0≤v∧v<4294967296)∧
 ∀(m1:Mem),m1=(m.write true p off v)→
 Mem.Wf m1→
 (0≤v∧v<4294967296)∧
 ∀(m3:Mem),m3=(m2.write true p off v)→
 Mem.Wf m3→
 Q ⟨(.bool ((m.err true p off)==(m2.err true p off))),none,[.ob 0 m1,.ob 2 m3],[],[]⟩
theorem zw:Vc2 Un Tryz.prog (aN [(24,gy),(23,sA),(25,iI),(26,er)]) [] Tryz.f8 (.r' (.two (.node [] none [] [(3,[0])] .leaf .leaf) .leaf)) [] ep=(∀p off v g r (E:Pd) rm (m:Mem) r2 (F:Pd) rm2 (m2:Mem),∀Q,(ep.body p off v g r E rm m r2 F rm2 m2 Q)→zv p off v g r E rm m r2 F rm2 m2 Q):=by kernel_rfl
theorem kZ:LV Un Tryz.prog 8 ep:=verify Tryz.func8 aa (tb:= [(24,gy),(23,sA),(25,iI),(26,er)]) ⟨zx,Hb,sf,nE,trivial⟩ (by kernel_rfl) (zw.mpr fun p off v g r E rm m r2 F rm2 m2 Q h=>by
 obtain⟨hp0,h⟩:=h
 exact fun f1 f2 f3 f4=>aj ‹_› fun s5=>fun m1 h_m1 f6=>aj ‹_› fun s7=>fun m3 h_m3 f8=>aF h (congrArg Value.bool (by grind)) (ah (congrArg (Upd.ob (U:=Un) 0) (show @Eq Mem _ _ from(by grind))) (ah (congrArg (Upd.ob (U:=Un) 2) (show @Eq Mem _ _ from(by grind))) rfl)) rfl)
def mF:Ctr Un:=⟨[.one (.obj 0 0),.one (.int .i64),.one (.int .i64),.one (.int .u32)],[],[.ob 8 []],[0],fun p off v r s K=>s.R=s.D∧(0≤(v:Int)∧(v:Int)<4294967296)∧∀(s1:LSt),((s1.R=s1.D∧s1.D=s.D.wr p off v))→K ⟨(.bool true),none,[.ob 8 s1],[],[]⟩⟩
theorem BU:LV Un Tryz.prog 8 mF:=by
 show ∀(p:Int)(off:Int)(v:Int)(r:Nat→Nat)(s:LSt),∀Q:Ou Un→Prop,(s.R=s.D∧(0≤(v:Int)∧(v:Int)<4294967296)∧∀(s1:LSt),((s1.R=s1.D∧s1.D=s.D.wr p off v))→Q ⟨(.bool true),none,[.ob 8 s1],[],[]⟩)→∀(X:Nat→Nat→Prop)(w:World),Sat (U:=Un) [(.ob 8 r s)] X w→aC (U:=Un) [(.ob 8 r s)] fr0 []→Calls Tryz.prog 8 #[(.pointer (some (Addr.mk (r 0) 0 none))),(.int .i64 p),(.int .i64 off),(.int .u32 v)] w (aU (U:=Un) [(.ob 8 r s)] [0] X w Q)
 intro p off v r s Q hQ X w hs hl
 obtain⟨hR,hv,hQ⟩:=hQ
 refine stA (s.D.mem.write true p off v) (s.R.mem.write true p off v) (Mem.kb ..) (Mem.kb ..) hs (fun r1 rm r2 rm2 X1 hs1 hl1=>?_) (hQ _ ⟨by show s.R.aT _=s.D.aT _;rw [hR],rfl⟩) trivial
 exact kZ p off v (r 0) r1 s.D.pd rm s.D.mem r2 s.R.pd rm2 s.R.mem (fun o=>o=_) ⟨hv,by simp [hR]⟩ X1 w hs1 hl1
def jE:Ctr Un:=⟨[.one (.obj 0 0),.one (.int .i64)],[],[.ob 8 []],[],fun n r s K=>s.R=s.D∧K ⟨(.bool true),none,[],[],[]⟩⟩
def EM(n:Int)(r:Nat→Nat)(s:LSt)(Q:Ou Un→Prop):Prop:=
 LSt.Ok s→
 Value.pointer (some (Addr.mk (LSt.pD s) 0 none))=(.pointer (some (Addr.mk (LSt.pD s) 0 none)))∧
 Value.pointer (some (Addr.mk (LSt.pR s) 0 none))=(.pointer (some (Addr.mk (LSt.pR s) 0 none)))∧
 ∃J:Bool→Prop,(
  split (s.D.broken.1==s.R.broken.1) (
   split (s.D.broken.2==s.R.broken.2) (
    Value.pointer (some (Addr.mk (LSt.pD s) 0 none))=(.pointer (some (Addr.mk (LSt.pD s) 0 none)))∧
    Value.pointer (some (Addr.mk (LSt.pR s) 0 none))=(.pointer (some (Addr.mk (LSt.pR s) 0 none)))∧
    J ((s.D.holds n)==(s.R.holds n))) (
    J false)) (
   J false))∧∀(_gv:Nat→Value)(x4:Bool),J x4→
 Q ⟨(.bool x4),none,[],[],[]⟩
theorem EN:Vc2 Un Tryz.prog (aN [(7,iw),(46,kd),(17,oq),(47,kV)]) [] Tryz.f12 (.r' (.r' (.r' (.two (.node [] (some ⟨[(4,(.one .bool))],[],[4]++upN 25 23,[]⟩) [] [(12,[0]),(18,[0])] .leaf .leaf) .leaf)))) [] jE=(∀n r (s:LSt),∀Q,(jE.body n r s Q)→EM n r s Q):=by kernel_rfl
theorem EL:LV Un Tryz.prog 12 jE:=verify Tryz.func12 aa (tb:= [(7,iw),(46,kd),(17,oq),(47,kV)]) ⟨r5,vV,D0,yU,trivial⟩ (by kernel_rfl) (EN.mpr fun n r s Q h=>by
 obtain⟨hp0,h⟩:=h
 exact fun f1=>aj (by grind) fun s2=>aj (by grind) fun s3=>aY (((s.D.broken.1:Int)==s.R.broken.1) && (((s.D.broken.2:Int)==s.R.broken.2) && ((s.D.holds n)==(s.R.holds n)))) (ab (fun c1=>ab (fun c2=>aj ‹_› fun s4=>aj ‹_› fun s5=>(by grind)) fun c2=>(by grind)) fun c1=>(by grind))<| aM h (by simp [hp0]))
def k8:Ctr Un:=⟨[.one (.int .i64),.one (.int .i64)],[],[],[],fun n i K=>∀(g:Nat)(rP:Nat→Nat)(rN:Nat→Nat)(rQ:Nat→Nat)(rM:Nat→Nat),K ⟨(.pointer (some (Addr.mk g 0 none))),(some (.p (.loc 0 0))),[],[(.blk g [(.pointer (some (Addr.mk (rN 0) 0 none))),(.pointer (some (Addr.mk (rP 0) 0 none))),(.pointer (some (Addr.mk (rQ 0) 0 none)))] 34),(.ob 1 rP ((DB.new (Mem.fresh (sz n).toNat (sz i).toNat)).pd)),(.ob 0 rN ((Mem.fresh (sz n).toNat (sz i).toNat).bL (sz n).toNat)),(.ob 3 rQ ((DB.new (Mem.fresh (sz n).toNat (sz i).toNat)).pd)),(.ob 2 rM ((Mem.fresh (sz n).toNat (sz i).toNat).bL (sz n).toNat))],[(.c 0 0,.p (.obj 2 0 0)),(.c 0 1,.p (.obj 1 0 0)),(.c 0 2,.p (.obj 3 0 0)),(.l 3 1,.p (.obj 4 0 0)),(.l 1 1,.p (.obj 2 0 0))]⟩⟩
def zF(n:Int)(i:Int)(Q:Ou Un→Prop):Prop:=
 ((1≤(sz n)∧(sz n)≤64)∧(1≤(sz i)∧(sz i)≤64))∧
 ∀(rN:Nat→Nat),
 ∀(m:Mem),m=(Mem.fresh (sz n).toNat (sz i).toNat)→
 Mem.Wf m→
 ∃J:Bool→Prop,(
  J false)∧∀(_gv:Nat→Value)(x24:Bool),J x24→
 split x24 (
  Q ⟨(.pointer none),none,[],[],[]⟩) (
  1≤m.S∧
  ∀(rN1:Nat→Nat),
  ∀(m1:Mem),m1=(m.bL m.S)→
  Mem.Wf m1→
  ∀(E:Pd),E=(DB.new m).pd→
  Pd.Ok E→
  ((1≤(sz n)∧(sz n)≤64)∧(1≤(sz i)∧(sz i)≤64))∧
  ∀(rN2:Nat→Nat),
  ∀(m2:Mem),m2=(Mem.fresh (sz n).toNat (sz i).toNat)→
  Mem.Wf m2→
  1≤m2.S∧
  ∀(rN3:Nat→Nat),
  ∀(m3:Mem),m3=(m2.bL m2.S)→
  Mem.Wf m3→
  ∀(E1:Pd),E1=(DB.new m2).pd→
  Pd.Ok E1→
  (some (.pointer (some (Addr.mk (rN 0) 0 none))):Option Value)=some (.pointer (some (Addr.mk (rN 0) 0 none)))∧
  (some (.pointer (some (Addr.mk (rN1 0) 0 none))):Option Value)=some (.pointer (some (Addr.mk (rN1 0) 0 none)))∧
  (some (.pointer (some (Addr.mk (rN3 0) 0 none))):Option Value)=some (.pointer (some (Addr.mk (rN3 0) 0 none)))∧
  ∀(gv1:Nat),
  Q ⟨(.pointer (some (Addr.mk gv1 0 none))),(some (.p (.loc 0 0))),[],[(.blk gv1 [(.pointer (some (Addr.mk (rN 0) 0 none))),(.pointer (some (Addr.mk (rN1 0) 0 none))),(.pointer (some (Addr.mk (rN3 0) 0 none)))] 34),(.ob 1 rN1 E),(.ob 0 rN m1),(.ob 3 rN3 E1),(.ob 2 rN2 m3)],[(.c 0 0,.p (.obj 2 0 0)),(.c 0 1,.p (.obj 1 0 0)),(.c 0 2,.p (.obj 3 0 0)),(.l 3 1,.p (.obj 4 0 0)),(.l 1 1,.p (.obj 2 0 0))]⟩)
theorem zG:Vc2 Un Tryz.prog (aN [(28,jF),(27,BR),(26,er),(29,B6),(30,sk),(31,sb)]) [] Tryz.f9 (.r' (.r' (.two (.two (.node [] (some ⟨[(24,(.one .bool))],[],upN 18 7,[]⟩) [] [] .leaf .leaf) .leaf) .leaf))) [1000000,4,1,0,3,2] k8=(∀n i,∀Q,(k8.body n i Q)→zF n i Q):=by kernel_rfl
theorem zE:LV Un Tryz.prog 9 k8:=verify Tryz.func9 aa (tb:= [(28,jF),(27,BR),(26,er),(29,B6),(30,sk),(31,sb)]) ⟨EO,Kx,nE,KA,G7,G6,trivial⟩ (by kernel_rfl) (zG.mpr fun n i Q h=>by
 have hz1:=Ft n
 have hz2:=Ft i
 exact aj (by omega) fun s1=>fun rN=>fun m h_m f2=>aY false ((by grind))<| dS<| aj (by subst_vars;show 1≤(sz n).toNat;omega) fun s3=>fun rN1=>fun m1 h_m1 f4=>fun E h_E f5=>aj (by omega) fun s6=>fun rN2=>fun m2 h_m2 f7=>aj (by subst_vars;show 1≤(sz n).toNat;omega) fun s8=>fun rN3=>fun m3 h_m3 f9=>fun E1 h_E1 f10=>aj (by rfl) fun s11=>aj (by rfl) fun s12=>aj (by rfl) fun s13=>fun gv1=>aF (h gv1 rN1 rN rN3 rN2) rfl rfl (ah (congrArg (fun l=>Res.blk (U:=Un) _ l _) rfl) (ah (congrArg (Res.ob (U:=Un) 1 _) (show @Eq Pd _ _ from(by subst_vars;rfl))) (ah (congrArg (Res.ob (U:=Un) 0 _) (show @Eq Mem _ _ from(by subst_vars;rfl))) (ah (congrArg (Res.ob (U:=Un) 3 _) (show @Eq Pd _ _ from(by subst_vars;rfl))) (ah (congrArg (Res.ob (U:=Un) 2 _) (show @Eq Mem _ _ from(by subst_vars;rfl))) rfl))))))
def iK:Ctr Un:=⟨[.one (.int .i64),.one (.int .i64)],[],[],[],fun n i K=>∀(r:Nat→Nat)(s1:LSt),((s1.R=s1.D∧s1.D=DB.begun n i))→K ⟨(.pointer (some (Addr.mk (r 0) 0 none))),(some (.p (.obj 0 0 0))),[],[(.ob 8 r s1)],[]⟩⟩
theorem sC:LV Un Tryz.prog 9 iK:=by
 show ∀(n:Int)(i:Int),∀Q:Ou Un→Prop,(∀(r:Nat→Nat)(s1:LSt),((s1.R=s1.D∧s1.D=DB.begun n i))→Q ⟨(.pointer (some (Addr.mk (r 0) 0 none))),(some (.p (.obj 0 0 0))),[],[(.ob 8 r s1)],[]⟩)→∀(X:Nat→Nat→Prop)(w:World),Sat (U:=Un) [] X w→aC (U:=Un) [] fr0 []→Calls Tryz.prog 9 #[(.int .i64 n),(.int .i64 i)] w (aU (U:=Un) [] [] X w Q)
 intro n i Q hQ X w hs hl
 have h1:=zE n i (fun o=>∃(g:Nat)(rP rN rQ rM:Nat→Nat),o=⟨(.pointer (some (Addr.mk g 0 none))),(some (.p (.loc 0 0))),[],[(.blk g [(.pointer (some (Addr.mk (rN 0) 0 none))),(.pointer (some (Addr.mk (rP 0) 0 none))),(.pointer (some (Addr.mk (rQ 0) 0 none)))] 34),(.ob 1 rP ((DB.new (Mem.fresh (sz n).toNat (sz i).toNat)).pd)),(.ob 0 rN ((Mem.fresh (sz n).toNat (sz i).toNat).bL (sz n).toNat)),(.ob 3 rQ ((DB.new (Mem.fresh (sz n).toNat (sz i).toNat)).pd)),(.ob 2 rM ((Mem.fresh (sz n).toNat (sz i).toNat).bL (sz n).toNat))],[(.c 0 0,.p (.obj 2 0 0)),(.c 0 1,.p (.obj 1 0 0)),(.c 0 2,.p (.obj 3 0 0)),(.l 3 1,.p (.obj 4 0 0)),(.l 1 1,.p (.obj 2 0 0))]⟩) (fun g rP rN rQ rM=>⟨g,rP,rN,rQ,rM,rfl⟩) X w hs hl
 refine h1.mono ?_
 rintro e w' ⟨out,rs',X',rfl,⟨g,rP,rN,rQ,rM,rfl⟩,happ,hp⟩
 obtain rfl: []=rs':=Option.some.inj happ
 have hsat:Sat (aux g rP (DB.new (Mem.fresh (sz n).toNat (sz i).toNat)).pd rN ((Mem.fresh (sz n).toNat (sz i).toNat).bL (sz n).toNat) rQ (DB.new (Mem.fresh (sz n).toNat (sz i).toNat)).pd rM ((Mem.fresh (sz n).toNat (sz i).toNat).bL (sz n).toNat)) X' w':=hp.sat
 have l1:rP 1=rN 0:=by
  obtain⟨t,r,s,h1,h2⟩:=hp.kc (.l 1 1) (.p (.obj 2 0 0)) (by simp) (by simp)
  have h1:some (Res.ob (U:=Un) 1 rP (DB.new (Mem.fresh (sz n).toNat (sz i).toNat)).pd)=some (.ob t r s):=h1
  cases h1
  have h2:some (Value.pointer (some ⟨rN 0,0,none⟩))=some (.pointer (some ⟨rP 1,0,none⟩)):=h2
  simpa using h2.symm
 have l2:rQ 1=rM 0:=by
  obtain⟨t,r,s,h1,h2⟩:=hp.kc (.l 3 1) (.p (.obj 4 0 0)) (by simp) (by simp)
  have h1:some (Res.ob (U:=Un) 3 rQ (DB.new (Mem.fresh (sz n).toNat (sz i).toNat)).pd)=some (.ob t r s):=h1
  cases h1
  have h2:some (Value.pointer (some ⟨rM 0,0,none⟩))=some (.pointer (some ⟨rQ 1,0,none⟩)):=h2
  simpa using h2.symm
 obtain⟨Z,hZ,hc⟩:=vk hsat l1 l2 rfl rfl
 exact aU.xv (Z:=Z) (k:=some (.p (.obj 0 0 0))) (kc:= []) hs (vC hp.ch) (show RS (U:=Un) Z w' (.ob 8 (fun _=>g) _)from hZ) (fun k hk=>by obtain⟨i,hi,h⟩:=hc k hk;exact hp.new i (by simp) (by simpa using hi) k h) (hQ (fun _=>g) _ ⟨rfl,rfl⟩) rfl (fun _ _ h=>by cases h)
def gz:Ctr Un:=⟨[.one (.ptr 0),.agg [.int .i64,.int .i64,.int .i64,.int .i64,.int .u32,.any]],[],[.blk [.obj 2 0,.obj 1 0,.obj 3 0] 34,.ob 1 [(1,2,0)],.ob 0 [],.ob 3 [(1,4,0)],.ob 2 []],[0],fun k a b c v ws g r E rm m r2 F rm2 m2 K=>E.n=m.S∧E=F∧m=m2∧(0≤(v:Int)∧(v:Int)<4294967296)∧1≤m.S∧split (decide (DB.aE m (DB.ldw (E.on m) a v)=0)) (∀(rN:Nat→Nat)(rN2:Nat→Nat),K ⟨(.bool true),none,[.blk [(.pointer (some (Addr.mk (rm 0) 0 none))),(.pointer (some (Addr.mk (rN 0) 0 none))),(.pointer (some (Addr.mk (rN2 0) 0 none)))]],[(.ob 1 rN ((DB.load m (DB.ldw (E.on m) a v)).pd)),(.ob 3 rN2 ((DB.load m (DB.ldw (E.on m) a v)).pd))],[(.c 0 2,.p (.obj 6 0 0)),(.c 0 1,.p (.obj 5 0 0)),(.l 6 1,.p (.obj 4 0 0)),(.l 5 1,.p (.obj 2 0 0)),(.c 0 0,.p (.obj 2 0 0))]⟩) (K ⟨(.bool true),none,[.blk [(.pointer (some (Addr.mk (rm 0) 0 none))),(.pointer (some (Addr.mk (r 0) 0 none))),(.pointer (some (Addr.mk (r2 0) 0 none)))]],[],[(.c 0 0,.p (.obj 2 0 0)),(.c 0 1,.p (.obj 1 0 0)),(.c 0 2,.p (.obj 3 0 0))]⟩)⟩
def zB(k:Int)(a:Int)(b:Int)(c:Int)(v:Int)(ws:Value)(g:Nat)(r:Nat→Nat)(E:Pd)(rm:Nat→Nat)(m:Mem)(r2:Nat→Nat)(F:Pd)(rm2:Nat→Nat)(m2:Mem)(Q:Ou Un→Prop):Prop:=
 Pd.Ok E→
 Mem.Wf m→
 Pd.Ok F→
 Mem.Wf m2→
 ∀(gv:Nat),
 E.n=m.S∧
 ∀(A:Option Addr)(c1:Nat),
 ∀(l:List U32),l=(E.on m).words.map U32.mk→
 F.n=m2.S∧
 ∀(A1:Option Addr)(c2:Nat),
 ∀(l1:List U32),l1=(F.on m2).words.map U32.mk→
 ∃J:Bool→Prop,(
  split (((((E.on m).words.map U32.mk).length):Int) !=((((F.on m2).words.map U32.mk).length):Int)) (
   J true) (
   J (((((E.on m).words.map U32.mk).length):Int)==0)))∧∀(_gv1:Nat→Value)(x31:Bool),J x31→
 split x31 (
  Q ⟨(.bool false),none,[.blk [(.pointer (some (Addr.mk (rm 0) 0 none))),(.pointer (some (Addr.mk (r 0) 0 none))),(.pointer (some (Addr.mk (r2 0) 0 none)))]],[],[(.c 0 0,.p (.obj 2 0 0)),(.c 0 1,.p (.obj 1 0 0)),(.c 0 2,.p (.obj 3 0 0))]⟩) (
  nz ((((E.on m).words.map U32.mk).length):Int) (
   nz ((((E.on m).words.map U32.mk).length):Int) (
    ∀k1:Int,k1=((i64.wrap (((a:Int).tmod (((((E.on m).words.map U32.mk).length):Nat):Int))+(((((E.on m).words.map U32.mk).length):Nat):Int)):Int).tmod (((((E.on m).words.map U32.mk).length):Nat):Int))→
    (0≤k1∧k1<(l.length:Int))∧
    ∀(l2:List U32),l2=(l.set k1.toNat (U32.mk v))→
    (0≤k1∧k1<(l1.length:Int))∧
    ∀(l3:List U32),l3=(l1.set k1.toNat (U32.mk v))→
    ((∀x∈l2,0≤x.v∧x.v<4294967296))∧
    1≤m.S∧
    split (decide (DB.aE m l2=0)) (
     ∀(rN:Nat→Nat),
     ∀(E1:Pd),E1=(DB.load m l2).pd→
     Pd.Ok E1→
     ((∀x∈l3,0≤x.v∧x.v<4294967296))∧
     1≤m2.S∧
     split (decide (DB.aE m2 l3=0)) (
      ∀(rN1:Nat→Nat),
      ∀(E2:Pd),E2=(DB.load m2 l3).pd→
      Pd.Ok E2→
      ∃J1:Bool→Prop,(
       J1 (!(false==false)))∧∀(_gv2:Nat→Value)(x84:Bool),J1 x84→
      split x84 (
       Q ⟨(.bool false),none,[.blk [(.pointer (some (Addr.mk (rm 0) 0 none))),(.pointer (some (Addr.mk (r 0) 0 none))),(.pointer (some (Addr.mk (r2 0) 0 none)))]],[],[(.c 0 0,.p (.obj 2 0 0)),(.c 0 1,.p (.obj 1 0 0)),(.c 0 2,.p (.obj 3 0 0))]⟩) (
       Q ⟨(.bool true),none,[.blk [(.pointer (some (Addr.mk (rm 0) 0 none))),(.pointer (some (Addr.mk (rN 0) 0 none))),(.pointer (some (Addr.mk (rN1 0) 0 none)))]],[(.ob 1 rN E1),(.ob 3 rN1 E2)],[(.c 0 2,.p (.obj 6 0 0)),(.c 0 1,.p (.obj 5 0 0)),(.l 6 1,.p (.obj 4 0 0)),(.l 5 1,.p (.obj 2 0 0)),(.c 0 0,.p (.obj 2 0 0))]⟩)) (
      ∃J1:Bool→Prop,(
       J1 true)∧∀(_gv2:Nat→Value)(x84:Bool),J1 x84→
      split x84 (
       Q ⟨(.bool false),none,[.blk [(.pointer (some (Addr.mk (rm 0) 0 none))),(.pointer (some (Addr.mk (r 0) 0 none))),(.pointer (some (Addr.mk (r2 0) 0 none)))]],[],[(.c 0 0,.p (.obj 2 0 0)),(.c 0 1,.p (.obj 1 0 0)),(.c 0 2,.p (.obj 3 0 0))]⟩) (
       False))) (
     ((∀x∈l3,0≤x.v∧x.v<4294967296))∧
     1≤m2.S∧
     split (decide (DB.aE m2 l3=0)) (
      ∀(rN:Nat→Nat),
      ∀(E1:Pd),E1=(DB.load m2 l3).pd→
      Pd.Ok E1→
      ∃J1:Bool→Prop,(
       J1 true)∧∀(_gv2:Nat→Value)(x84:Bool),J1 x84→
      split x84 (
       Q ⟨(.bool false),none,[.blk [(.pointer (some (Addr.mk (rm 0) 0 none))),(.pointer (some (Addr.mk (r 0) 0 none))),(.pointer (some (Addr.mk (r2 0) 0 none)))]],[],[(.c 0 0,.p (.obj 2 0 0)),(.c 0 1,.p (.obj 1 0 0)),(.c 0 2,.p (.obj 3 0 0))]⟩) (
       Q ⟨(.bool true),none,[.blk [(.pointer (some (Addr.mk (rm 0) 0 none))),(.pointer (some (Addr.mk (r 0) 0 none))),(.pointer (some (Addr.mk (r2 0) 0 none)))]],[],[(.c 0 0,.p (.obj 2 0 0)),(.c 0 1,.p (.obj 1 0 0)),(.c 0 2,.p (.obj 3 0 0))]⟩)) (
      ∃J1:Bool→Prop,(
       J1 (!(true==true)))∧∀(_gv2:Nat→Value)(x84:Bool),J1 x84→
      split x84 (
       Q ⟨(.bool false),none,[.blk [(.pointer (some (Addr.mk (rm 0) 0 none))),(.pointer (some (Addr.mk (r 0) 0 none))),(.pointer (some (Addr.mk (r2 0) 0 none)))]],[],[(.c 0 0,.p (.obj 2 0 0)),(.c 0 1,.p (.obj 1 0 0)),(.c 0 2,.p (.obj 3 0 0))]⟩) (
       Q ⟨(.bool true),none,[.blk [(.pointer (some (Addr.mk (rm 0) 0 none))),(.pointer (some (Addr.mk (r 0) 0 none))),(.pointer (some (Addr.mk (r2 0) 0 none)))]],[],[(.c 0 0,.p (.obj 2 0 0)),(.c 0 1,.p (.obj 1 0 0)),(.c 0 2,.p (.obj 3 0 0))]⟩))))))
theorem zC:Vc2 Un Tryz.prog (aN [(52,sF),(93,mE),(94,wu),(95,ov),(26,er)]) [7] Tryz.f45 (.r' (.r' (.r' (.two (.two (.node [] (some ⟨[(31,(.one .bool))],[],upN 22 10,[]⟩) [] [] .leaf .leaf) .leaf) (.r' (.r' (.r' (.r' (.r' (.two (.two (.node [] (some ⟨[(84,(.one .bool))],[],upN 74 11,[]⟩) [] [] .leaf .leaf) .leaf) .leaf)))))))))) [1000000,8,9] gz=(∀k a b c v ws g r (E:Pd) rm (m:Mem) r2 (F:Pd) rm2 (m2:Mem),∀Q,(gz.body k a b c v ws g r E rm m r2 F rm2 m2 Q)→zB k a b c v ws g r E rm m r2 F rm2 m2 Q):=by kernel_rfl
theorem zA:LV Un Tryz.prog 45 gz:=verify Tryz.func45 aa (tb:= [(52,sF),(93,mE),(94,wu),(95,ov),(26,er)]) ⟨Hp,Bs,I5,Ey,nE,trivial⟩ (by kernel_rfl) (zC.mpr fun k a b c v ws g r E rm m r2 F rm2 m2 Q h=>by
 obtain⟨hp0,hp1,hp2,hp3,hp4,h⟩:=h
 subst hp1
 subst hp2
 exact fun f1 f2 f3 f4=>fun gv=>(by have hok:=Pd.Ok.on f1 hp0;(have hS:(E.on m).S≤64:=by rw [Pd.gi _ _ hp0];exact f1.dk);(have hwl:((E.on m).words.map U32.mk).length=1+2*(E.on m).S:=by rw [List.length_map,DB.gR]);exact aj ‹_› fun s5=>fun A c1=>fun l h_l=>aj ‹_› fun s6=>fun A1 c2=>fun l1 h_l1=>aY ((((((((E.on m).words.map U32.mk).length):Nat):Int):Int) !=(((((E.on m).words.map U32.mk).length):Nat):Int)) || (((((((E.on m).words.map U32.mk).length):Nat):Int):Int)==0)) (ab (fun c1=>(by grind)) fun c1=>(by grind))<| aK (fun c2=>aF (bx h (by(exfalso;rw [hwl]at c2;simp at c2;omega))) (congrArg Value.bool (by(exfalso;rw [hwl]at c2;simp at c2;omega))) (ah (congrArg Upd.blk rfl) rfl) rfl) fun c2=>Jd (by rw [hwl];omega)<| Jd (by rw [hwl];omega)<| allEq<| aj (DB.Cu hS ‹_›) fun s7=>fun l2 h_l2=>aj (DB.Cu hS ‹_›) fun s8=>fun l3 h_l3=>aj (by rw [DB.ldw_eq hS h_l h_l2];exact DB.nZ hok hp3) fun s9=>aj ‹_› fun s10=>au (fun c3=>fun rN=>fun E1 h_E1 f11=>aj (by rw [DB.ldw_eq hS h_l1 h_l3];exact DB.nZ hok hp3) fun s12=>aj ‹_› fun s13=>au (fun c4=>fun rN1=>fun E2 h_E2 f14=>aY (!(false==false)) ((by grind))<| aQ (fun c5=>aF (bx h (by(have e1:=DB.ldw_eq hS h_l h_l2;have e2:=DB.ldw_eq hS h_l1 h_l3;grind))) (congrArg Value.bool (by(have e1:=DB.ldw_eq hS h_l h_l2;have e2:=DB.ldw_eq hS h_l1 h_l3;grind))) (ah (congrArg Upd.blk rfl) rfl) rfl) fun c5=>aF ((jm h (by(have e1:=DB.ldw_eq hS h_l h_l2;have e2:=DB.ldw_eq hS h_l1 h_l3;grind))) rN rN1) rfl (ah (congrArg Upd.blk rfl) rfl) (ah (congrArg (Res.ob (U:=Un) 1 _) (show @Eq Pd _ _ from(by(have e1:=DB.ldw_eq hS h_l h_l2;have e2:=DB.ldw_eq hS h_l1 h_l3;grind)))) (ah (congrArg (Res.ob (U:=Un) 3 _) (show @Eq Pd _ _ from(by(have e1:=DB.ldw_eq hS h_l h_l2;have e2:=DB.ldw_eq hS h_l1 h_l3;grind)))) rfl))) fun c4=>aY true ((by grind))<| aV<| aF (bx h (by(have e1:=DB.ldw_eq hS h_l h_l2;have e2:=DB.ldw_eq hS h_l1 h_l3;grind))) (congrArg Value.bool (by(have e1:=DB.ldw_eq hS h_l h_l2;have e2:=DB.ldw_eq hS h_l1 h_l3;grind))) (ah (congrArg Upd.blk rfl) rfl) rfl) fun c3=>aj (by rw [DB.ldw_eq hS h_l1 h_l3];exact DB.nZ hok hp3) fun s15=>aj ‹_› fun s16=>au (fun c6=>fun rN=>fun E1 h_E1 f17=>aY true ((by grind))<| aV<| aF (bx h (by(have e1:=DB.ldw_eq hS h_l h_l2;have e2:=DB.ldw_eq hS h_l1 h_l3;grind))) (congrArg Value.bool (by(have e1:=DB.ldw_eq hS h_l h_l2;have e2:=DB.ldw_eq hS h_l1 h_l3;grind))) (ah (congrArg Upd.blk rfl) rfl) rfl) fun c6=>aY (!(true==true)) ((by grind))<| aQ (fun c7=>aF (bx h (by(have e1:=DB.ldw_eq hS h_l h_l2;have e2:=DB.ldw_eq hS h_l1 h_l3;grind))) (congrArg Value.bool (by(have e1:=DB.ldw_eq hS h_l h_l2;have e2:=DB.ldw_eq hS h_l1 h_l3;grind))) (ah (congrArg Upd.blk rfl) rfl) rfl) fun c7=>aF (bx h (by(have e1:=DB.ldw_eq hS h_l h_l2;have e2:=DB.ldw_eq hS h_l1 h_l3;grind))) (congrArg Value.bool (by(have e1:=DB.ldw_eq hS h_l h_l2;have e2:=DB.ldw_eq hS h_l1 h_l3;grind))) (ah (congrArg Upd.blk rfl) rfl) rfl))
end Go.Proofs.YtbjlecpmgocoeaaGreatDoor
end
section
set_option maxRecDepth 100000
set_option maxHeartbeats 1000000
namespace Go.Proofs.YtbjlecpmgocoeaaGreatDoor
open Go Go.RowKit V
open Go.IntKind (i64 u32 u64)
open Go.Proofs (Tryz.prog)
def eL:Ctr Un:=⟨[.one (.ptr 0),.agg [.int .i64,.int .i64,.int .i64,.int .i64,.int .u32,.any]],[(5,5),(6,6)],[.blk [.obj 2 0,.obj 1 0,.obj 3 0] 34,.ob 1 [(1,2,0)],.ob 0 [],.ob 3 [(1,4,0)],.ob 2 [],.ob 5 [],.ob 6 []],[2,4],fun k a b c v ws g r E rm m r2 F rm2 m2 rk kk rk2 kk2 K=>m=m2∧kk2=kk∧(0≤(v:Int)∧(v:Int)<4294967296)∧K ⟨(.bool true),none,[.ob 0 (((E.on m).fY kk a v).mem),.ob 2 (((E.on m).fY kk a v).mem)],[],[]⟩⟩
def tv(k:Int)(a:Int)(b:Int)(c:Int)(v:Int)(ws:Value)(g:Nat)(r:Nat→Nat)(E:Pd)(rm:Nat→Nat)(m:Mem)(r2:Nat→Nat)(F:Pd)(rm2:Nat→Nat)(m2:Mem)(rk:Nat→Nat)(kk:List Int)(rk2:Nat→Nat)(kk2:List Int)(Q:Ou Un→Prop):Prop:=
 Pd.Ok E→
 Mem.Wf m→
 Pd.Ok F→
 Mem.Wf m2→
 ∀(gv:Nat),
 ∀(rN:Nat→Nat),
 ∀(s:Dg),s=Dg.new→
 ∀(gv1:Nat),
 ∀i:Int,i=0→
 ∃I:Nat→Int→Dg→Int→Int→Int→Int→Int→Int→Int→Int→Int→Option Addr→Nat→List U32→Prop,(∃m1,I m1 i s S8.first.a S8.first.b S8.first.c S8.first.d S8.first.e S8.first.f S8.first.g S8.first.h 0 none 0 ([]:List U32))∧∀(m1:Nat)(_gv2:Nat→Value)(i1:Int)(s8:Dg)(y9a:Int)(y9b:Int)(y9c:Int)(y9d:Int)(y9e:Int)(y9f:Int)(y9g:Int)(y9h:Int)(y9j:Int)(A10:Option Addr)(c10:Nat)(l10:List U32),I m1 i1 s8 y9a y9b y9c y9d y9e y9f y9g y9h y9j A10 c10 l10→
 ∃J:Bool→Prop,(
  split (decide (i1<v)) (
   J (decide (i1<40))) (
   J false))∧∀(_gv3:Nat→Value)(x21:Bool),J x21→
 split x21 (
  ∀(gv4:Nat),
  ∀(l:List U32),l=([U32.mk 7]:List U32)→
  s8.Ok∧
  l.length≤1099511627776∧
  ∀(s1:Dg),s1=(s8.add kk l)→
  ∀(gv5:Nat),
  ∀(l1:List U32),l1=([U32.mk 7]:List U32)→
  (Dg.mk (S8.mk y9a y9b y9c y9d y9e y9f y9g y9h) y9j l10).Ok∧
  (l1.length≤1099511627776∧l1.length≤36028797018963968 - y9j)∧
  ∀(A1:Option Addr)(c1:Nat),
  ∀(l2:List U32),l2=((Dg.mk (S8.mk y9a y9b y9c y9d y9e y9f y9g y9h) y9j l10).add kk2 l1).waits→
  ∀i2:Int,i2=(u32.wrap (i1+1))→
  ∃m3,m3<m1∧I m3 i2 s1 (((Dg.mk (S8.mk y9a y9b y9c y9d y9e y9f y9g y9h) y9j l10).add kk2 l1).st.a) (((Dg.mk (S8.mk y9a y9b y9c y9d y9e y9f y9g y9h) y9j l10).add kk2 l1).st.b) (((Dg.mk (S8.mk y9a y9b y9c y9d y9e y9f y9g y9h) y9j l10).add kk2 l1).st.c) (((Dg.mk (S8.mk y9a y9b y9c y9d y9e y9f y9g y9h) y9j l10).add kk2 l1).st.d) (((Dg.mk (S8.mk y9a y9b y9c y9d y9e y9f y9g y9h) y9j l10).add kk2 l1).st.e) (((Dg.mk (S8.mk y9a y9b y9c y9d y9e y9f y9g y9h) y9j l10).add kk2 l1).st.f) (((Dg.mk (S8.mk y9a y9b y9c y9d y9e y9f y9g y9h) y9j l10).add kk2 l1).st.g) (((Dg.mk (S8.mk y9a y9b y9c y9d y9e y9f y9g y9h) y9j l10).add kk2 l1).st.h) (((Dg.mk (S8.mk y9a y9b y9c y9d y9e y9f y9g y9h) y9j l10).add kk2 l1).n) A1 c1 l2) (
  s8.Ok∧
  ∀(gv4:Nat),
  ∀(s1:List U32),s1=([U32.mk 0,U32.mk 0,U32.mk 0,U32.mk 0,U32.mk 0,U32.mk 0,U32.mk 0,U32.mk 0,U32.mk 0,U32.mk 0,U32.mk 0,U32.mk 0,U32.mk 0,U32.mk 0,U32.mk 0,U32.mk 0,U32.mk 0,U32.mk 0,U32.mk 0,U32.mk 0,U32.mk 0,U32.mk 0,U32.mk 0,U32.mk 0,U32.mk 0,U32.mk 0]:List U32)→
  (s1.length=26)∧
  ∀(s2:List U32),s2=(Dg.svL s8)→
  (s2.length=26)∧
  (Dg.mk (S8.mk y9a y9b y9c y9d y9e y9f y9g y9h) y9j l10).Ok∧
  cq (xf [.int .u32] 26) (#[(.int .u32 ((s2.getD 0 (U32.mk 0)).v)),(.int .u32 ((s2.getD 1 (U32.mk 0)).v)),(.int .u32 ((s2.getD 2 (U32.mk 0)).v)),(.int .u32 ((s2.getD 3 (U32.mk 0)).v)),(.int .u32 ((s2.getD 4 (U32.mk 0)).v)),(.int .u32 ((s2.getD 5 (U32.mk 0)).v)),(.int .u32 ((s2.getD 6 (U32.mk 0)).v)),(.int .u32 ((s2.getD 7 (U32.mk 0)).v)),(.int .u32 ((s2.getD 8 (U32.mk 0)).v)),(.int .u32 ((s2.getD 9 (U32.mk 0)).v)),(.int .u32 ((s2.getD 10 (U32.mk 0)).v)),(.int .u32 ((s2.getD 11 (U32.mk 0)).v)),(.int .u32 ((s2.getD 12 (U32.mk 0)).v)),(.int .u32 ((s2.getD 13 (U32.mk 0)).v)),(.int .u32 ((s2.getD 14 (U32.mk 0)).v)),(.int .u32 ((s2.getD 15 (U32.mk 0)).v)),(.int .u32 ((s2.getD 16 (U32.mk 0)).v)),(.int .u32 ((s2.getD 17 (U32.mk 0)).v)),(.int .u32 ((s2.getD 18 (U32.mk 0)).v)),(.int .u32 ((s2.getD 19 (U32.mk 0)).v)),(.int .u32 ((s2.getD 20 (U32.mk 0)).v)),(.int .u32 ((s2.getD 21 (U32.mk 0)).v)),(.int .u32 ((s2.getD 22 (U32.mk 0)).v)),(.int .u32 ((s2.getD 23 (U32.mk 0)).v)),(.int .u32 ((s2.getD 24 (U32.mk 0)).v)),(.int .u32 ((s2.getD 25 (U32.mk 0)).v))]:Array Value).toList=true∧
  cq (xf [.int .u32] 26) (⟨Dg.sv (Dg.mk (S8.mk y9a y9b y9c y9d y9e y9f y9g y9h) y9j l10)⟩:Array Value).toList=true∧
  split (!(bd #[(.int .u32 ((s2.getD 0 (U32.mk 0)).v)),(.int .u32 ((s2.getD 1 (U32.mk 0)).v)),(.int .u32 ((s2.getD 2 (U32.mk 0)).v)),(.int .u32 ((s2.getD 3 (U32.mk 0)).v)),(.int .u32 ((s2.getD 4 (U32.mk 0)).v)),(.int .u32 ((s2.getD 5 (U32.mk 0)).v)),(.int .u32 ((s2.getD 6 (U32.mk 0)).v)),(.int .u32 ((s2.getD 7 (U32.mk 0)).v)),(.int .u32 ((s2.getD 8 (U32.mk 0)).v)),(.int .u32 ((s2.getD 9 (U32.mk 0)).v)),(.int .u32 ((s2.getD 10 (U32.mk 0)).v)),(.int .u32 ((s2.getD 11 (U32.mk 0)).v)),(.int .u32 ((s2.getD 12 (U32.mk 0)).v)),(.int .u32 ((s2.getD 13 (U32.mk 0)).v)),(.int .u32 ((s2.getD 14 (U32.mk 0)).v)),(.int .u32 ((s2.getD 15 (U32.mk 0)).v)),(.int .u32 ((s2.getD 16 (U32.mk 0)).v)),(.int .u32 ((s2.getD 17 (U32.mk 0)).v)),(.int .u32 ((s2.getD 18 (U32.mk 0)).v)),(.int .u32 ((s2.getD 19 (U32.mk 0)).v)),(.int .u32 ((s2.getD 20 (U32.mk 0)).v)),(.int .u32 ((s2.getD 21 (U32.mk 0)).v)),(.int .u32 ((s2.getD 22 (U32.mk 0)).v)),(.int .u32 ((s2.getD 23 (U32.mk 0)).v)),(.int .u32 ((s2.getD 24 (U32.mk 0)).v)),(.int .u32 ((s2.getD 25 (U32.mk 0)).v))] ⟨Dg.sv (Dg.mk (S8.mk y9a y9b y9c y9d y9e y9f y9g y9h) y9j l10)⟩)) (
   Q ⟨(.bool false),none,[.ob 0 m,.ob 2 m2],[],[]⟩) (
   ∀i2:Int,i2=0→
   ∃I1:Nat→Int→Mem→Mem→Prop,(∃m4,I1 m4 i2 m m2)∧∀(m4:Nat)(_gv5:Nat→Value)(i3:Int)(s21:Mem)(s4:Mem),I1 m4 i3 s21 s4→
   Mem.Wf s21→
   Mem.Wf s4→
   split (decide (i3<26)) (
    ((0≤i3∧i3<(s2.length:Int))∧i3<(26:Int))∧
    (0≤((s2.getD i3.toNat (U32.mk 0)).v)∧((s2.getD i3.toNat (U32.mk 0)).v)<4294967296)∧
    ∀(m6:Mem),m6=(s21.write true a (i64.wrap (11+i3)) ((s2.getD i3.toNat (U32.mk 0)).v))→
    Mem.Wf m6→
    ∀(m7:Mem),m7=(s4.write true a (i64.wrap (11+i3)) ((s2.getD i3.toNat (U32.mk 0)).v))→
    Mem.Wf m7→
    split (!(decide (s21.err true a (i64.wrap (11+i3))=s4.err true a (i64.wrap (11+i3))))) (
     Q ⟨(.bool false),none,[.ob 0 m6,.ob 2 m7],[],[]⟩) (
     ∀i4:Int,i4=(i64.wrap (i3+1))→
     ∃m5,m5<m4∧I1 m5 i4 m6 m7)) (
    Q ⟨(.bool true),none,[.ob 0 s21,.ob 2 s4],[],[]⟩)))
theorem tw:Vc2 Un Tryz.prog (aN [(87,AY),(88,sr),(89,A5),(90,sy),(91,vQ),(92,oA),(8,ep)]) [7,9] Tryz.f44 (.r' (.r' (.r' (.r' (.two (.two (.node [(.c 9 8,1,22)] none [] [] .leaf .leaf) (.two (.node [] (some ⟨[(7,(.one (.int .u32)))],[],[7]++upN 14 16,[(8,(.ob 4)),(9,(.blk [(.v (.int .u32)),(.v (.int .u32)),(.v (.int .u32)),(.v (.int .u32)),(.v (.int .u32)),(.v (.int .u32)),(.v (.int .u32)),(.v (.int .u32)),(.k (.sl 10 0)),(.v (.int .i64))])),(10,(.lst 1))]⟩) [] [] (.two (.two (.node [] (some ⟨[(21,(.one .bool))],[],upN 14 8,[]⟩) [] [] .leaf .leaf) .leaf) .leaf) .leaf) .leaf)) (.r' (.two (.two (.node [] none [] [(0,[11]),(1,[9])] .leaf .leaf) .leaf) (.two (.r' (.two (.node [] (some ⟨[(9,(.one (.int .i64)))],[],[4,9]++upN 36 14,[(2,(.ob 0)),(4,(.ob 2))]⟩) [] [] (.r' (.two (.two (.two (.node [] none [] [(2,[7]),(7,[11])] .leaf .leaf) .leaf) .leaf) .leaf)) .leaf) .leaf)) .leaf)))))))) [] eL=(∀k a b c v ws g r (E:Pd) rm (m:Mem) r2 (F:Pd) rm2 (m2:Mem) rk (kk:List Int) rk2 (kk2:List Int),∀Q,(eL.body k a b c v ws g r E rm m r2 F rm2 m2 rk kk rk2 kk2 Q)→tv k a b c v ws g r E rm m r2 F rm2 m2 rk kk rk2 kk2 Q):=by kernel_rfl
theorem tu:LV Un Tryz.prog 44 eL:=verify Tryz.func44 aa (tb:= [(87,AY),(88,sr),(89,A5),(90,sy),(91,vQ),(92,oA),(8,ep)]) ⟨Ku,G8,Kv,G9,IE,EE,kZ,trivial⟩ (by kernel_rfl) (tw.mpr fun k a b c v ws g r E rm m r2 F rm2 m2 rk kk rk2 kk2 Q h=>by
 obtain⟨hp0,hp1,hp2,h⟩:=h
 subst hp0
 exact fun f1 f2 f3 f4=>fun gv=>fun rN=>fun s h_s=>fun gv1=>allEq<| ⟨fun m1 i1 s8 y9a y9b y9c y9d y9e y9f y9g y9h y9j A10 c10 l10=>(m1=(40 - i1).toNat)∧(0≤i1∧i1≤40∧i1≤v)∧(s8=dgN kk i1.toNat)∧((Dg.mk (S8.mk y9a y9b y9c y9d y9e y9f y9g y9h) y9j l10)=dgN kk i1.toNat),⟨_,rfl,(by omega),‹_›,(by rfl)⟩,fun m1 _ i1 s8 y9a y9b y9c y9d y9e y9f y9g y9h y9j A10 c10 l10 ⟨hm,hi,hd,hr⟩=>aY ((decide ((i1:Int)<v)) && (decide ((i1:Int)<40))) (ab (fun c1=>(by grind)) fun c1=>(by grind))<| bz (fun c2=>(by(have hc2:i1<v∧i1<40:=by simpa using c2);exact fun gv4=>fun l h_l=>aj (by rw [hd];exact mn kk _) fun s5=>aj (by rw [h_l];decide) fun s6=>fun s1 h_s1=>fun gv5=>fun l1 h_l1=>aj (by rw [hr];exact mn kk _) fun s7=>aj (by have h7:y9j=(dgN kk i1.toNat).n:=congrArg Dg.n hr;have h8:=Jn kk i1.toNat;rw [h_l1];simp only [List.length_singleton];omega) fun s8=>fun A1 c1=>fun l2 h_l2=>allEq<| ⟨_,(by(have h8:=bU (x:=i1+1) (by omega));omega),rfl,(by(have h8:=bU (x:=i1+1) (by omega));omega),(by rw [xR kk (by omega),← hd,h_s1,h_l]),(by rw [xR kk (by omega),← hr,h_l2,h_l1,hp1])⟩)) fun c2=>(by(have h26:s8.save.length=26:=Dg.qF (by rw [hd];exact mn kk _));exact aj (by rw [hd];exact mn kk _) fun s9=>fun gv4=>fun s1 h_s1=>aj (by rw [h_s1];rfl) fun s10=>fun s2 h_s2=>aj (by rw [h_s2];rfl) fun s11=>aj (by rw [hr];exact mn kk _) fun s12=>aj (by rfl) fun s13=>aj (by rfl) fun s14=>aQ (fun c3=>aF h (congrArg Value.bool (by exfalso;rw [h_s2,hr,← hd]at c3;exact n8 [s8.save.getD 0 0,s8.save.getD 1 0,s8.save.getD 2 0,s8.save.getD 3 0,s8.save.getD 4 0,s8.save.getD 5 0,s8.save.getD 6 0,s8.save.getD 7 0,s8.save.getD 8 0,s8.save.getD 9 0,s8.save.getD 10 0,s8.save.getD 11 0,s8.save.getD 12 0,s8.save.getD 13 0,s8.save.getD 14 0,s8.save.getD 15 0,s8.save.getD 16 0,s8.save.getD 17 0,s8.save.getD 18 0,s8.save.getD 19 0,s8.save.getD 20 0,s8.save.getD 21 0,s8.save.getD 22 0,s8.save.getD 23 0,s8.save.getD 24 0,s8.save.getD 25 0] c3)) (ah (congrArg (Upd.ob (U:=Un) 0) (show @Eq Mem _ _ from(by exfalso;rw [h_s2,hr,← hd]at c3;exact n8 [s8.save.getD 0 0,s8.save.getD 1 0,s8.save.getD 2 0,s8.save.getD 3 0,s8.save.getD 4 0,s8.save.getD 5 0,s8.save.getD 6 0,s8.save.getD 7 0,s8.save.getD 8 0,s8.save.getD 9 0,s8.save.getD 10 0,s8.save.getD 11 0,s8.save.getD 12 0,s8.save.getD 13 0,s8.save.getD 14 0,s8.save.getD 15 0,s8.save.getD 16 0,s8.save.getD 17 0,s8.save.getD 18 0,s8.save.getD 19 0,s8.save.getD 20 0,s8.save.getD 21 0,s8.save.getD 22 0,s8.save.getD 23 0,s8.save.getD 24 0,s8.save.getD 25 0] c3))) (ah (congrArg (Upd.ob (U:=Un) 2) (show @Eq Mem _ _ from(by exfalso;rw [h_s2,hr,← hd]at c3;exact n8 [s8.save.getD 0 0,s8.save.getD 1 0,s8.save.getD 2 0,s8.save.getD 3 0,s8.save.getD 4 0,s8.save.getD 5 0,s8.save.getD 6 0,s8.save.getD 7 0,s8.save.getD 8 0,s8.save.getD 9 0,s8.save.getD 10 0,s8.save.getD 11 0,s8.save.getD 12 0,s8.save.getD 13 0,s8.save.getD 14 0,s8.save.getD 15 0,s8.save.getD 16 0,s8.save.getD 17 0,s8.save.getD 18 0,s8.save.getD 19 0,s8.save.getD 20 0,s8.save.getD 21 0,s8.save.getD 22 0,s8.save.getD 23 0,s8.save.getD 24 0,s8.save.getD 25 0] c3))) rfl)) rfl) fun c3=>allEq<| ⟨fun m4 i3 s21 s4=>(m4=(26 - i3).toNat)∧(0≤i3∧i3≤26)∧(s21=((E.on m).wrs a 11 (s8.save.take i3.toNat)).mem)∧(s4=s21),⟨_,rfl,(by omega),(by rfl),(by rfl)⟩,fun m4 _ i3 s21 s4 ⟨hm,hi3,hW,hE⟩=>fun f15 f16=>au (fun c4=>aj (by rw [h_s2,show(Dg.svL s8).length=26 from rfl];omega) fun s17=>aj (by rw [h_s2,Dg.svL_eq h26,wV];exact Df (by rw [hd];exact mn kk _) h26 (by omega)) fun s18=>fun m6 h_m6 f19=>fun m7 h_m7 f20=>z6 (fun c5=>aF h (congrArg Value.bool (by exfalso;simp [hE]at c5)) (ah (congrArg (Upd.ob (U:=Un) 0) (show @Eq Mem _ _ from(by exfalso;simp [hE]at c5))) (ah (congrArg (Upd.ob (U:=Un) 2) (show @Eq Mem _ _ from(by exfalso;simp [hE]at c5))) rfl)) rfl) fun c5=>allEq<| ⟨_,(by(have h8:=af (x:=i3+1) (by omega));omega),rfl,(by(have h8:=af (x:=i3+1) (by omega));omega),(by rw [h_m6,DB.Fm h26 (by omega)];show s21.write true a _ _=((E.on m).wrs a 11 (s8.save.take i3.toNat)).mem.write true a _ _;rw [← hW,h_s2,Dg.svL_eq h26,wV]),(by rw [h_m7,h_m6,hE])⟩) fun c4=>aF h (congrArg Value.bool ‹_›) (ah (congrArg (Upd.ob (U:=Un) 0) (show @Eq Mem _ _ from(by(have hf:s21=((E.on m).fY kk a v).mem:=by rw [hW,DB.fY,show i3.toNat=26 by omega,List.take_of_length_le (by omega),hd,show i1.toNat=min v.toNat 40 by simp at c2;omega]);exact hf.symm))) (ah (congrArg (Upd.ob (U:=Un) 2) (show @Eq Mem _ _ from(by(have hf:s21=((E.on m).fY kk a v).mem:=by rw [hW,DB.fY,show i3.toNat=26 by omega,List.take_of_length_le (by omega),hd,show i1.toNat=min v.toNat 40 by simp at c2;omega]);(rw [hE];exact hf.symm)))) rfl)) rfl⟩)⟩)
def oD:Ctr Un:=⟨[.one (.ptr 0),.agg [.int .i64,.int .i64,.int .i64,.int .i64,.int .u32,.any]],[(5,5),(6,6)],[.blk [.obj 2 0,.obj 1 0,.obj 3 0] 34,.ob 1 [(1,2,0)],.ob 0 [],.ob 3 [(1,4,0)],.ob 2 [],.ob 5 [],.ob 6 []],[0,1,2,3,4],fun k a b c v ws g r E rm m r2 F rm2 m2 rk kk rk2 kk2 K=>E.n=m.S∧E=F∧m=m2∧kk2=kk∧(0≤(v:Int)∧(v:Int)<4294967296)∧1≤m.S∧split (decide (k=9) && decide (DB.aE m (DB.ldw (E.on m) a v)=0)) (∀(rN:Nat→Nat)(rN2:Nat→Nat),K ⟨(.bool true),none,[.blk [(.pointer (some (Addr.mk (rm 0) 0 none))),(.pointer (some (Addr.mk (rN 0) 0 none))),(.pointer (some (Addr.mk (rN2 0) 0 none)))],.ob 1 E,.ob 0 m,.ob 3 F,.ob 2 m2],[(.ob 1 rN ((DB.load m (DB.ldw (E.on m) a v)).pd)),(.ob 3 rN2 ((DB.load m (DB.ldw (E.on m) a v)).pd))],[(.c 0 2,.p (.obj 8 0 0)),(.c 0 1,.p (.obj 7 0 0)),(.l 8 1,.p (.obj 4 0 0)),(.l 7 1,.p (.obj 2 0 0)),(.c 0 0,.p (.obj 2 0 0))]⟩) (K ⟨(.bool true),none,[.blk [(.pointer (some (Addr.mk (rm 0) 0 none))),(.pointer (some (Addr.mk (r 0) 0 none))),(.pointer (some (Addr.mk (r2 0) 0 none)))],.ob 1 (((E.on m).act kk k a b c v).pd),.ob 0 (((E.on m).act kk k a b c v).mem),.ob 3 (((E.on m).act kk k a b c v).pd),.ob 2 (((E.on m).act kk k a b c v).mem)],[],[(.c 0 0,.p (.obj 2 0 0)),(.c 0 1,.p (.obj 1 0 0)),(.c 0 2,.p (.obj 3 0 0))]⟩)⟩
def ET(k:Int)(a:Int)(b:Int)(c:Int)(v:Int)(ws:Value)(g:Nat)(r:Nat→Nat)(E:Pd)(rm:Nat→Nat)(m:Mem)(r2:Nat→Nat)(F:Pd)(rm2:Nat→Nat)(m2:Mem)(rk:Nat→Nat)(kk:List Int)(rk2:Nat→Nat)(kk2:List Int)(Q:Ou Un→Prop):Prop:=
 Pd.Ok E→
 Mem.Wf m→
 Pd.Ok F→
 Mem.Wf m2→
 ∀(gv:Nat),
 ∀x7:Bool,x7=((k:Int)==1)→
 split x7 (
  E.n=m.S∧
  ∀(E1:Pd),E1=((E.on m).aS a b).pd→
  Pd.Ok E1→
  ∀(m1:Mem),m1=((E.on m).aS a b).mem→
  Mem.Wf m1→
  F.n=m2.S∧
  ∀(E2:Pd),E2=((F.on m2).aS a b).pd→
  Pd.Ok E2→
  ∀(m3:Mem),m3=((F.on m2).aS a b).mem→
  Mem.Wf m3→
  Q ⟨(.bool (((E.on m).aX a b)==((F.on m2).aX a b))),none,[.blk [(.pointer (some (Addr.mk (rm 0) 0 none))),(.pointer (some (Addr.mk (r 0) 0 none))),(.pointer (some (Addr.mk (r2 0) 0 none)))],.ob 1 E1,.ob 0 m1,.ob 3 E2,.ob 2 m3],[],[(.c 0 0,.p (.obj 2 0 0)),(.c 0 1,.p (.obj 1 0 0)),(.c 0 2,.p (.obj 3 0 0))]⟩) (
  ∀x29:Bool,x29=((k:Int)==2)→
  split x29 (
   E.n=m.S∧
   ∀(E1:Pd),E1=((E.on m).take a b c).pd→
   Pd.Ok E1→
   ∀(m1:Mem),m1=((E.on m).take a b c).mem→
   Mem.Wf m1→
   F.n=m2.S∧
   ∀(E2:Pd),E2=((F.on m2).take a b c).pd→
   Pd.Ok E2→
   ∀(m3:Mem),m3=((F.on m2).take a b c).mem→
   Mem.Wf m3→
   Q ⟨(.bool (((E.on m).cu a b c)==((F.on m2).cu a b c))),none,[.blk [(.pointer (some (Addr.mk (rm 0) 0 none))),(.pointer (some (Addr.mk (r 0) 0 none))),(.pointer (some (Addr.mk (r2 0) 0 none)))],.ob 1 E1,.ob 0 m1,.ob 3 E2,.ob 2 m3],[],[(.c 0 0,.p (.obj 2 0 0)),(.c 0 1,.p (.obj 1 0 0)),(.c 0 2,.p (.obj 3 0 0))]⟩) (
   ∀x55:Bool,x55=((k:Int)==3)→
   split x55 (
    E.n=m.S∧
    ∀(E1:Pd),E1=((E.on m).iN a b).pd→
    Pd.Ok E1→
    ∀(m1:Mem),m1=((E.on m).iN a b).mem→
    Mem.Wf m1→
    F.n=m2.S∧
    ∀(E2:Pd),E2=((F.on m2).iN a b).pd→
    Pd.Ok E2→
    ∀(m3:Mem),m3=((F.on m2).iN a b).mem→
    Mem.Wf m3→
    Q ⟨(.bool (((E.on m).dR a b)==((F.on m2).dR a b))),none,[.blk [(.pointer (some (Addr.mk (rm 0) 0 none))),(.pointer (some (Addr.mk (r 0) 0 none))),(.pointer (some (Addr.mk (r2 0) 0 none)))],.ob 1 E1,.ob 0 m1,.ob 3 E2,.ob 2 m3],[],[(.c 0 0,.p (.obj 2 0 0)),(.c 0 1,.p (.obj 1 0 0)),(.c 0 2,.p (.obj 3 0 0))]⟩) (
    ∀x77:Bool,x77=((k:Int)==4)→
    split x77 (
     E.n=m.S∧
     ∀(E1:Pd),E1=((E.on m).fj a).pd→
     Pd.Ok E1→
     ∀(m1:Mem),m1=((E.on m).fj a).mem→
     Mem.Wf m1→
     F.n=m2.S∧
     ∀(E2:Pd),E2=((F.on m2).fj a).pd→
     Pd.Ok E2→
     ∀(m3:Mem),m3=((F.on m2).fj a).mem→
     Mem.Wf m3→
     Q ⟨(.bool (((E.on m).cv a)==((F.on m2).cv a))),none,[.blk [(.pointer (some (Addr.mk (rm 0) 0 none))),(.pointer (some (Addr.mk (r 0) 0 none))),(.pointer (some (Addr.mk (r2 0) 0 none)))],.ob 1 E1,.ob 0 m1,.ob 3 E2,.ob 2 m3],[],[(.c 0 0,.p (.obj 2 0 0)),(.c 0 1,.p (.obj 1 0 0)),(.c 0 2,.p (.obj 3 0 0))]⟩) (
     ∀x95:Bool,x95=((k:Int)==5)→
     split x95 (
      E.n=m.S∧
      ∀(E1:Pd),E1=((E.on m).setState a b).pd→
      Pd.Ok E1→
      ∀(m1:Mem),m1=((E.on m).setState a b).mem→
      Mem.Wf m1→
      F.n=m2.S∧
      ∀(E2:Pd),E2=((F.on m2).setState a b).pd→
      Pd.Ok E2→
      ∀(m3:Mem),m3=((F.on m2).setState a b).mem→
      Mem.Wf m3→
      Q ⟨(.bool (((E.on m).bA a b)==((F.on m2).bA a b))),none,[.blk [(.pointer (some (Addr.mk (rm 0) 0 none))),(.pointer (some (Addr.mk (r 0) 0 none))),(.pointer (some (Addr.mk (r2 0) 0 none)))],.ob 1 E1,.ob 0 m1,.ob 3 E2,.ob 2 m3],[],[(.c 0 0,.p (.obj 2 0 0)),(.c 0 1,.p (.obj 1 0 0)),(.c 0 2,.p (.obj 3 0 0))]⟩) (
      ∀x117:Bool,x117=((k:Int)==6)→
      split x117 (
       E.n=m.S∧
       ∀(E1:Pd),E1=((E.on m).bf a (((b:Int).tmod 2:Int) !=0)).pd→
       Pd.Ok E1→
       ∀(m1:Mem),m1=((E.on m).bf a (((b:Int).tmod 2:Int) !=0)).mem→
       Mem.Wf m1→
       F.n=m2.S∧
       ∀(E2:Pd),E2=((F.on m2).bf a (((b:Int).tmod 2:Int) !=0)).pd→
       Pd.Ok E2→
       ∀(m3:Mem),m3=((F.on m2).bf a (((b:Int).tmod 2:Int) !=0)).mem→
       Mem.Wf m3→
       Q ⟨(.bool (((E.on m).bq a)==((F.on m2).bq a))),none,[.blk [(.pointer (some (Addr.mk (rm 0) 0 none))),(.pointer (some (Addr.mk (r 0) 0 none))),(.pointer (some (Addr.mk (r2 0) 0 none)))],.ob 1 E1,.ob 0 m1,.ob 3 E2,.ob 2 m3],[],[(.c 0 0,.p (.obj 2 0 0)),(.c 0 1,.p (.obj 1 0 0)),(.c 0 2,.p (.obj 3 0 0))]⟩) (
       ∀x143:Bool,x143=((k:Int)==7)→
       split x143 (
        (0≤v∧v<4294967296)∧
        ∀(m1:Mem),m1=(m.write true a b v)→
        Mem.Wf m1→
        ∀(m3:Mem),m3=(m2.write true a b v)→
        Mem.Wf m3→
        Q ⟨(.bool (decide (m.err true a b=m2.err true a b))),none,[.blk [(.pointer (some (Addr.mk (rm 0) 0 none))),(.pointer (some (Addr.mk (r 0) 0 none))),(.pointer (some (Addr.mk (r2 0) 0 none)))],.ob 1 E,.ob 0 m1,.ob 3 F,.ob 2 m3],[],[(.c 0 0,.p (.obj 2 0 0)),(.c 0 1,.p (.obj 1 0 0)),(.c 0 2,.p (.obj 3 0 0))]⟩) (
        ∀x153:Bool,x153=((k:Int)==8)→
        split x153 (
         m=m2∧
         kk2=kk∧
         (0≤v∧v<4294967296)∧
         ∀(m1:Mem),m1=((E.on m).fY kk a v).mem→
         Mem.Wf m1→
         ∀(m3:Mem),m3=((E.on m).fY kk a v).mem→
         Mem.Wf m3→
         Q ⟨(.bool true),none,[.blk [(.pointer (some (Addr.mk (rm 0) 0 none))),(.pointer (some (Addr.mk (r 0) 0 none))),(.pointer (some (Addr.mk (r2 0) 0 none)))],.ob 1 E,.ob 0 m1,.ob 3 F,.ob 2 m3],[],[(.c 0 0,.p (.obj 2 0 0)),(.c 0 1,.p (.obj 1 0 0)),(.c 0 2,.p (.obj 3 0 0))]⟩) (
         ∀x158:Bool,x158=((k:Int)==9)→
         split x158 (
          E.n=m.S∧
          E=F∧
          m=m2∧
          (0≤v∧v<4294967296)∧
          1≤m.S∧
          split (decide (DB.aE m (DB.ldw (E.on m) a v)=0)) (
           ∀(rN:Nat→Nat)(rN2:Nat→Nat),
           ∀(E1:Pd),E1=(DB.load m (DB.ldw (E.on m) a v)).pd→
           Pd.Ok E1→
           ∀(E2:Pd),E2=(DB.load m (DB.ldw (E.on m) a v)).pd→
           Pd.Ok E2→
           Q ⟨(.bool true),none,[.blk [(.pointer (some (Addr.mk (rm 0) 0 none))),(.pointer (some (Addr.mk (rN 0) 0 none))),(.pointer (some (Addr.mk (rN2 0) 0 none)))],.ob 1 E,.ob 0 m,.ob 3 F,.ob 2 m2],[(.ob 1 rN E1),(.ob 3 rN2 E2)],[(.c 0 2,.p (.obj 8 0 0)),(.c 0 1,.p (.obj 7 0 0)),(.l 8 1,.p (.obj 4 0 0)),(.l 7 1,.p (.obj 2 0 0)),(.c 0 0,.p (.obj 2 0 0))]⟩) (
           Q ⟨(.bool true),none,[.blk [(.pointer (some (Addr.mk (rm 0) 0 none))),(.pointer (some (Addr.mk (r 0) 0 none))),(.pointer (some (Addr.mk (r2 0) 0 none)))],.ob 1 E,.ob 0 m,.ob 3 F,.ob 2 m2],[],[(.c 0 0,.p (.obj 2 0 0)),(.c 0 1,.p (.obj 1 0 0)),(.c 0 2,.p (.obj 3 0 0))]⟩)) (
          Q ⟨(.bool true),none,[.blk [(.pointer (some (Addr.mk (rm 0) 0 none))),(.pointer (some (Addr.mk (r 0) 0 none))),(.pointer (some (Addr.mk (r2 0) 0 none)))],.ob 1 E,.ob 0 m,.ob 3 F,.ob 2 m2],[],[(.c 0 0,.p (.obj 2 0 0)),(.c 0 1,.p (.obj 1 0 0)),(.c 0 2,.p (.obj 3 0 0))]⟩)))))))))
theorem EU:Vc2 Un Tryz.prog (aN [(32,ki),(26,er),(33,eo),(34,wk),(35,jB),(36,wj),(37,jA),(38,wx),(39,jC),(40,lh),(41,eK),(42,jg),(43,dK),(8,ep),(44,eL),(45,gz)]) [7,29,55,77,95,117,143,153,158] Tryz.f11 (.r' (.two (.r' (.two (.r' (.two (.two (.node [] none [] [(3,[0]),(5,[7]),(7,[7]),(13,[0]),(15,[7]),(17,[7])] .leaf .leaf) .leaf) (.r' (.two (.two (.node [] none [] [(3,[0]),(5,[7]),(7,[7]),(9,[7]),(15,[0]),(17,[7]),(19,[7]),(21,[7])] .leaf .leaf) .leaf) (.r' (.two (.two (.node [] none [] [(3,[0]),(5,[7]),(7,[7]),(13,[0]),(15,[7]),(17,[7])] .leaf .leaf) .leaf) (.r' (.two (.two (.node [] none [] [(3,[0]),(5,[7]),(11,[0]),(13,[7])] .leaf .leaf) .leaf) (.r' (.two (.two (.node [] none [] [(3,[0]),(5,[7]),(7,[7]),(13,[0]),(15,[7]),(17,[7])] .leaf .leaf) .leaf) (.r' (.two (.two (.node [] none [] [(3,[0]),(5,[7]),(7,[7]),(15,[0]),(17,[7]),(19,[7])] .leaf .leaf) .leaf) .leaf)))))))))))) .leaf)) .leaf)) [1000000,8,9] oD=(∀k a b c v ws g r (E:Pd) rm (m:Mem) r2 (F:Pd) rm2 (m2:Mem) rk (kk:List Int) rk2 (kk2:List Int),∀Q,(oD.body k a b c v ws g r E rm m r2 F rm2 m2 rk kk rk2 kk2 Q)→ET k a b c v ws g r E rm m r2 F rm2 m2 rk kk rk2 kk2 Q):=by kernel_rfl
theorem ES:LV Un Tryz.prog 11 oD:=verify Tryz.func11 aa (tb:= [(32,ki),(26,er),(33,eo),(34,wk),(35,jB),(36,wj),(37,jA),(38,wx),(39,jC),(40,lh),(41,eK),(42,jg),(43,dK),(8,ep),(44,eL),(45,gz)]) ⟨wm,nE,r8,I0,Es,IZ,Eo,I7,Ez,zL,te,tA,pP,kZ,tu,zA,trivial⟩ (by kernel_rfl) (EU.mpr fun k a b c v ws g r E rm m r2 F rm2 m2 rk kk rk2 kk2 Q h=>by
 obtain⟨hp0,hp1,hp2,hp3,hp4,hp5,h⟩:=h
 subst hp1
 subst hp2
 exact fun f1 f2 f3 f4=>fun gv=>allEq<| aA (fun c1=>aj ‹_› fun s5=>fun E1 h_E1 f6=>fun m1 h_m1 f7=>aj ‹_› fun s8=>fun E2 h_E2 f9=>fun m3 h_m3 f10=>aF (bx h (by simp [c1,h_E1,h_m1,h_E2,h_m3])) (congrArg Value.bool (by(simp [c1,h_E1,h_m1,h_E2,h_m3,DB.act];done))) (ah (congrArg Upd.blk rfl) (ah (congrArg (Upd.ob (U:=Un) 1) (show @Eq Pd _ _ from(by(simp [c1,h_E1,h_m1,h_E2,h_m3,DB.act];done)))) (ah (congrArg (Upd.ob (U:=Un) 0) (show @Eq Mem _ _ from(by(simp [c1,h_E1,h_m1,h_E2,h_m3,DB.act];done)))) (ah (congrArg (Upd.ob (U:=Un) 3) (show @Eq Pd _ _ from(by(simp [c1,h_E1,h_m1,h_E2,h_m3,DB.act];done)))) (ah (congrArg (Upd.ob (U:=Un) 2) (show @Eq Mem _ _ from(by(simp [c1,h_E1,h_m1,h_E2,h_m3,DB.act];done)))) rfl))))) rfl) fun c1=>allEq<| aA (fun c2=>aj ‹_› fun s11=>fun E1 h_E1 f12=>fun m1 h_m1 f13=>aj ‹_› fun s14=>fun E2 h_E2 f15=>fun m3 h_m3 f16=>aF (bx h (by simp [c1,c2,h_E1,h_m1,h_E2,h_m3])) (congrArg Value.bool (by(simp [c1,c2,h_E1,h_m1,h_E2,h_m3,DB.act];done))) (ah (congrArg Upd.blk rfl) (ah (congrArg (Upd.ob (U:=Un) 1) (show @Eq Pd _ _ from(by(simp [c1,c2,h_E1,h_m1,h_E2,h_m3,DB.act];done)))) (ah (congrArg (Upd.ob (U:=Un) 0) (show @Eq Mem _ _ from(by(simp [c1,c2,h_E1,h_m1,h_E2,h_m3,DB.act];done)))) (ah (congrArg (Upd.ob (U:=Un) 3) (show @Eq Pd _ _ from(by(simp [c1,c2,h_E1,h_m1,h_E2,h_m3,DB.act];done)))) (ah (congrArg (Upd.ob (U:=Un) 2) (show @Eq Mem _ _ from(by(simp [c1,c2,h_E1,h_m1,h_E2,h_m3,DB.act];done)))) rfl))))) rfl) fun c2=>allEq<| aA (fun c3=>aj ‹_› fun s17=>fun E1 h_E1 f18=>fun m1 h_m1 f19=>aj ‹_› fun s20=>fun E2 h_E2 f21=>fun m3 h_m3 f22=>aF (bx h (by simp [c1,c2,c3,h_E1,h_m1,h_E2,h_m3])) (congrArg Value.bool (by(simp [c1,c2,c3,h_E1,h_m1,h_E2,h_m3,DB.act];done))) (ah (congrArg Upd.blk rfl) (ah (congrArg (Upd.ob (U:=Un) 1) (show @Eq Pd _ _ from(by(simp [c1,c2,c3,h_E1,h_m1,h_E2,h_m3,DB.act];done)))) (ah (congrArg (Upd.ob (U:=Un) 0) (show @Eq Mem _ _ from(by(simp [c1,c2,c3,h_E1,h_m1,h_E2,h_m3,DB.act];done)))) (ah (congrArg (Upd.ob (U:=Un) 3) (show @Eq Pd _ _ from(by(simp [c1,c2,c3,h_E1,h_m1,h_E2,h_m3,DB.act];done)))) (ah (congrArg (Upd.ob (U:=Un) 2) (show @Eq Mem _ _ from(by(simp [c1,c2,c3,h_E1,h_m1,h_E2,h_m3,DB.act];done)))) rfl))))) rfl) fun c3=>allEq<| aA (fun c4=>aj ‹_› fun s23=>fun E1 h_E1 f24=>fun m1 h_m1 f25=>aj ‹_› fun s26=>fun E2 h_E2 f27=>fun m3 h_m3 f28=>aF (bx h (by simp [c1,c2,c3,c4,h_E1,h_m1,h_E2,h_m3])) (congrArg Value.bool (by(simp [c1,c2,c3,c4,h_E1,h_m1,h_E2,h_m3,DB.act];done))) (ah (congrArg Upd.blk rfl) (ah (congrArg (Upd.ob (U:=Un) 1) (show @Eq Pd _ _ from(by(simp [c1,c2,c3,c4,h_E1,h_m1,h_E2,h_m3,DB.act];done)))) (ah (congrArg (Upd.ob (U:=Un) 0) (show @Eq Mem _ _ from(by(simp [c1,c2,c3,c4,h_E1,h_m1,h_E2,h_m3,DB.act];done)))) (ah (congrArg (Upd.ob (U:=Un) 3) (show @Eq Pd _ _ from(by(simp [c1,c2,c3,c4,h_E1,h_m1,h_E2,h_m3,DB.act];done)))) (ah (congrArg (Upd.ob (U:=Un) 2) (show @Eq Mem _ _ from(by(simp [c1,c2,c3,c4,h_E1,h_m1,h_E2,h_m3,DB.act];done)))) rfl))))) rfl) fun c4=>allEq<| aA (fun c5=>aj ‹_› fun s29=>fun E1 h_E1 f30=>fun m1 h_m1 f31=>aj ‹_› fun s32=>fun E2 h_E2 f33=>fun m3 h_m3 f34=>aF (bx h (by simp [c1,c2,c3,c4,c5,h_E1,h_m1,h_E2,h_m3])) (congrArg Value.bool (by(simp [c1,c2,c3,c4,c5,h_E1,h_m1,h_E2,h_m3,DB.act];done))) (ah (congrArg Upd.blk rfl) (ah (congrArg (Upd.ob (U:=Un) 1) (show @Eq Pd _ _ from(by(simp [c1,c2,c3,c4,c5,h_E1,h_m1,h_E2,h_m3,DB.act];done)))) (ah (congrArg (Upd.ob (U:=Un) 0) (show @Eq Mem _ _ from(by(simp [c1,c2,c3,c4,c5,h_E1,h_m1,h_E2,h_m3,DB.act];done)))) (ah (congrArg (Upd.ob (U:=Un) 3) (show @Eq Pd _ _ from(by(simp [c1,c2,c3,c4,c5,h_E1,h_m1,h_E2,h_m3,DB.act];done)))) (ah (congrArg (Upd.ob (U:=Un) 2) (show @Eq Mem _ _ from(by(simp [c1,c2,c3,c4,c5,h_E1,h_m1,h_E2,h_m3,DB.act];done)))) rfl))))) rfl) fun c5=>allEq<| aA (fun c6=>aj ‹_› fun s35=>fun E1 h_E1 f36=>fun m1 h_m1 f37=>aj ‹_› fun s38=>fun E2 h_E2 f39=>fun m3 h_m3 f40=>aF (bx h (by simp [c1,c2,c3,c4,c5,c6,h_E1,h_m1,h_E2,h_m3])) (congrArg Value.bool (by(simp [c1,c2,c3,c4,c5,c6,h_E1,h_m1,h_E2,h_m3,DB.act];done))) (ah (congrArg Upd.blk rfl) (ah (congrArg (Upd.ob (U:=Un) 1) (show @Eq Pd _ _ from(by(simp [c1,c2,c3,c4,c5,c6,h_E1,h_m1,h_E2,h_m3,DB.act];done)))) (ah (congrArg (Upd.ob (U:=Un) 0) (show @Eq Mem _ _ from(by(simp [c1,c2,c3,c4,c5,c6,h_E1,h_m1,h_E2,h_m3,DB.act];done)))) (ah (congrArg (Upd.ob (U:=Un) 3) (show @Eq Pd _ _ from(by(simp [c1,c2,c3,c4,c5,c6,h_E1,h_m1,h_E2,h_m3,DB.act];done)))) (ah (congrArg (Upd.ob (U:=Un) 2) (show @Eq Mem _ _ from(by(simp [c1,c2,c3,c4,c5,c6,h_E1,h_m1,h_E2,h_m3,DB.act];done)))) rfl))))) rfl) fun c6=>allEq<| aA (fun c7=>aj ‹_› fun s41=>fun m1 h_m1 f42=>fun m3 h_m3 f43=>aF (bx h (by simp [c1,c2,c3,c4,c5,c6,c7,h_m1,h_m3])) (congrArg Value.bool (by(simp [c1,c2,c3,c4,c5,c6,c7,h_m1,h_m3,DB.act];done))) (ah (congrArg Upd.blk rfl) (ah (congrArg (Upd.ob (U:=Un) 1) (show @Eq Pd _ _ from(by(simp [c1,c2,c3,c4,c5,c6,c7,h_m1,h_m3,DB.act,DB.kz,DB.cT,DB.ja,Pd.cA,Pd.dy _ _ hp0];done)))) (ah (congrArg (Upd.ob (U:=Un) 0) (show @Eq Mem _ _ from(by(simp [c1,c2,c3,c4,c5,c6,c7,h_m1,h_m3,DB.act,DB.kz,DB.cT,DB.ja,Pd.cA,Pd.dy _ _ hp0];done)))) (ah (congrArg (Upd.ob (U:=Un) 3) (show @Eq Pd _ _ from(by(simp [c1,c2,c3,c4,c5,c6,c7,h_m1,h_m3,DB.act,DB.kz,DB.cT,DB.ja,Pd.cA,Pd.dy _ _ hp0];done)))) (ah (congrArg (Upd.ob (U:=Un) 2) (show @Eq Mem _ _ from(by(simp [c1,c2,c3,c4,c5,c6,c7,h_m1,h_m3,DB.act,DB.kz,DB.cT,DB.ja,Pd.cA,Pd.dy _ _ hp0];done)))) rfl))))) rfl) fun c7=>allEq<| aA (fun c8=>aj (by grind) fun s44=>aj ‹_› fun s45=>aj ‹_› fun s46=>fun m1 h_m1 f47=>fun m3 h_m3 f48=>aF (bx h (by simp [c1,c2,c3,c4,c5,c6,c7,c8,h_m1,h_m3])) (congrArg Value.bool (by(simp [c1,c2,c3,c4,c5,c6,c7,c8,h_m1,h_m3,DB.act];done))) (ah (congrArg Upd.blk rfl) (ah (congrArg (Upd.ob (U:=Un) 1) (show @Eq Pd _ _ from(by(simp [c1,c2,c3,c4,c5,c6,c7,c8,h_m1,h_m3,DB.act,DB.kz,DB.cT,DB.ja,Pd.cA,Pd.dy _ _ hp0];done)))) (ah (congrArg (Upd.ob (U:=Un) 0) (show @Eq Mem _ _ from(by(simp [c1,c2,c3,c4,c5,c6,c7,c8,h_m1,h_m3,DB.act];done)))) (ah (congrArg (Upd.ob (U:=Un) 3) (show @Eq Pd _ _ from(by(simp [c1,c2,c3,c4,c5,c6,c7,c8,h_m1,h_m3,DB.act,DB.kz,DB.cT,DB.ja,Pd.cA,Pd.dy _ _ hp0];done)))) (ah (congrArg (Upd.ob (U:=Un) 2) (show @Eq Mem _ _ from(by(simp [c1,c2,c3,c4,c5,c6,c7,c8,h_m1,h_m3,DB.act];done)))) rfl))))) rfl) fun c8=>allEq<| aA (fun c9=>aj ‹_› fun s49=>aj (by grind) fun s50=>aj (by grind) fun s51=>aj ‹_› fun s52=>aj ‹_› fun s53=>au (fun c10=>fun rN rN2=>fun E1 h_E1 f54=>fun E2 h_E2 f55=>aF ((jm h (by simp [c1,c2,c3,c4,c5,c6,c7,c8,c9,c10,h_E1,h_E2])) rN rN2) rfl (ah (congrArg Upd.blk rfl) (ah rfl (ah rfl (ah (congrArg (Upd.ob (U:=Un) 3) (show @Eq Pd _ _ from(by(simp [c1,c2,c3,c4,c5,c6,c7,c8,c9,c10,h_E1,h_E2,DB.act];done)))) (ah (congrArg (Upd.ob (U:=Un) 2) (show @Eq Mem _ _ from(by(simp [c1,c2,c3,c4,c5,c6,c7,c8,c9,c10,h_E1,h_E2,DB.act];done)))) rfl))))) (ah (congrArg (Res.ob (U:=Un) 1 _) (show @Eq Pd _ _ from(by(simp [c1,c2,c3,c4,c5,c6,c7,c8,c9,c10,h_E1,h_E2,DB.act];done)))) (ah (congrArg (Res.ob (U:=Un) 3 _) (show @Eq Pd _ _ from(by(simp [c1,c2,c3,c4,c5,c6,c7,c8,c9,c10,h_E1,h_E2,DB.act];done)))) rfl))) fun c10=>aF (bx h (by simp [c1,c2,c3,c4,c5,c6,c7,c8,c9,c10])) (congrArg Value.bool (by(simp [c1,c2,c3,c4,c5,c6,c7,c8,c9,c10,DB.act];done))) (ah (congrArg Upd.blk rfl) (ah (congrArg (Upd.ob (U:=Un) 1) (show @Eq Pd _ _ from(by(simp [c1,c2,c3,c4,c5,c6,c7,c8,c9,c10,DB.act,DB.rn,Pd.cA,Pd.dy _ _ hp0];done)))) (ah (congrArg (Upd.ob (U:=Un) 0) (show @Eq Mem _ _ from(by(simp [c1,c2,c3,c4,c5,c6,c7,c8,c9,c10,DB.act,DB.rn,Pd.cA,Pd.dy _ _ hp0];done)))) (ah (congrArg (Upd.ob (U:=Un) 3) (show @Eq Pd _ _ from(by(simp [c1,c2,c3,c4,c5,c6,c7,c8,c9,c10,DB.act,DB.rn,Pd.cA,Pd.dy _ _ hp0];done)))) (ah (congrArg (Upd.ob (U:=Un) 2) (show @Eq Mem _ _ from(by(simp [c1,c2,c3,c4,c5,c6,c7,c8,c9,c10,DB.act,DB.rn,Pd.cA,Pd.dy _ _ hp0];done)))) rfl))))) rfl) fun c9=>aF (bx h (by simp [c1,c2,c3,c4,c5,c6,c7,c8,c9])) (congrArg Value.bool (by(simp [c1,c2,c3,c4,c5,c6,c7,c8,c9,DB.act];done))) (ah (congrArg Upd.blk rfl) (ah (congrArg (Upd.ob (U:=Un) 1) (show @Eq Pd _ _ from(by(simp [c1,c2,c3,c4,c5,c6,c7,c8,c9,DB.act,DB.kz,DB.cT,DB.ja,Pd.cA,Pd.dy _ _ hp0];done)))) (ah (congrArg (Upd.ob (U:=Un) 0) (show @Eq Mem _ _ from(by(simp [c1,c2,c3,c4,c5,c6,c7,c8,c9,DB.act,DB.kz,DB.cT,DB.ja,Pd.cA,Pd.dy _ _ hp0];done)))) (ah (congrArg (Upd.ob (U:=Un) 3) (show @Eq Pd _ _ from(by(simp [c1,c2,c3,c4,c5,c6,c7,c8,c9,DB.act,DB.kz,DB.cT,DB.ja,Pd.cA,Pd.dy _ _ hp0];done)))) (ah (congrArg (Upd.ob (U:=Un) 2) (show @Eq Mem _ _ from(by(simp [c1,c2,c3,c4,c5,c6,c7,c8,c9,DB.act,DB.kz,DB.cT,DB.ja,Pd.cA,Pd.dy _ _ hp0];done)))) rfl))))) rfl)
def sD:Ctr Un:=⟨[.one (.obj 0 0),.agg [.int .i64,.int .i64,.int .i64,.int .i64,.int .u32,.any]],[(1,5),(2,6)],[.ob 8 [],.ob 5 [],.ob 6 []],[0],fun k a b c v ws r s rk kk rk2 kk2 K=>s.R=s.D∧kk2=kk∧(0≤(v:Int)∧(v:Int)<4294967296)∧∀(s1:LSt),((s1.R=s1.D∧s1.D=s.D.act kk k a b c v))→K ⟨(.bool true),none,[.ob 8 s1],[],[]⟩⟩
theorem Hi:LV Un Tryz.prog 11 sD:=by
 show ∀(k:Int)(a:Int)(b:Int)(c:Int)(v:Int)(ws:Value)(r:Nat→Nat)(s:LSt)(rk:Nat→Nat)(kk:List Int)(rk2:Nat→Nat)(kk2:List Int),∀Q:Ou Un→Prop,(s.R=s.D∧kk2=kk∧(0≤(v:Int)∧(v:Int)<4294967296)∧∀(s1:LSt),((s1.R=s1.D∧s1.D=s.D.act kk k a b c v))→Q ⟨(.bool true),none,[.ob 8 s1],[],[]⟩)→∀(X:Nat→Nat→Prop)(w:World),Sat (U:=Un) [(.ob 8 r s),(.ob 5 rk kk),(.ob 6 rk2 kk2)] X w→aC (U:=Un) [(.ob 8 r s),(.ob 5 rk kk),(.ob 6 rk2 kk2)] fr0 []→Calls Tryz.prog 11 #[(.pointer (some (Addr.mk (r 0) 0 none))),(.agg #[(.int .i64 k),(.int .i64 a),(.int .i64 b),(.int .i64 c),(.int .u32 v),ws])] w (aU (U:=Un) [(.ob 8 r s),(.ob 5 rk kk),(.ob 6 rk2 kk2)] [0] X w Q)
 intro k a b c v ws r s rk kk rk2 kk2 Q hQ X w hs hl
 obtain⟨hR,hkk,hv,hQ⟩:=hQ
 have hok:LSt.Ok s:=vN (t:=8) (r:=r) (s:=s) (hs.res 0 _ rfl)
 have hS:1≤s.D.mem.S:=by have:=hok.pos;rw [hR]at this;exact this
 obtain⟨r1,rm,r2,rm2,Y,hY,⟨l1,l2⟩,hcl⟩:=HF hs
 have hl1:aC (aux (r 0) r1 s.D.pd rm s.D.mem r2 s.R.pd rm2 s.R.mem++ [.ob 5 rk kk,.ob 6 rk2 kk2]) fr0 [(.l 1 1,.p (.obj 2 0 0)),(.l 3 1,.p (.obj 4 0 0))]:=fun key k hm=>by
  simp only [List.mem_cons,Prod.mk.injEq,List.not_mem_nil,or_false]at hm
  rcases hm with⟨rfl,rfl⟩ | ⟨rfl,rfl⟩
  ·exact⟨_,_,_,rfl,show some (Value.pointer (some ⟨rm 0,0,none⟩))=some (.pointer (some ⟨r1 1,0,none⟩))by rw [l1]⟩
  ·exact⟨_,_,_,rfl,show some (Value.pointer (some ⟨rm2 0,0,none⟩))=some (.pointer (some ⟨r2 1,0,none⟩))by rw [l2]⟩
 have h0:=ES k a b c v ws (r 0) r1 s.D.pd rm s.D.mem r2 s.R.pd rm2 s.R.mem rk kk rk2 kk2 (fun o=>((k=9∧DB.aE s.D.mem (s.D.ldw a v)=0)∧∃(rN rN2:Nat→Nat),o=⟨(.bool true),none,[.blk [(.pointer (some (Addr.mk (rm 0) 0 none))),(.pointer (some (Addr.mk (rN 0) 0 none))),(.pointer (some (Addr.mk (rN2 0) 0 none)))],.ob 1 s.D.pd,.ob 0 s.D.mem,.ob 3 s.R.pd,.ob 2 s.R.mem],[(.ob 1 rN ((DB.load s.D.mem (DB.ldw (s.D.pd.on s.D.mem) a v)).pd)),(.ob 3 rN2 ((DB.load s.D.mem (DB.ldw (s.D.pd.on s.D.mem) a v)).pd))],[(.c 0 2,.p (.obj 8 0 0)),(.c 0 1,.p (.obj 7 0 0)),(.l 8 1,.p (.obj 4 0 0)),(.l 7 1,.p (.obj 2 0 0)),(.c 0 0,.p (.obj 2 0 0))]⟩)∨(¬(k=9∧DB.aE s.D.mem (s.D.ldw a v)=0)∧o=⟨(.bool true),none,[.blk [(.pointer (some (Addr.mk (rm 0) 0 none))),(.pointer (some (Addr.mk (r1 0) 0 none))),(.pointer (some (Addr.mk (r2 0) 0 none)))],.ob 1 (((s.D.pd.on s.D.mem).act kk k a b c v).pd),.ob 0 (((s.D.pd.on s.D.mem).act kk k a b c v).mem),.ob 3 (((s.D.pd.on s.D.mem).act kk k a b c v).pd),.ob 2 (((s.D.pd.on s.D.mem).act kk k a b c v).mem)],[],[(.c 0 0,.p (.obj 2 0 0)),(.c 0 1,.p (.obj 1 0 0)),(.c 0 2,.p (.obj 3 0 0))]⟩)) ⟨rfl,by rw [hR],by rw [hR],hkk,hv,hS,ab (fun h rN rN2=>.inl ⟨by have h2:(decide (k=9) && decide (DB.aE s.D.mem (s.D.ldw a v)=0))=true:=h;simpa using h2,rN,rN2,rfl⟩) (fun h=>.inr ⟨by have h2:(decide (k=9) && decide (DB.aE s.D.mem (s.D.ldw a v)=0))=false:=h;simpa using h2,rfl⟩)⟩ Y w hY hl1
 refine h0.mono ?_
 rintro e w' ⟨out,rs',X',rfl,⟨he,rN,rN2,rfl⟩ | ⟨he,rfl⟩,happ,hp⟩
 ·obtain rfl: [Res.blk (U:=Un) (r 0) [.pointer (some (Addr.mk (rm 0) 0 none)),.pointer (some (Addr.mk (rN 0) 0 none)),.pointer (some (Addr.mk (rN2 0) 0 none))] 34,.ob 1 r1 s.D.pd,.ob 0 rm s.D.mem,.ob 3 r2 s.R.pd,.ob 2 rm2 s.R.mem,.ob 5 rk kk,.ob 6 rk2 kk2]=rs':=Option.some.inj happ
  have k1:rN 1=rm 0:=by
   obtain⟨t,r,s',h1,h2⟩:=hp.kc (.l 7 1) (.p (.obj 2 0 0)) (by simp) (by simp)
   have h1:some (Res.ob (U:=Un) 1 rN (DB.load s.D.mem (s.D.ldw a v)).pd)=some (.ob t r s'):=h1
   cases h1
   have h2:some (Value.pointer (some ⟨rm 0,0,none⟩))=some (.pointer (some ⟨rN 1,0,none⟩)):=h2
   simpa using h2.symm
  have k2:rN2 1=rm2 0:=by
   obtain⟨t,r,s',h1,h2⟩:=hp.kc (.l 8 1) (.p (.obj 4 0 0)) (by simp) (by simp)
   have h1:some (Res.ob (U:=Un) 3 rN2 (DB.load s.D.mem (s.D.ldw a v)).pd)=some (.ob t r s'):=h1
   cases h1
   have h2:some (Value.pointer (some ⟨rm2 0,0,none⟩))=some (.pointer (some ⟨rN2 1,0,none⟩)):=h2
   simpa using h2.symm
  have hsat:Sat (aux (r 0) rN (DB.load s.D.mem (s.D.ldw a v)).pd rm s.D.mem rN2 (DB.load s.D.mem (s.D.ldw a v)).pd rm2 s.R.mem) (fun i=>X' (if i=1 then 7 else if i=3 then 8 else i)) w':=Sat.sel hp.sat _ (fun i hi=>by
   have hi:i<5:=hi
   match i,hi with
   | 0,_ | 1,_ | 2,_ | 3,_ | 4,_=>rfl) (fun i j hi hj hij=>by
   have hi:i<5:=hi
   have hj:j<5:=hj
   (repeat' split)<;>omega)
  refine hcl hsat k1 k2 rfl (by rw [hR];rfl) (hp.ch.mono fun k ⟨j,hj,h⟩=>⟨j,by have hj:j∈ [0,1,2,3,4]:=hj;simp at hj;omega,h⟩) (fun i hi k hk=>?_) (hQ _ ⟨by show(DB.load s.D.mem (s.D.ldw a v)).pd.on s.R.mem=(DB.load s.D.mem (s.D.ldw a v)).pd.on s.D.mem;rw [hR],by rw [he.1];show _=s.D.rn a v;rw [DB.rn,if_pos he.2];rfl⟩) trivial
  match i,hi,hk with
  | 0,_,hk=>exact(hp.grow 0 (show 0∈ [0,1,2,3,4]by simp) k hk).imp (fun h=>⟨0,by omega,h⟩) id
  | 1,_,hk=>exact .inr (hp.new 7 (show 7≤7 by decide) (show 7<9 by decide) k hk)
  | 2,_,hk=>exact(hp.grow 2 (show 2∈ [0,1,2,3,4]by simp) k hk).imp (fun h=>⟨2,by omega,h⟩) id
  | 3,_,hk=>exact .inr (hp.new 8 (show 7≤8 by decide) (show 8<9 by decide) k hk)
  | 4,_,hk=>exact(hp.grow 4 (show 4∈ [0,1,2,3,4]by simp) k hk).imp (fun h=>⟨4,by omega,h⟩) id
 ·obtain rfl:aux (r 0) r1 (s.D.act kk k a b c v).pd rm (s.D.act kk k a b c v).mem r2 (s.D.act kk k a b c v).pd rm2 (s.D.act kk k a b c v).mem++ [Res.ob (U:=Un) 5 rk kk,Res.ob (U:=Un) 6 rk2 kk2]=rs':=Option.some.inj happ
  have hsat:Sat (aux (r 0) r1 (s.D.act kk k a b c v).pd rm (s.D.act kk k a b c v).mem r2 (s.D.act kk k a b c v).pd rm2 (s.D.act kk k a b c v).mem) X' w':=Sat.sel hp.sat (fun i=>i) (fun i hi=>by
   have hi:i<5:=hi
   match i,hi with
   | 0,_ | 1,_ | 2,_ | 3,_ | 4,_=>rfl) (fun i j hi hj hij=>hij)
  refine hcl hsat l1 l2 rfl rfl (hp.ch.mono fun k ⟨j,hj,h⟩=>⟨j,by have hj:j∈ [0,1,2,3,4]:=hj;simp at hj;omega,h⟩) (fun i hi k hk=>?_) (hQ _ ⟨rfl,rfl⟩) trivial
  exact(hp.grow i (show i∈ [0,1,2,3,4]by simp;omega) k hk).imp (fun h=>⟨i,hi,h⟩) id
end Go.Proofs.YtbjlecpmgocoeaaGreatDoor
end
section
namespace Go.Proofs.YtbjlecpmgocoeaaGreatDoor
open Go Go.RowKit V
open Go.IntKind (i64 u32 u64)
theorem F7 {α:Type} {l:List α} {i:Nat} {d:α}(h:i<l.length):l.getD i d∈l:=by
 rw [List.getD_eq_getElem?_getD,List.getElem?_eq_getElem h]
 exact List.getElem_mem ..
namespace DB
theorem Ca(D:DB)(p o v q x:Int):(D.wr p o v).word q x=if(q=p∧x=o)∧D.has p=true∧Mem.cW o=true then v else D.word q x:=by
 show(D.mem.write true p o v).gD true q x=_
 unfold Mem.write
 by_cases h:D.mem.has true p && Mem.cW o
 ·rw [if_pos h]
  simp only [Bool.and_eq_true]at h
  have hp:=Mem.cQ h.1
  have ho:=Mem.fL h.2
  show(if(((D.mem.put true p.toNat o.toNat v).tick 1).has true q && Mem.cW x)=true then _ else _)=_
  rw [show((D.mem.put true p.toNat o.toNat v).tick 1).has true q=D.mem.has true q from rfl]
  by_cases hq:D.mem.has true q && Mem.cW x
  ·rw [if_pos hq]
   simp only [Bool.and_eq_true]at hq
   have hq1:=Mem.cQ hq.1
   have hx1:=Mem.fL hq.2
   have hw:D.word q x=D.mem.pg true q.toNat x.toNat:=by show D.mem.gD true q x=_;unfold Mem.gD;rw [if_pos (by simp [hq])]
   rw [hw]
   show(if(true=true∧q.toNat=p.toNat)then(if x.toNat=o.toNat then v else D.mem.pg true p.toNat x.toNat)else D.mem.pg true q.toNat x.toNat)=_
   have hh:D.has p=true:=h.1
   by_cases h1:q=p
   ·subst h1
    by_cases h2:x=o
    ·subst h2;rw [if_pos ⟨rfl,rfl⟩,if_pos rfl,if_pos ⟨⟨rfl,rfl⟩,hh,h.2⟩]
    ·rw [if_pos ⟨rfl,rfl⟩,if_neg (by omega),if_neg (fun h=>h2 h.1.2)]
   ·rw [if_neg (by omega),if_neg (fun h=>h1 h.1.1)]
  ·rw [if_neg hq]
   have hw:D.word q x=0:=by show D.mem.gD true q x=_;unfold Mem.gD;rw [if_neg hq]
   rw [hw,if_neg]
   rintro⟨⟨rfl,rfl⟩,h3,h4⟩
   exact hq (by simp [h])
 ·rw [if_neg h,if_neg]
  ·rfl
  ·rintro⟨_,h3,h4⟩
   exact h (by rw [show D.mem.has true p=D.has p from rfl,h3,h4];rfl)
theorem nq {D:DB} {c:Int}(h1:1≤c)(h2:c≤13)(h:∀c',1≤c'→c'<c→D.fN c'=true):D.eO (13 - c).toNat c=D.broken:=by
 obtain⟨n,rfl⟩:∃n:Nat,c=1+(n:Int):=⟨(c - 1).toNat,by omega⟩
 induction n with
 | zero=>rfl
 | succ n ih=>
  rw [← ih (by omega) (by omega) (fun c' a b=>h c' a (by omega)),show(13 - (1+(n:Int))).toNat=(13 - (1+((n+1:Nat):Int))).toNat+1 by omega]
  show _=if D.fN (1+(n:Int))then _ else _
  rw [if_pos (h _ (by omega) (by omega)),show 1+(n:Int)+1=1+((n+1:Nat):Int)by omega]
theorem DO {D:DB}(h:∀c,1≤c→c≤12→D.fN c=true):D.broken=(0,0):=by
 rw [← nq (c:=13) (by omega) (by omega) fun c a b=>h c a (by omega)];rfl
theorem DP {D:DB} {c p:Int}(hc:1≤c∧c≤12)(h:∀c',1≤c'→c'<c→D.fN c'=true)(hp:0≤p∧p<(D.S:Int))(hz:∀q,0≤q→q<p→D.clause c q=true)(hf:D.clause c p=false):D.broken=(c,p):=by
 have hz:eU (D.clause c) 0 p=true:=cf.2 hz
 rw [← nq (c:=c) hc.1 (by omega) h,show(13 - c).toNat=(12 - c).toNat+1 by omega,eO,fN,bT hp.1 hp.2 hf,leastN_eq hz hf hp.1 (by omega)]
 rfl
theorem wB(m:Mem):∀(k:Nat),k≤m.S→∀(p o:Nat),p<k→(m.bL k).pg true p o=0
 | 0,_,p,o,h=>by omega
 | k+1,hk,p,o,h=>by
  show((m.bL k).zero true k).pg true p o=0
  unfold Mem.zero
  rw [if_pos (by unfold Mem.has Mem.cnt;simp;omega)]
  show(if true=true∧p=(k:Int).toNat then 0 else(m.bL k).pg true p o)=0
  by_cases h1:p=k
  ·rw [if_pos (by simp [h1])]
  ·rw [if_neg (by simp;omega)]
   exact wB m k (by omega) p o (by omega)
theorem xq(m:Mem)(p o:Int):(DB.new m).word p o=0:=by
 show(m.bL m.S).gD true p o=0
 unfold Mem.gD
 split
 ·rename_i h
  simp only [Bool.and_eq_true]at h
  refine wB m m.S (Nat.le_refl _) _ _ ?_
  have:=Mem.dH h.1
  have e:(m.bL m.S).cnt true=m.S:=Mem.jI m m.S
  omega
 ·rfl
theorem JR(m:Mem)(p:Int):(DB.new m).at_ p=Ent.free:=rfl
theorem wz {D:DB} {p lo hi:Int}:D.zero p lo hi=true↔∀o,lo≤o→o<hi→D.word p o=0:=by
 unfold zero
 rw [cf]
 exact⟨fun h o a b=>by simpa using h o a b,fun h o a b=>by simpa using h o a b⟩
theorem Ak(m:Mem)(c p:Int)(hc:1≤c∧c≤12):(DB.new m).clause c p=true:=by
 unfold clause
 simp only [JR]
 split;rfl
 split
 ·rw [wz.2 fun o _ _=>xq m p o];rfl
 split;rfl
 split;rfl
 split;rfl
 split;rfl
 split;rfl
 split;rfl
 split;rfl
 split;rfl
 split;rfl
 rfl
theorem vG(n i:Int):(DB.begun n i).broken=(0,0):=DO fun c a b=>cf.2 fun p _ _=>Ak _ c p ⟨a,b⟩
theorem vw:((DB.begun 2 0).wr 1 5 9).broken=(2,1):=by
 have hS:((DB.begun 2 0).wr 1 5 9).S=3:=by
  refine(Mem.kb ..).trans ?_
  exact(DB.rf _).trans (show(sz 2).toNat=3 by decide)
 have h0:(DB.begun 2 0).has 1=true:=by unfold has;rw [show(DB.begun 2 0).S=3 from(DB.rf _).trans (show(sz 2).toNat=3 by decide)];rfl
 have ha:∀p,((DB.begun 2 0).wr 1 5 9).at_ p=Ent.free:=fun p=>rfl
 have h00:((DB.begun 2 0).wr 1 5 9).zero 0 0 1024=true:=wz.2 fun o _ _=>by rw [Ca,if_neg (fun h=>by have:=h.1.1;omega)];exact xq _ _ _
 have h10:((DB.begun 2 0).wr 1 5 9).zero 1 0 1024=false:=bT (x:=5) (by omega) (by omega) (by rw [Ca,if_pos ⟨⟨rfl,rfl⟩,h0,rfl⟩];rfl)
 refine DP ⟨by omega,by omega⟩ (fun c a b=>?_) (by rw [hS];omega) (fun q a b=>?_) ?_
 ·obtain rfl:c=1:=by omega
  exact cf.2 fun p _ _=>by rw [xZ,ha];rfl
 ·obtain rfl:q=0:=by omega
  rw [rJ,ha,h00,Bool.or_true]
 ·rw [rJ,ha,h10];rfl
end DB
end Go.Proofs.YtbjlecpmgocoeaaGreatDoor
end
section
set_option maxRecDepth 100000
set_option maxHeartbeats 1000000
namespace Go.Proofs.YtbjlecpmgocoeaaGreatDoor
open Go Go.RowKit V
open Go.IntKind (i64 u32 u64)
open Go.Proofs (Tryz.prog)
def fZ:List ByteArray:= [⟨#[97,32,115,112,97,99,101,32,111,119,110,115,32,105,116,115,101,108,102]⟩,⟨#[97,32,102,114,101,101,32,112,97,103,101,32,105,115,32,122,101,114,111]⟩,⟨#[97,110,32,111,119,110,101,114,32,105,115,32,97,32,115,112,97,99,101]⟩,⟨#[97,32,115,112,97,99,101,32,99,111,117,110,116,115,32,105,116,115,32,112,97,103,101,115]⟩,⟨#[98,105,114,116,104,115,32,97,114,101,32,117,110,108,105,107,101]⟩,⟨#[97,32,115,112,97,99,101,39,115,32,119,111,114,100,115,32,97,114,101,32,105,116,115,32,115,116,97,116,101,39,115]⟩,⟨#[97,32,115,112,97,99,101,32,104,97,115,32,111,110,101,32,102,105,114,115,116,32,116,97,98,108,101]⟩,⟨#[97,32,102,105,114,115,116,32,116,97,98,108,101,32,110,97,109,101,115,32,116,104,101,32,115,101,99,111,110,100,32,111,110,101,115]⟩,⟨#[97,32,115,101,99,111,110,100,32,116,97,98,108,101,32,109,97,112,115,32,119,104,97,116,32,105,116,32,109,97,121]⟩,⟨#[97,32,100,97,116,97,32,112,97,103,101,32,105,115,32,109,97,112,112,101,100,32,111,110,99,101]⟩,⟨#[97,32,116,104,114,101,97,100,32,105,115,32,119,104,111,108,101]⟩,⟨#[97,32,115,112,97,114,101,32,112,97,103,101,32,105,115,32,122,101,114,111]⟩]
def l6(l:List ByteArray)(n:Int):ByteArray:=if n<1∨n>12 then⟨#[]⟩else l.getD (n - 1).toNat ⟨#[]⟩
def lH:Ctr Un:=⟨[.one (.int .i64)],[],[],[],fun n K=>K ⟨(.string (l6 fZ n)),none,[],[],[]⟩⟩
def uI(n:Int)(Q:Ou Un→Prop):Prop:=
 ∃J:Bool→Prop,(
  split (decide (n<1)) (
   J true) (
   J (decide (n>12))))∧∀(_gv:Nat→Value)(x8:Bool),J x8→
 split x8 (
  Q ⟨(.string ⟨#[]⟩),none,[],[],[]⟩) (
  (0≤(i64.wrap (n - 1))∧(i64.wrap (n - 1))<(12:Int))∧
  ∃x12:ByteArray,(#[(.string ⟨#[97,32,115,112,97,99,101,32,111,119,110,115,32,105,116,115,101,108,102]⟩),(.string ⟨#[97,32,102,114,101,101,32,112,97,103,101,32,105,115,32,122,101,114,111]⟩),(.string ⟨#[97,110,32,111,119,110,101,114,32,105,115,32,97,32,115,112,97,99,101]⟩),(.string ⟨#[97,32,115,112,97,99,101,32,99,111,117,110,116,115,32,105,116,115,32,112,97,103,101,115]⟩),(.string ⟨#[98,105,114,116,104,115,32,97,114,101,32,117,110,108,105,107,101]⟩),(.string ⟨#[97,32,115,112,97,99,101,39,115,32,119,111,114,100,115,32,97,114,101,32,105,116,115,32,115,116,97,116,101,39,115]⟩),(.string ⟨#[97,32,115,112,97,99,101,32,104,97,115,32,111,110,101,32,102,105,114,115,116,32,116,97,98,108,101]⟩),(.string ⟨#[97,32,102,105,114,115,116,32,116,97,98,108,101,32,110,97,109,101,115,32,116,104,101,32,115,101,99,111,110,100,32,111,110,101,115]⟩),(.string ⟨#[97,32,115,101,99,111,110,100,32,116,97,98,108,101,32,109,97,112,115,32,119,104,97,116,32,105,116,32,109,97,121]⟩),(.string ⟨#[97,32,100,97,116,97,32,112,97,103,101,32,105,115,32,109,97,112,112,101,100,32,111,110,99,101]⟩),(.string ⟨#[97,32,116,104,114,101,97,100,32,105,115,32,119,104,111,108,101]⟩),(.string ⟨#[97,32,115,112,97,114,101,32,112,97,103,101,32,105,115,32,122,101,114,111]⟩)]:Array Value)[Int.toNat (i64.wrap (n - 1))*1]? =some (.string x12)∧
  Q ⟨(.string x12),none,[],[],[]⟩)
theorem Eh:Vc2 Un Tryz.prog (aN []) [] Tryz.f14 (.r' (.two (.two (.node [] (some ⟨[(8,(.one .bool))],[],upN 3 6,[]⟩) [] [] .leaf .leaf) .leaf) .leaf)) [] lH=(∀n,∀Q,(Q ⟨(.string (l6 fZ n)),none,[],[],[]⟩)→uI n Q):=by kernel_rfl
theorem Eg:LV Un Tryz.prog 14 lH:=verify Tryz.func14 aa (tb:= []) trivial (by kernel_rfl) (Eh.mpr fun n Q h=>by
 unfold uI
 refine⟨fun x=>x=(decide (n<1) || decide (n>12)),?_,?_⟩
 ·refine ab (fun c=>?_) (fun c=>?_)<;>simp [c]
 rintro _ _ rfl
 refine ab (fun c=>?_) (fun c=>?_)
 ·rw [l6,if_pos (by simpa using c)]at h;exact h
 have hn:1≤n∧n≤12:=by simp at c;omega
 refine⟨by rw [af (by omega)];omega,fZ.getD (n - 1).toNat ⟨#[]⟩,?_,?_⟩
 ·rw [af (by omega)]
  rcases(show n=1∨n=2∨n=3∨n=4∨n=5∨n=6∨n=7∨n=8∨n=9∨n=10∨n=11∨n=12 from by omega)with rfl | rfl | rfl | rfl | rfl | rfl | rfl | rfl | rfl | rfl | rfl | rfl<;>rfl
 ·rw [l6,if_neg (by omega)]at h;exact h)
def vM:Ctr Un:=⟨[.one (.int .i64)],[(0,9)],[.ob 9 []],[],fun n rs ls K=>ls.length=12∧K ⟨(.string (l6 ls n)),none,[],[],[]⟩⟩
theorem IA:LV Un Tryz.prog 13 vM:=by
 show ∀(n:Int)(rs:Nat→Nat)(ls:List ByteArray),∀Q:Ou Un→Prop,(ls.length=12∧Q ⟨(.string (l6 ls n)),none,[],[],[]⟩)→∀(X:Nat→Nat→Prop)(w:World),Sat (U:=Un) [(.ob 9 rs ls)] X w→aC (U:=Un) [(.ob 9 rs ls)] fr0 []→Calls Tryz.prog 13 #[(.int .i64 n)] w (aU (U:=Un) [(.ob 9 rs ls)] [] X w Q)
 intro n rs ls Q hQ X w hs hl
 obtain⟨hl12,hQ⟩:=hQ
 obtain⟨hX,T,hB⟩:=(hs.res 0 _ rfl:bp 9 rs ls (X 0) w)
 refine(yx n (R:=fun v w'=>v= .string (l6 ls n)∧w'=w) ?_).mono ?_
 ·refine⟨fun x wv=>x=(decide (n<1) || decide (n>12))∧wv=w,?_,?_⟩
  ·refine ab (fun c=>?_) (fun c=>?_)<;>simp [c]
  rintro _ _ wv ⟨rfl,rfl⟩
  refine ab (fun c=>?_) (fun c=>?_)
  ·rw [l6,if_pos (by simpa using c)];exact⟨rfl,rfl⟩
  have hn:1≤n∧n≤12:=by simp at c;omega
  refine⟨by rw [af (by omega)];omega,ls.getD (n - 1).toNat ⟨#[]⟩,?_,?_⟩
  ·rw [af (by omega),bw,Nat.zero_add,Nat.mul_one]
   refine hB.cell ?_
   have hlt:(n - 1).toNat<ls.length:=by omega
   simp [List.getD_eq_getElem?_getD]
   rw [List.getElem?_eq_getElem (by omega)]
   rfl
  ·rw [l6,if_neg (by omega)];exact⟨rfl,rfl⟩
 rintro e w' ⟨u,rfl,rfl,rfl⟩
 exact aU.pu hs (Ch.refl _ _) hQ trivial
def iJ:Ctr Un:=⟨[],[],[],[],fun K=>K ⟨(.bool true),none,[],[],[]⟩⟩
def BW(Q:Ou Un→Prop):Prop:=
 ∀(r:Nat→Nat)(s1:LSt),
 ((s1.R=s1.D∧s1.D=DB.begun 2 0))→
 ∀(s:LSt),s=s1→
 LSt.Ok s→
 Value.pointer (some (Addr.mk (LSt.pD s) 0 none))=(.pointer (some (Addr.mk (LSt.pD s) 0 none)))∧
 s.R=s.D∧
 (0≤(9:Int)∧(9:Int)<4294967296)∧
 ∀(s11:LSt),
 ((s11.R=s11.D∧s11.D=s.D.wr 1 5 9))→
 ∀(s2:LSt),s2=s11→
 LSt.Ok s2→
 Value.pointer (some (Addr.mk (LSt.pD s2) 0 none))=(.pointer (some (Addr.mk (LSt.pD s2) 0 none)))∧
 ∃J:Bool→Prop,(
  split (s.D.broken.1==0) (
   split (s2.D.broken.1==2) (
    J (s2.D.broken.2==1)) (
    J false)) (
   J false))∧∀(_gv:Nat→Value)(x0:Bool),J x0→
 Q ⟨(.bool x0),none,[],[],[]⟩
theorem BX:Vc2 Un Tryz.prog (aN [(9,iK),(7,iw),(8,mF)]) [] Tryz.f10 (.r' (.r' (.r' (.r' (.r' (.r' (.two (.node [] (some ⟨[(0,(.one .bool))],[],[0]++upN 27 10,[]⟩) [] [] .leaf .leaf) .leaf))))))) [] iJ=(∀Q,(iJ.body Q)→BW Q):=by kernel_rfl
theorem BV:LV Un Tryz.prog 10 iJ:=verify Tryz.func10 aa (tb:= [(9,iK),(7,iw),(8,mF)]) ⟨sC,r5,BU,trivial⟩ (by kernel_rfl) (BX.mpr fun Q h=>fun r s1 f1=>fun s h_s f2=>aj (by grind) fun s3=>aj (by grind) fun s4=>aj (by omega) fun s5=>fun s11 f6=>fun s2 h_s2 f7=>aj (by grind) fun s8=>aY (((s.D.broken.1:Int)==0) && (((s2.D.broken.1:Int)==2) && ((s2.D.broken.2:Int)==1))) (ab (fun c1=>ab (fun c2=>(by grind)) fun c2=>(by grind)) fun c1=>(by grind))<| aM h (by simp [h_s2,f6.2,h_s,f1.2,DB.vG,DB.vw]))
def lV:Ctr Un:=⟨[.one (.int .i64),.one (.int .i64),.one (.sl 0),.one (.int .i64)],[(1,5),(2,6),(3,9)],[.lst 5 false 42,.ob 5 [],.ob 6 [],.ob 9 []],[],fun pages insecure clause A c l rk kk rk2 kk2 rs ls K=>kk2=kk∧ls=fZ∧((∀x∈l,0≤x.v∧x.v<4294967296))∧l.length≤140737488355328∧K ⟨(.bool true),none,[],[],[]⟩⟩
def tr(pages:Int)(insecure:Int)(clause:Int)(A:Option Addr)(c:Nat)(l:List lL)(rk:Nat→Nat)(kk:List Int)(rk2:Nat→Nat)(kk2:List Int)(rs:Nat→Nat)(ls:List ByteArray)(Q:Ou Un→Prop):Prop:=
 ∀(r:Nat→Nat)(s1:LSt),
 ((s1.R=s1.D∧s1.D=DB.begun pages insecure))→
 ∀(s:LSt),s=s1→
 LSt.Ok s→
 ∃J:Bool→Prop,(
  J false)∧∀(_gv:Nat→Value)(x22:Bool),J x22→
 split x22 (
  Q ⟨(.bool false),none,[],[],[]⟩) (
  ∀i:Int,i=0→
  ∃I:Nat→Int→LSt→Prop,(∃m,I m i s)∧∀(m:Nat)(_gv1:Nat→Value)(i1:Int)(s4:LSt),I m i1 s4→
  LSt.Ok s4→
  split (decide (i1<(l.length:Int))) (
   ∃J1:Bool→LSt→Prop,(
    (0≤i1∧i1<(l.length:Int))∧
    s4.R=s4.D∧
    kk2=kk∧
    (0≤((l.getD i1.toNat (lL.mk 0 0 0 0 0 none 0 0)).v)∧((l.getD i1.toNat (lL.mk 0 0 0 0 0 none 0 0)).v)<4294967296)∧
    ∀(s11:LSt),
    ((s11.R=s11.D∧s11.D=s4.D.act kk ((l.getD i1.toNat (lL.mk 0 0 0 0 0 none 0 0)).k) ((l.getD i1.toNat (lL.mk 0 0 0 0 0 none 0 0)).a) ((l.getD i1.toNat (lL.mk 0 0 0 0 0 none 0 0)).b) ((l.getD i1.toNat (lL.mk 0 0 0 0 0 none 0 0)).c) ((l.getD i1.toNat (lL.mk 0 0 0 0 0 none 0 0)).v)))→
    ∀(s2:LSt),s2=s11→
    LSt.Ok s2→
    s2.R=s2.D∧
    J1 false s2)∧∀(_gv2:Nat→Value)(x41:Bool)(s41:LSt),J1 x41 s41→
   LSt.Ok s41→
   split x41 (
    Q ⟨(.bool false),none,[],[],[]⟩) (
    ∀i2:Int,i2=(i64.wrap (i1+1))→
    ∃m1,m1<m∧I m1 i2 s41)) (
   ∀c1:Int,c1=(-1)→
   ∃I1:Nat→Int→Prop,(∃m2,I1 m2 c1)∧∀(m2:Nat)(_gv2:Nat→Value)(c2:Int),I1 m2 c2→
   split (decide (c2≤13)) (
    ∃J1:Bool→Prop,(
     s4.R=s4.D∧
     ls.length=12∧
     J1 (!(((l6 ls c2):ByteArray).toList==((l6 fZ c2):ByteArray).toList)))∧∀(_gv3:Nat→Value)(x56:Bool),J1 x56→
    split x56 (
     Q ⟨(.bool false),none,[],[],[]⟩) (
     ∀c3:Int,c3=(i64.wrap (c2+1))→
     ∃m3,m3<m2∧I1 m3 c3)) (
    ls.length=12∧
    Q ⟨(.bool (((l6 ls clause):ByteArray).toList==((l6 fZ clause):ByteArray).toList)),none,[],[],[]⟩)))
theorem ts:Vc2 Un Tryz.prog (aN [(9,iK),(10,iJ),(11,sD),(12,jE),(13,vM),(14,lH)]) [10,11] Tryz.f4 (.r' (.r' (.two (.two (.node [] (some ⟨[(22,(.one .bool))],[],upN 15 8,[]⟩) [] [] .leaf .leaf) .leaf) (.two (.r' (.two (.node [] (some ⟨[(10,(.one (.int .i64)))],[],[8,10]++upN 23 19,[(4,(.ob 8))]⟩) [] [] (.r' (.two (.two (.two (.node [] (some ⟨[(41,(.one .bool))],[],upN 29 13,[(4,(.ob 8))]⟩) [] [] .leaf .leaf) .leaf) .leaf) .leaf)) .leaf) .leaf)) (.two (.r' (.two (.node [] (some ⟨[(11,(.one (.int .i64)))],[],[8,11]++upN 42 15,[]⟩) [] [] (.r' (.two (.two (.two (.node [] (some ⟨[(56,(.one .bool))],[],upN 46 11,[]⟩) [] [] .leaf .leaf) .leaf) .leaf) .leaf)) .leaf) .leaf)) .leaf))))) [] lV=(∀pages insecure clause A c (l:List lL) rk (kk:List Int) rk2 (kk2:List Int) rs (ls:List ByteArray),∀Q,(kk2=kk∧ls=fZ∧((∀x∈l,0≤x.v∧x.v<4294967296))∧l.length≤140737488355328∧Q ⟨(.bool true),none,[],[],[]⟩)→tr pages insecure clause A c l rk kk rk2 kk2 rs ls Q):=by kernel_rfl
theorem tq:LV Un Tryz.prog 4 lV:=verify Tryz.func4 aa (tb:= [(9,iK),(10,iJ),(11,sD),(12,jE),(13,vM),(14,lH)]) ⟨sC,BV,Hi,EL,IA,Eg,trivial⟩ (by kernel_rfl) (ts.mpr fun pages insecure clause A c l rk kk rk2 kk2 rs ls Q h=>by
 obtain⟨hp0,hp1,hp2,hp3,h⟩:=h
 exact fun r s1 f1=>fun s h_s f2=>aY false ((by grind))<| dS<| allEq<| ⟨fun m i1 s4=>(m=((l.length:Int) - i1).toNat)∧(0≤i1∧i1≤(l.length:Int))∧(s4.R=s4.D),⟨_,rfl,(by omega),(by grind)⟩,fun m _ i1 s4 ⟨hm,hi,hR⟩=>fun f3=>au (fun c1=>⟨fun x41 s41=>(x41=false)∧(s41.R=s41.D),aj (by omega) fun s4=>aj ‹_› fun s5=>aj ‹_› fun s6=>aj (hp2 _ (F7 (by omega))) fun s7=>fun s11 f8=>fun s2 h_s2 f9=>aj (by grind) fun s10=>⟨(by rfl),(by grind)⟩,fun _ x41 s41 ⟨hx,hs41⟩=>fun f11=>ab (fun c2=>aM h (by(simp_all;done))) fun c2=>allEq<| ⟨_,(by(have h8:=af (x:=i1+1) (by omega));omega),rfl,(by(have h8:=af (x:=i1+1) (by omega));omega),(hs41)⟩⟩) fun c1=>allEq<| ⟨fun m2 c2=>(m2=(14 - c2).toNat)∧(-1≤c2∧c2≤14),⟨_,rfl,(by omega)⟩,fun m2 _ c2 ⟨hm,hc2⟩=>au (fun c3=>aY (!(((l6 ls c2):ByteArray).toList==((l6 fZ c2):ByteArray).toList)) (aj ‹_› fun s12=>aj (by rw [hp1];rfl) fun s13=>(by grind))<| aQ (fun c4=>aM h (by(simp_all;done))) fun c4=>allEq<| ⟨_,(by(have h8:=af (x:=c2+1) (by omega));omega),rfl,(by(have h8:=af (x:=c2+1) (by omega));omega)⟩) fun c3=>aj (by rw [hp1];rfl) fun s14=>aM h (by(simp [hp1];done))⟩⟩)
end Go.Proofs.YtbjlecpmgocoeaaGreatDoor
end
section
namespace Go.Proofs.YtbjlecpmgocoeaaGreatDoor
open Go Go.RowKit V Go.ChangeShapes Go.WideShapes Go.ChangeAt
open Go.IntKind (i64 u32 u64)
open Enc (enc)
theorem H5:ownKnob Tryz.prog.godebug=none:=by kernel_rfl
theorem iU:laidOutB Tryz.prog=true:=by kernel_rfl
theorem H6:Tryz.prog.bytesOf 42=64:=by kernel_rfl
theorem JZ:Tryz.prog.cellsOf 42=6:=by kernel_rfl
theorem vr:Tryz.prog.cellsOf 3=1:=by kernel_rfl
theorem Ao:Tryz.prog.cellsOf 22=1:=by kernel_rfl
theorem JY:Tryz.prog.cellsOf 40=1:=by kernel_rfl
def Lt:DataW Unit→List Int
 | .agg l=>l.filterMap fun d=>match d with
  | .lit (.int _ x)=>some x
  | _=>none
 | _=>[]
def kR:List Int:=Lt Rows.laid_warden_sha_rounds
theorem H8:Rows.laid_warden_sha_rounds (H:=Unit)= .agg (kR.map fun x=>.lit (.int .u32 x)):=by kernel_rfl
theorem F2:Rows.laid_warden_wardenref02_K (H:=Unit)= .agg (kR.map fun x=>.lit (.int .u32 x)):=by kernel_rfl
theorem Ap:kR.length=64:=by kernel_rfl
theorem Dc:Rows.laid_warden_valid_says (H:=Unit)= .agg (fZ.map fun x=>.lit (.string x.data.toList)):=by kernel_rfl
theorem Cz:Tryz.prog.globalNamed "warden/sha.rounds" =some 1:=by kernel_rfl
theorem gK:Tryz.prog.globalNamed "warden/wardenref02.K" =some 2:=by kernel_rfl
theorem Jk:Tryz.prog.globalNamed "warden/valid.says" =some 0:=by kernel_rfl
theorem HX {W:World}(h:laidMetH Tryz.prog Rows.validAllRow.laid W):gF W 1 kR∧gF W 2 kR∧∃T,Blk W 0 ⟨fZ.map Value.string⟩ T:=by
 rw [MakeChecks.laidMetH_plain _ _ _ (by kernel_rfl)]at h
 obtain⟨ps,⟨g0,t0,cs0,f0,p0,q0,hg0,ht0,hv0,hd0,⟨g1,t1,cs1,f1,p1,q1,hg1,ht1,hv1,hd1,⟨g2,t2,cs2,f2,p2,q2,hg2,ht2,hv2,hd2,hq2,e2⟩,e1⟩,e0⟩,_,hc⟩:=h
 obtain rfl:=Option.some.inj (Cz.symm.trans hg0)
 obtain rfl:=Option.some.inj (gK.symm.trans hg1)
 obtain rfl:=Option.some.inj (Jk.symm.trans hg2)
 obtain rfl:=Option.some.inj ((show(Tryz.prog.globals[1]?).map (·.type)=some 194 by kernel_rfl).symm.trans ht0)
 obtain rfl:=Option.some.inj ((show(Tryz.prog.globals[2]?).map (·.type)=some 194 by kernel_rfl).symm.trans ht1)
 obtain rfl:=Option.some.inj ((show(Tryz.prog.globals[0]?).map (·.type)=some 91 by kernel_rfl).symm.trans ht2)
 rw [H8]at hd0
 rw [F2]at hd1
 rw [Dc]at hd2
 have c0:=tR Tryz.underlying194 Tryz.underlying22 Ao hd0 (by kernel_rfl)
 have c1:=tR Tryz.underlying194 Tryz.underlying22 Ao hd1 (by kernel_rfl)
 have c2:=Ds Tryz.underlying91 Tryz.underlying9 (by kernel_rfl) hd2 (by kernel_rfl)
 obtain⟨cs0⟩:=cs0
 obtain⟨cs1⟩:=cs1
 obtain⟨cs2⟩:=cs2
 simp only at c0 c1 c2
 subst c0 c1 c2
 have s0:∀x:Nat,MemPlace.row ⟨1,0,none⟩ (kR.map (Value.int .u32)).toArray.size ⊆ ps:=fun _=>by rw [e0];intro y hy;simp only [List.mem_append];exact .inl (.inl hy)
 have s1:MemPlace.row ⟨2,0,none⟩ (kR.map (Value.int .u32)).toArray.size ⊆ ps:=by rw [e0,e1];intro y hy;simp only [List.mem_append];exact .inr (.inl (.inl hy))
 have s2:MemPlace.row ⟨0,0,none⟩ (fZ.map Value.string).toArray.size ⊆ ps:=by rw [e0,e1,e2];intro y hy;simp only [List.mem_append];exact .inr (.inr (.inl (.inl hy)))
 have z0:0<(kR.map (Value.int .u32)).toArray.size:=by simp [Ap]
 have z2:0<(fZ.map Value.string).toArray.size:=by simp [fZ]
 exact⟨⟨Ap,qS Cz hv0 z0 (s0 0) hc⟩,⟨Ap,qS gK hv1 z0 s1 hc⟩,qS Jk hv2 z2 s2 hc⟩
theorem Gd(os:Os)(args:Array Value):laidMetH Tryz.prog Rows.validAllRow.laid ((World.doorLaid Tryz.prog 400 os).forCall (fun _ _=>0) ⟨#[],args,[]⟩).memory:=
 laidMetH_of_parts3 (fuel:=8) (laidMet_of_run' 8 (by kernel_rfl) (by kernel_rfl)) (by kernel_rfl) (by kernel_rfl)
set_option maxRecDepth 100000 in
theorem Am(os:Os)(started:os.Started)(H:Type)(enc:TypeId×Value→H):
 ReturnsInHanded {} Tryz.checked os 4 .any (fun w args=>(Rows.validAllSpec.pre enc Tryz.prog Tryz.f4 [] false w args∧laidMetH Tryz.prog Rows.validAllRow.laid w)∧sizedMet enc Tryz.prog Tryz.f4 (OpenSpec.ofChange Rows.validAllSpec) false w args)
  (Rows.validAllSpec.post enc Tryz.prog Tryz.f4 false true false false):=by
 refine returnsInHanded_of_change_and (C:=Tryz.checked) (X:=fun w _=>laidMetH Tryz.prog Rows.validAllRow.laid w) (fun _ _ _ hh h=>h.of_heap hh) H5 started (by kernel_rfl) Tryz.func4
  (ChangeSpec.witness_shaped (enc:=enc) (C:=Tryz.checked) (os:=os) (X:=fun w _=>laidMetH Tryz.prog Rows.validAllRow.laid w) false (World.doorLaid Tryz.prog 400 os) #[.int .i64 1,.int .i64 1,.slice none 0 0,.int .i64 1] 8 rfl (World.shaped_of_RefB (by kernel_rfl) (by kernel_rfl)) (by kernel_rfl) (by kernel_rfl) (by kernel_rfl) (Gd os _)) ?_
 intro W base args ds gs before hval0 hW _ hsz0 hL _
 have hsz:(DataW.weightsEach Tryz.prog (Tryz.f4.params.toList++Rows.validAllSpec.plain.varTypes Tryz.prog) (ds++gs)).all (· ≤reachBytes)=true:=hsz0
 clear hsz0
 have hval:∀(j:Nat) t v,Tryz.f4.params[j]? =some t→args[j]? =some v→Value.okWide Tryz.prog W .any base t v:=hval0
 have hW':=hW
 obtain⟨p,q,hA0,hV,rfl,_,_⟩:=hW
 have hA:DataW.TrodAll enc Tryz.prog W 0 (fun _=>true) true Tryz.f4.params.toList args.toList ds p:=hA0
 rw [Tryz.params4]at hA hval hsz
 obtain⟨v0,v1,v2,v3,d0,d1,d2,d3,p0,p1,p2,p3,rfl,rfl,rfl,h0,h1,h2,h3⟩:=trodAll_four hA
 obtain⟨rfl,rfl⟩:=trodVars_none hV
 obtain⟨x0,rfl,rfl,rfl,_⟩:=open_int Tryz.underlying3 (hval 0 3 v0 rfl rfl) h0
 obtain⟨x1,rfl,rfl,rfl,_⟩:=open_int Tryz.underlying3 (hval 1 3 v1 rfl rfl) h1
 obtain⟨x3,rfl,rfl,rfl,_⟩:=open_int Tryz.underlying3 (hval 3 3 v3 rfl rfl) h3
 obtain⟨A,n,c,l,rfl,hr,hw,hfst,hs⟩:=Dt Tryz.underlying36 Tryz.underlying42 JZ ⟨rfl,rfl,rfl,rfl,rfl,rfl⟩ ⟨vr,vr,vr,vr,Ao,JY⟩ Tryz.underlying3 Tryz.underlying3 Tryz.underlying3 Tryz.underlying3 Tryz.underlying22 Tryz.underlying40 (hval 2 36 v2 rfl rfl) h2
 clear hA0 hval0
 simp only [List.append_nil,List.nil_append]at hW'
 have hlt:∀x∈p2,x.block<W.heap.size:=fun x hx=>by simpa using hW'.lt x hx
 have hnl:=hr.len
 subst hnl
 have b0:c*64≤140737488351232:=by
  rcases hs with rfl | ⟨el,sp,rfl,hlen⟩
  ·omega
  ·have:=sized_slice hsz (j:=2) (t:=36) (e:=42) rfl rfl Tryz.underlying36
   rw [H6,hlen]at this
   simpa [reachBytes]using this
 obtain⟨hR1,hR2,T0,hB0⟩:=HX hL
 have ne:∀g cs T,(∀v∈cs.toList,∀x,v≠ .int .i64 x)→Blk W g cs T→¬(0<l.length∧∃p,A=some p∧g=p.block):=fun g cs T hcs hb ⟨h0,p,hp,hg⟩=>by
  obtain⟨x,hx⟩:=hfst p hp h0
  exact hcs _ (cell_of hb (by rw [V.block_add];exact hg.symm) hx) x rfl
 have n1:∀g,(∃T,Blk W g (aZ kR) T)→¬(0<l.length∧∃p,A=some p∧g=p.block):=fun g ⟨T,hb⟩=>ne g _ T (fun v hv x e=>by
  subst e
  have hv:Value.int .i64 x∈kR.map (Value.int .u32):=hv
  obtain⟨y,_,hy⟩:=List.mem_map.1 hv
  cases hy) hb
 have n0:¬(0<l.length∧∃p,A=some p∧0=p.block):=ne 0 _ T0 (fun v hv x e=>by
  subst e
  have hv:Value.int .i64 x∈fZ.map Value.string:=hv
  obtain⟨y,_,hy⟩:=List.mem_map.1 hv
  cases hy) hB0
 let X:Nat→Nat→Prop:=fun i=>if i=0 then fun k=>0<l.length∧∃p,A=some p∧k=p.block else if i=1 then fun k=>k=1 else if i=2 then fun k=>k=2 else fun k=>k=0
 have hsat:Sat (U:=Un) [.lst 5 false 42 A c l,.ob 5 (fun _=>0) kR,.ob 6 (fun _=>0) kR,.ob 9 (fun _=>0) fZ] X W:=⟨fun i r hr2=>by
  match i with
  | 0=>simp only [nth,Option.some.injEq]at hr2;subst hr2;exact hr
  | 1=>simp only [nth,Option.some.injEq]at hr2;subst hr2;exact(⟨fun k=>⟨fun h=>h,fun h=>h⟩,hR1⟩:(∀k,k=1↔X 1 k)∧gF W 1 kR)
  | 2=>simp only [nth,Option.some.injEq]at hr2;subst hr2;exact(⟨fun k=>⟨fun h=>h,fun h=>h⟩,hR2⟩:(∀k,k=2↔X 2 k)∧gF W 2 kR)
  | 3=>simp only [nth,Option.some.injEq]at hr2;subst hr2;exact(⟨fun k=>⟨fun h=>h,fun h=>h⟩,T0,hB0⟩:(∀k,k=0↔X 3 k)∧∃T,Blk W 0 ⟨fZ.map Value.string⟩ T)
  | i+4=>simp [nth]at hr2,fun i j hi hj hij k k1 k2=>by
  have hi:i<4:=hi
  have hj:j<4:=hj
  have a0:∀k,X 1 k→k=1:=fun _ h=>h
  have a1:∀k,X 2 k→k=2:=fun _ h=>h
  have a2:∀k,X 3 k→k=0:=fun _ h=>h
  have m1:¬X 0 1:=n1 1 hR1.blk
  have m2:¬X 0 2:=n1 2 hR2.blk
  have m0:¬X 0 0:=n0
  match i,hi,j,hj with
  | 0,_,0,_ | 1,_,1,_ | 2,_,2,_ | 3,_,3,_=>exact hij rfl
  | 0,_,1,_=>rw [a0 k k2]at k1;exact m1 k1
  | 0,_,2,_=>rw [a1 k k2]at k1;exact m2 k1
  | 0,_,3,_=>rw [a2 k k2]at k1;exact m0 k1
  | 1,_,0,_=>rw [a0 k k1]at k2;exact m1 k2
  | 2,_,0,_=>rw [a1 k k1]at k2;exact m2 k2
  | 3,_,0,_=>rw [a2 k k1]at k2;exact m0 k2
  | 1,_,2,_=>have:=a0 k k1;have:=a1 k k2;omega
  | 1,_,3,_=>have:=a0 k k1;have:=a2 k k2;omega
  | 2,_,1,_=>have:=a1 k k1;have:=a0 k k2;omega
  | 2,_,3,_=>have:=a1 k k1;have:=a2 k k2;omega
  | 3,_,1,_=>have:=a2 k k1;have:=a0 k k2;omega
  | 3,_,2,_=>have:=a2 k k1;have:=a1 k k2;omega⟩
 have hcap:l.length≤c:=hr.cap
 have hll:l.length≤140737488355328:=by omega
 refine(tq x0 x1 x3 A c l (fun _=>0) kR (fun _=>0) kR (fun _=>0) fZ (fun o=>o=_) ⟨rfl,rfl,hw,hll,rfl⟩ X W hsat (fun _ _ h=>by cases h)).mono ?_
 rintro e W' ⟨out,rs',X',rfl,rfl,happ,hp⟩
 have hpu:Pu W W':=hp.ch.mono fun k ⟨j,hj,_⟩=>by cases hj
 have hn:Below W.heap.size W W':=⟨hpu.kept.os,hpu.kept.tape,hpu.kept.output,hpu.kept.size,fun k hk=>hpu.kept.block k ⟨hk,fun h=>h⟩⟩
 refine⟨_,rfl,_,_,_,[],p2,[],hW',trodAll_mk1 (shut_bool Tryz.underlying4 _),?_,rfl,hn.frame _,fun h=>by cases h⟩
 have:=trodAll_mk4 (Below.trod iU (by kernel_rfl) (of_decide_eq_true (by kernel_rfl)) h0 hn (fun x hx=>by cases hx))
  (Below.trod iU (by kernel_rfl) (of_decide_eq_true (by kernel_rfl)) h1 hn (fun x hx=>by cases hx))
  (Below.trod iU (by kernel_rfl) (of_decide_eq_true (by kernel_rfl)) h2 hn hlt)
  (Below.trod iU (by kernel_rfl) (of_decide_eq_true (by kernel_rfl)) h3 hn (fun x hx=>by cases hx))
 simp only [List.nil_append,List.append_nil]at this
 exact this
theorem u6:Rows.ValidAllSaid:=
 OpenClaim.holds_of_wide 4 Tryz.f4 rfl rfl rfl rfl rfl rfl rfl ⟨rfl,rfl,rfl,rfl,rfl⟩ rfl rfl rfl rfl rfl (by kernel_rfl) Tryz.func4 (by kernel_rfl)
  (of_decide_eq_true (by kernel_rfl)) (by unfold Func.isWrapper;(rw [if_neg (by decide+kernel)];exact⟨rfl,rfl⟩))
  (fun os started H enc _=>Am os started H enc)
end Go.Proofs.YtbjlecpmgocoeaaGreatDoor
end
section
namespace Go.Proofs.YtbjlecpmgocoeaaGreatDoor
open Go
theorem validAll_card:Rows.ValidAllCardSaid:=
 Claim7.holds_tied_plain_at .later [] [.data,.data,.data] true (true, "f058b0afc36d443aecdccf341377bd94eca7772ab4271b0ca8f2561e00fa4153") false
  u6 (fun _ h=>by cases h) (by kernel_rfl) (fun _ h=>by cases h) validAll_row_tie rfl ⟨rfl,rfl⟩ (by kernel_rfl) rfl
  (fun f fn hf hfn=>by
   obtain rfl:f=4:=Option.some.inj ((show Tryz.prog.funcNamed "warden/wardenlaw13.ValidAll" =some 4 by kernel_rfl).symm.trans hf) |>.symm
   obtain rfl:fn=Tryz.f4:=(Option.some.inj (Tryz.func4.symm.trans hfn)).symm
   exact⟨by kernel_rfl,fun j t ht=>by
    rw [Tryz.params4]at ht
    have h3:t=3∨t=36:=by
     rcases j with _ | _ | _ | _ | j
     ·left;simpa using ht.symm
     ·left;simpa using ht.symm
     ·right;simpa using ht.symm
     ·left;simpa using ht.symm
     ·simp at ht
    rcases h3 with rfl | rfl
    ·exact(show Tryz.prog.wantsStandIn 3=false by kernel_rfl)
    ·exact(show Tryz.prog.wantsStandIn 36=false by kernel_rfl)⟩)
  (by kernel_rfl)
#print axioms validAll_card
end Go.Proofs.YtbjlecpmgocoeaaGreatDoor
end
