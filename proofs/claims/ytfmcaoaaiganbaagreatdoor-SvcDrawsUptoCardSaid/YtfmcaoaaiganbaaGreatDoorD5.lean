/- SvcDraws returns true for every input of bulk at most 1048576; each argument reads behind the call as it read before. -/
import Derived.Test.YtfmcaoaaiganbaaGreatDoorD4
import Derived.KernelRfl
import Derived.Test.YtfmcaoaaiganbaaGreatDoorRows
import Derived.LaidHandle
import Derived.LaidLaws
import Derived.Carry
import Derived.JoinedCond
import Derived.SizedLaws
import Derived.Test.YtfmcaoaaiganbaaGreatDoorTie
import Derived.Test.YtfmcaoaaiganbaaGreatDoorCards
import Derived.SevenTiedAt
set_option linter.unusedVariables false
set_option linter.unusedSimpArgs false
namespace Go.Proofs.YtfmcaoaaiganbaaGreatDoor
open Go.Proofs.Tryz (prog)
open Go Go.RowKit V
open Go.IntKind (i64 u32 u64)
section
set_option maxRecDepth 100000
set_option maxHeartbeats 1000000
attribute [local irreducible] Vc2 VcD
def cK:Ctr Un:=⟨[.one (.int .i64)],[],[],[],fun n K=>K ⟨(.int .i64 n),none,[],[],[]⟩⟩
def Cw(n:Int)(Q:Ou Un→Prop):Prop:=
 Q ⟨(.int .i64 n),none,[],[],[]⟩
theorem Cx:Vc2 Un prog (aN []) [] Tryz.f34 .leaf [] cK=(∀n,∀Q,(cK.body n Q)→Cw n Q):=by kernel_rfl
theorem kV:LV Un prog 34 cK:=verify Tryz.func34 aa (tb:= []) trivial (by kernel_rfl) (Cx.mpr fun n Q h=>h)
def cJ:Ctr Un:=⟨[.one (.int .i64)],[],[],[],fun p K=>K ⟨(.agg #[(.bool true),(.int .i64 p)]),none,[],[],[]⟩⟩
def uX(p:Int)(Q:Ou Un→Prop):Prop:=
 ∀(gv:Nat),
 Q ⟨(.agg #[(.bool true),(.int .i64 p)]),none,[],[],[]⟩
theorem uY:Vc2 Un prog (aN []) [] Tryz.f21 .leaf [] cJ=(∀p,∀Q,(cJ.body p Q)→uX p Q):=by kernel_rfl
theorem ml:LV Un prog 21 cJ:=verify Tryz.func21 aa (tb:= []) trivial (by kernel_rfl) (uY.mpr fun p Q h gv=>h)
def gH:Ctr Un:=⟨[.one (.int .i64)],[],[],[],fun n K=>K ⟨(.int .i64 (sz n)),none,[],[],[]⟩⟩
def zN(n:Int)(Q:Ou Un→Prop):Prop:=
 Q ⟨(.int .i64 (i64.wrap (((i64.wrap ((n.tmod 8)+8)).tmod 8)+1))),none,[],[],[]⟩
theorem zO:Vc2 Un prog (aN []) [] Tryz.f36 .leaf [] gH=(∀n,∀Q,(gH.body n Q)→zN n Q):=by kernel_rfl
theorem zM:LV Un prog 36 gH:=verify Tryz.func36 aa (tb:= []) trivial (by kernel_rfl) (zO.mpr fun n Q h=>dN h (by have h1:=Int.lt_tmod_of_pos n (show(0:Int)<8 by decide);have h2:=Int.tmod_lt_of_pos n (show(0:Int)<8 by decide);have h3:=Int.tmod_lt_of_pos (Int.tmod n 8+8) (show(0:Int)<8 by decide);have h4:=Int.tmod_nonneg (a:=Int.tmod n 8+8) 8 (by omega);unfold sz;rw [ah (x:=Int.tmod n 8+8) (by omega),ah (by omega)]))
def dx:Ctr Un:=⟨[.one (.ptr 0),.one (.int .i64),.one (.int .i64),.one (.int .u32)],[],[.blk [.obj 2 0,.obj 1 0,.obj 3 0] 57,.ob 1 [(1,2,0)],.ob 0 [],.ob 3 [(1,4,0)],.ob 2 []],[2,4],fun p off v g r E rm m r2 F LL m2 K=>(0≤(v:Int)∧(v:Int)<4294967296)∧K ⟨(.bool (decide (m.err true p off=m2.err true p off))),none,[.ob 0 (m.write true p off v),.ob 2 (m2.write true p off v)],[],[]⟩⟩
def wx(p:Int)(off:Int)(v:Int)(g:Nat)(r:Nat→Nat)(E:Pd)(rm:Nat→Nat)(m:Mem)(r2:Nat→Nat)(F:Pd)(LL:Nat→Nat)(m2:Mem)(Q:Ou Un→Prop):Prop:=
 Pd.Ok E→
 Mem.Wf m→
 Pd.Ok F→
 Mem.Wf m2→
 (0≤v∧v<4294967296)∧
 ∀(m1:Mem),m1=(m.write true p off v)→
 Mem.Wf m1→
 (0≤v∧v<4294967296)∧
 ∀(m3:Mem),m3=(m2.write true p off v)→
 Mem.Wf m3→
 Q ⟨(.bool ((m.err true p off)==(m2.err true p off))),none,[.ob 0 m1,.ob 2 m3],[],[]⟩
theorem wy:Vc2 Un prog (aN [(21,cJ),(22,fx),(55,fv),(34,cK)]) [] Tryz.f52 (.r' (.two (.node [] none [] [(3,[0])] .leaf .leaf) .leaf)) [] dx=(∀p off v g r (E:Pd) rm (m:Mem) r2 (F:Pd) LL (m2:Mem),∀Q,(dx.body p off v g r E rm m r2 F LL m2 Q)→wx p off v g r E rm m r2 F LL m2 Q):=by kernel_rfl
theorem oJ:LV Un prog 52 dx:=verify Tryz.func52 aa (tb:= [(21,cJ),(22,fx),(55,fv),(34,cK)]) ⟨ml,oH,oD,kV,trivial⟩ (by kernel_rfl) (wy.mpr fun p off v g r E rm m r2 F LL m2 Q h=>by
 obtain⟨Hw,h⟩:=h
 exact fun f1 f2 f3 f4=>af ‹_› fun s5 m1 Hq f6=>af ‹_› fun s7 m3 Hy f8=>aF h (eQb (by grind)) (ab (uO0 (by grind)) (ab (uO2 (by grind)) rfl)) rfl)
def fy:Ctr Un:=⟨[.one (.int .i64),.one (.int .i64)],[],[],[],fun n i K=>∀(g:Nat)(rP:Nat→Nat)(rN:Nat→Nat)(rQ:Nat→Nat)(rM:Nat→Nat),K ⟨(.pointer (some (Addr.mk g 0 none))),(some (.p (.loc 0 0))),[],[(.blk g [(.pointer (some (Addr.mk (rN 0) 0 none))),(.pointer (some (Addr.mk (rP 0) 0 none))),(.pointer (some (Addr.mk (rQ 0) 0 none)))] 57),(.ob 1 rP ((DB.begun n i).pd)),(.ob 0 rN ((DB.begun n i).mem)),(.ob 3 rQ ((DB.begun n i).pd)),(.ob 2 rM ((DB.begun n i).mem))],[(.c 0 0,.p (.obj 2 0 0)),(.c 0 1,.p (.obj 1 0 0)),(.c 0 2,.p (.obj 3 0 0)),(.l 3 1,.p (.obj 4 0 0)),(.l 1 1,.p (.obj 2 0 0))]⟩⟩
def wB(n:Int)(i:Int)(Q:Ou Un→Prop):Prop:=
 ((1≤(sz n)∧(sz n)≤64)∧(1≤(sz i)∧(sz i)≤64))∧
 ∀(rN:Nat→Nat),
 ∀(m:Mem),m=(Mem.fresh (sz n).toNat (sz i).toNat)→
 Mem.Wf m→
 ∃J:Bool→Prop,(
  J false)∧∀(Ic:Nat→Value)(Ln:Bool),J Ln→
 split Ln (
  Q ⟨(.pointer none),none,[],[],[]⟩) (
  1≤m.S∧
  ∀(M9:Nat→Nat),
  ∀(m1:Mem),m1=(m.bx m.S)→
  Mem.Wf m1→
  ∀(E:Pd),E=(DB.new m).pd→
  Pd.Ok E→
  ((1≤(sz n)∧(sz n)≤64)∧(1≤(sz i)∧(sz i)≤64))∧
  ∀(Sp:Nat→Nat),
  ∀(m2:Mem),m2=(Mem.fresh (sz n).toNat (sz i).toNat)→
  Mem.Wf m2→
  1≤m2.S∧
  ∀(Oh:Nat→Nat),
  ∀(m3:Mem),m3=(m2.bx m2.S)→
  Mem.Wf m3→
  ∀(E1:Pd),E1=(DB.new m2).pd→
  Pd.Ok E1→
  (some (.pointer (some (Addr.mk (rN 0) 0 none))):Option Value)=some (.pointer (some (Addr.mk (rN 0) 0 none)))∧
  (some (.pointer (some (Addr.mk (M9 0) 0 none))):Option Value)=some (.pointer (some (Addr.mk (M9 0) 0 none)))∧
  (some (.pointer (some (Addr.mk (Oh 0) 0 none))):Option Value)=some (.pointer (some (Addr.mk (Oh 0) 0 none)))∧
  ∀(Hm:Nat),
  Q ⟨(.pointer (some (Addr.mk Hm 0 none))),(some (.p (.loc 0 0))),[],[(.blk Hm [(.pointer (some (Addr.mk (rN 0) 0 none))),(.pointer (some (Addr.mk (M9 0) 0 none))),(.pointer (some (Addr.mk (Oh 0) 0 none)))] 57),(.ob 1 M9 E),(.ob 0 rN m1),(.ob 3 Oh E1),(.ob 2 Sp m3)],[(.c 0 0,.p (.obj 2 0 0)),(.c 0 1,.p (.obj 1 0 0)),(.c 0 2,.p (.obj 3 0 0)),(.l 3 1,.p (.obj 4 0 0)),(.l 1 1,.p (.obj 2 0 0))]⟩)
theorem wD:Vc2 Un prog (aN [(36,gH),(35,wo),(34,cK),(37,wK),(38,oG),(39,oA)]) [] Tryz.f7 (.r' (.r' (.two (.two (.node [] (some ⟨[(24,(.one .bool))],[],upN 18 7,[]⟩) [] [] .leaf .leaf) .leaf) .leaf))) [1000000,4,1,0,3,2] fy=(∀n i,∀Q,(fy.body n i Q)→wB n i Q):=by kernel_rfl
theorem wz:LV Un prog 7 fy:=verify Tryz.func7 aa (tb:= [(36,gH),(35,wo),(34,cK),(37,wK),(38,oG),(39,oA)]) ⟨zM,FL,kV,FO,Cg,Cf,trivial⟩ (by kernel_rfl) (wD.mpr fun n i Q h=>by
 have RD:=Aj n
 have Sr:=Aj i
 exact af (by omega) fun s1 rN m Oz f2=>bB false ((by grind))<| gR<| af (by subst_vars;show 1≤(sz n).toNat;omega) fun s3 M9 m1 Hq f4 E OA f5=>af (by omega) fun s6 Sp m2 KZ f7=>af (by subst_vars;show 1≤(sz n).toNat;omega) fun s8 Oh m3 Hy f9 E1 HD f10=>af (by rfl) fun JN=>af (by rfl) fun Mj=>af (by rfl) fun LK Hm=>aF (h Hm M9 rN Oh Sp) rfl rfl (ab (congrArg (fun l=>Res.blk (U:=Un) _ l _) rfl) (ab (rO1 (by subst_vars;rfl)) (ab (rO0 (by subst_vars;rfl)) (ab (rO3 (by subst_vars;rfl)) (ab (rO2 (by subst_vars;rfl)) rfl))))))
def iV:Ctr Un:=⟨[.one (.ptr 0),.agg [.int .i64,.int .i64,.int .i64,.int .i64,.int .u32,.any]],[],[.blk [.obj 2 0,.obj 1 0,.obj 3 0] 57,.ob 1 [(1,2,0)],.ob 0 [],.ob 3 [(1,4,0)],.ob 2 []],[1,2,3,4],fun k a b c v ws g r E rm m r2 F LL m2 K=>(k=1∨k=2∨k=5∨k=7)∧E.n=m.S∧E=F∧m=m2∧(0≤(v:Int)∧(v:Int)<4294967296)∧1≤m.S∧K ⟨(.bool true),none,[.ob 1 (((E.on m).act k a b c v).pd),.ob 0 (((E.on m).act k a b c v).mem),.ob 3 (((E.on m).act k a b c v).pd),.ob 2 (((E.on m).act k a b c v).mem)],[],[]⟩⟩
def Cz(k:Int)(a:Int)(b:Int)(c:Int)(v:Int)(ws:Value)(g:Nat)(r:Nat→Nat)(E:Pd)(rm:Nat→Nat)(m:Mem)(r2:Nat→Nat)(F:Pd)(LL:Nat→Nat)(m2:Mem)(Q:Ou Un→Prop):Prop:=
 Pd.Ok E→
 Mem.Wf m→
 Pd.Ok F→
 Mem.Wf m2→
 ∀(gv:Nat),
 ∀x7:Bool,x7=((k:Int)==1)→
 split x7 (
  E.n=m.S∧
  ∀(E1:Pd),E1=((E.on m).aw a b).pd→
  Pd.Ok E1→
  ∀(m1:Mem),m1=((E.on m).aw a b).mem→
  Mem.Wf m1→
  F.n=m2.S∧
  ∀(E2:Pd),E2=((F.on m2).aw a b).pd→
  Pd.Ok E2→
  ∀(m3:Mem),m3=((F.on m2).aw a b).mem→
  Mem.Wf m3→
  Q ⟨(.bool (((E.on m).aI a b)==((F.on m2).aI a b))),none,[.ob 1 E1,.ob 0 m1,.ob 3 E2,.ob 2 m3],[],[]⟩) (
  ∀Lk:Bool,Lk=((k:Int)==2)→
  split Lk (
   E.n=m.S∧
   ∀(E1:Pd),E1=((E.on m).take a b c).pd→
   Pd.Ok E1→
   ∀(m1:Mem),m1=((E.on m).take a b c).mem→
   Mem.Wf m1→
   F.n=m2.S∧
   ∀(E2:Pd),E2=((F.on m2).take a b c).pd→
   Pd.Ok E2→
   ∀(m3:Mem),m3=((F.on m2).take a b c).mem→
   Mem.Wf m3→
   Q ⟨(.bool (((E.on m).bJ a b c)==((F.on m2).bJ a b c))),none,[.ob 1 E1,.ob 0 m1,.ob 3 E2,.ob 2 m3],[],[]⟩) (
   ∀M4:Bool,M4=((k:Int)==3)→
   split M4 (
    False) (
    ∀OG:Bool,OG=((k:Int)==4)→
    split OG (
     False) (
     ∀x95:Bool,x95=((k:Int)==5)→
     split x95 (
      E.n=m.S∧
      ∀(E1:Pd),E1=((E.on m).setState a b).pd→
      Pd.Ok E1→
      ∀(m1:Mem),m1=((E.on m).setState a b).mem→
      Mem.Wf m1→
      F.n=m2.S∧
      ∀(E2:Pd),E2=((F.on m2).setState a b).pd→
      Pd.Ok E2→
      ∀(m3:Mem),m3=((F.on m2).setState a b).mem→
      Mem.Wf m3→
      Q ⟨(.bool (((E.on m).aT a b)==((F.on m2).aT a b))),none,[.ob 1 E1,.ob 0 m1,.ob 3 E2,.ob 2 m3],[],[]⟩) (
      ∀Qn:Bool,Qn=((k:Int)==6)→
      split Qn (
       False) (
       ∀Qj:Bool,Qj=((k:Int)==7)→
       split Qj (
        (0≤v∧v<4294967296)∧
        ∀(m1:Mem),m1=(m.write true a b v)→
        Mem.Wf m1→
        ∀(m3:Mem),m3=(m2.write true a b v)→
        Mem.Wf m3→
        Q ⟨(.bool (decide (m.err true a b=m2.err true a b))),none,[.ob 1 E,.ob 0 m1,.ob 3 F,.ob 2 m3],[],[]⟩) (
        ∀Qd:Bool,Qd=((k:Int)==8)→
        split Qd (
         False) (
         ∀Qc:Bool,Qc=((k:Int)==9)→
         split Qc (
          False) (
          Q ⟨(.bool true),none,[.ob 1 E,.ob 0 m,.ob 3 F,.ob 2 m2],[],[]⟩)))))))))
theorem CA:Vc2 Un prog (aN [(40,hH),(34,cK),(41,cI),(42,r9),(43,gG),(48,iZ),(49,cZ),(52,dx)]) [7,29,55,77,95,117,143,153,158] Tryz.f9 (.r' (.two (.r' (.two (.r' (.two (.two (.node [] none [] [(3,[0]),(5,[5]),(7,[5]),(13,[0]),(15,[5]),(17,[5])] .leaf .leaf) .leaf) (.r' (.two (.two (.node [] none [] [(3,[0]),(5,[5]),(7,[5]),(9,[5]),(15,[0]),(17,[5]),(19,[5]),(21,[5])] .leaf .leaf) .leaf) (.r' (.two (.two (.node [] none [] [(3,[0]),(5,[5]),(7,[5]),(13,[0]),(15,[5]),(17,[5])] .leaf .leaf) .leaf) (.r' (.two (.two (.node [] none [] [(3,[0]),(5,[5]),(11,[0]),(13,[5])] .leaf .leaf) .leaf) (.r' (.two (.two (.node [] none [] [(3,[0]),(5,[5]),(7,[5]),(13,[0]),(15,[5]),(17,[5])] .leaf .leaf) .leaf) (.r' (.two (.two (.node [] none [] [(3,[0]),(5,[5]),(7,[5]),(15,[0]),(17,[5]),(19,[5])] .leaf .leaf) .leaf) .leaf)))))))))))) .leaf)) .leaf)) [] iV=(∀k a b c v ws g r (E:Pd) rm (m:Mem) r2 (F:Pd) LL (m2:Mem),∀Q,(iV.body k a b c v ws g r E rm m r2 F LL m2 Q)→Cz k a b c v ws g r E rm m r2 F LL m2 Q):=by kernel_rfl
theorem Cy:LV Un prog 9 iV:=verify Tryz.func9 aa (tb:= [(40,hH),(34,cK),(41,cI),(42,r9),(43,gG),(48,iZ),(49,cZ),(52,dx)]) ⟨sa,kV,ox,Eb,zA,u7,o4,oJ,trivial⟩ (by kernel_rfl) (CA.mpr fun k a b c v ws g r E rm m r2 F LL m2 Q h=>by
 obtain⟨Hw,HB,HH,hp3,hp4,hp5,h⟩:=h
 subst HH
 subst hp3
 exact fun f1 f2 f3 f4 gv=>allEq<| aC (fun c1=>af ‹_› fun s5 E1 HD f6 m1 Hq f7=>af ‹_› fun s8 E2 HJ f9 m3 Hy f10=>aF h (eQb (by(simp [c1,HD,Hq,HJ,Hy,DB.act];done))) (ab (uO1 (by(simp [c1,HD,Hq,HJ,Hy,DB.act];done))) (ab (uO0 (by(simp [c1,HD,Hq,HJ,Hy,DB.act];done))) (ab (uO3 (by(simp [c1,HD,Hq,HJ,Hy,DB.act];done))) (ab (uO2 (by(simp [c1,HD,Hq,HJ,Hy,DB.act];done))) rfl)))) rfl) fun c1=>allEq<| aC (fun c2=>af ‹_› fun JN E1 HD f12 m1 Hq f13=>af ‹_› fun Mi E2 HJ f15 m3 Hy f16=>aF h (eQb (by(simp [c1,c2,HD,Hq,HJ,Hy,DB.act];done))) (ab (uO1 (by(simp [c1,c2,HD,Hq,HJ,Hy,DB.act];done))) (ab (uO0 (by(simp [c1,c2,HD,Hq,HJ,Hy,DB.act];done))) (ab (uO3 (by(simp [c1,c2,HD,Hq,HJ,Hy,DB.act];done))) (ab (uO2 (by(simp [c1,c2,HD,Hq,HJ,Hy,DB.act];done))) rfl)))) rfl) fun c2=>allEq<| aC (fun c3=>(by exfalso;omega)) fun c3=>allEq<| aC (fun c4=>(by exfalso;omega)) fun c4=>allEq<| aC (fun c5=>af ‹_› fun Sn E1 HD f18 m1 Hq f19=>af ‹_› fun Sm E2 HJ f21 m3 Hy f22=>aF h (eQb (by(simp [c1,c2,c3,c4,c5,HD,Hq,HJ,Hy,DB.act];done))) (ab (uO1 (by(simp [c1,c2,c3,c4,c5,HD,Hq,HJ,Hy,DB.act];done))) (ab (uO0 (by(simp [c1,c2,c3,c4,c5,HD,Hq,HJ,Hy,DB.act];done))) (ab (uO3 (by(simp [c1,c2,c3,c4,c5,HD,Hq,HJ,Hy,DB.act];done))) (ab (uO2 (by(simp [c1,c2,c3,c4,c5,HD,Hq,HJ,Hy,DB.act];done))) rfl)))) rfl) fun c5=>allEq<| aC (fun c6=>(by exfalso;omega)) fun c6=>allEq<| aC (fun c7=>af ‹_› fun RA m1 Hq f24 m3 Hy f25=>aF h (eQb (by(simp [c1,c2,c3,c4,c5,c6,c7,Hq,Hy,DB.act];done))) (ab (uO1 (by(simp [c1,c2,c3,c4,c5,c6,c7,Hq,Hy,DB.act,DB.sk,DB.qE,Pd.du,Pd.ep _ _ HB];done))) (ab (uO0 (by(simp [c1,c2,c3,c4,c5,c6,c7,Hq,Hy,DB.act,DB.sk,DB.qE,Pd.du,Pd.ep _ _ HB];done))) (ab (uO3 (by(simp [c1,c2,c3,c4,c5,c6,c7,Hq,Hy,DB.act,DB.sk,DB.qE,Pd.du,Pd.ep _ _ HB];done))) (ab (uO2 (by(simp [c1,c2,c3,c4,c5,c6,c7,Hq,Hy,DB.act,DB.sk,DB.qE,Pd.du,Pd.ep _ _ HB];done))) rfl)))) rfl) fun c7=>allEq<| aC (fun c8=>(by exfalso;omega)) fun c8=>allEq<| aC (fun c9=>(by exfalso;omega)) fun c9=>aF h (eQb (by(exfalso;omega))) (ab (uO1 (by(exfalso;omega))) (ab (uO0 (by(exfalso;omega))) (ab (uO3 (by(exfalso;omega))) (ab (uO2 (by(exfalso;omega))) rfl)))) rfl)
end
section
set_option maxRecDepth 100000
set_option maxHeartbeats 1000000
attribute [local irreducible] Vc2 VcD
def iS:Ctr Un:=⟨[.agg [.int .u32,.int .u32,.int .u32,.int .u32,.int .u32,.int .u32,.int .u32,.int .u32]],[],[],[],fun q0 q1 q2 q3 q4 q5 q6 q7 K=>(∀x∈([q0,q1,q2,q3,q4,q5,q6,q7]:List Int),0≤x∧x<4294967296)∧∀(g:Nat)(rP:Nat→Nat)(rN:Nat→Nat)(rQ:Nat→Nat)(rM:Nat→Nat),K ⟨(.pointer (some (Addr.mk g 0 none))),(some (.p (.loc 0 0))),[],[(.blk g [(.pointer (some (Addr.mk (rN 0) 0 none))),(.pointer (some (Addr.mk (rP 0) 0 none))),(.pointer (some (Addr.mk (rQ 0) 0 none)))] 57),(.ob 1 rP ((DB.two [q0,q1,q2,q3,q4,q5,q6,q7]).pd)),(.ob 0 rN ((DB.two [q0,q1,q2,q3,q4,q5,q6,q7]).mem)),(.ob 3 rQ ((DB.two [q0,q1,q2,q3,q4,q5,q6,q7]).pd)),(.ob 2 rM ((DB.two [q0,q1,q2,q3,q4,q5,q6,q7]).mem))],[(.c 0 0,.p (.obj 2 0 0)),(.c 0 1,.p (.obj 1 0 0)),(.c 0 2,.p (.obj 3 0 0)),(.l 3 1,.p (.obj 4 0 0)),(.l 1 1,.p (.obj 2 0 0))]⟩⟩
def Cu(q0:Int)(q1:Int)(q2:Int)(q3:Int)(q4:Int)(q5:Int)(q6:Int)(q7:Int)(Q:Ou Un→Prop):Prop:=
 ∀(gv:Nat),
 ∀(s:List U32),s=([U32.mk q0,U32.mk q1,U32.mk q2,U32.mk q3,U32.mk q4,U32.mk q5,U32.mk q6,U32.mk q7]:List U32)→
 ∀(Hm:Nat)(rP:Nat→Nat)(rN:Nat→Nat)(rQ:Nat→Nat)(rM:Nat→Nat),
 ∀(E:Pd),E=(DB.begun 7 1).pd→
 Pd.Ok E→
 ∀(m:Mem),m=(DB.begun 7 1).mem→
 Mem.Wf m→
 ∀(E1:Pd),E1=(DB.begun 7 1).pd→
 Pd.Ok E1→
 ∀(m1:Mem),m1=(DB.begun 7 1).mem→
 Mem.Wf m1→
 ∀(IF:Nat),
 ∀(l:List bf),l=([bf.mk 1 6 7 0 0 none 0 0,bf.mk 5 6 2 0 0 none 0 0,bf.mk 1 0 1 0 0 none 0 0,bf.mk 2 2 4 0 0 none 0 0,bf.mk 7 1 0 0 513 none 0 0,bf.mk 2 3 5 0 0 none 0 0,bf.mk 7 2 1 0 775 none 0 0,bf.mk 7 2 2 0 261 none 0 0,bf.mk 2 4 6 0 0 none 0 0,bf.mk 2 5 2 0 0 none 0 0,bf.mk 5 0 2 0 0 none 0 0]:List bf)→
 ∀i:Int,i=0→
 ∃I:Nat→Int→Pd→Mem→Pd→Mem→Prop,(∃m2,I m2 i E m E1 m1)∧∀(m2:Nat)(Kj:Nat→Value)(i1:Int)(s2:Pd)(s3:Mem)(s4:Pd)(s5:Mem),I m2 i1 s2 s3 s4 s5→
 Pd.Ok s2→
 Mem.Wf s3→
 Pd.Ok s4→
 Mem.Wf s5→
 split (decide (i1<(11:Int))) (
  (0≤i1∧i1<(l.length:Int))∧
  (((l.getD i1.toNat (bf.mk 0 0 0 0 0 none 0 0)).k)=1∨((l.getD i1.toNat (bf.mk 0 0 0 0 0 none 0 0)).k)=2∨((l.getD i1.toNat (bf.mk 0 0 0 0 0 none 0 0)).k)=5∨((l.getD i1.toNat (bf.mk 0 0 0 0 0 none 0 0)).k)=7)∧
  s2.n=s3.S∧
  s2=s4∧
  s3=s5∧
  (0≤((l.getD i1.toNat (bf.mk 0 0 0 0 0 none 0 0)).v)∧((l.getD i1.toNat (bf.mk 0 0 0 0 0 none 0 0)).v)<4294967296)∧
  1≤s3.S∧
  ∀(E2:Pd),E2=((s2.on s3).act ((l.getD i1.toNat (bf.mk 0 0 0 0 0 none 0 0)).k) ((l.getD i1.toNat (bf.mk 0 0 0 0 0 none 0 0)).a) ((l.getD i1.toNat (bf.mk 0 0 0 0 0 none 0 0)).b) ((l.getD i1.toNat (bf.mk 0 0 0 0 0 none 0 0)).c) ((l.getD i1.toNat (bf.mk 0 0 0 0 0 none 0 0)).v)).pd→
  Pd.Ok E2→
  ∀(m4:Mem),m4=((s2.on s3).act ((l.getD i1.toNat (bf.mk 0 0 0 0 0 none 0 0)).k) ((l.getD i1.toNat (bf.mk 0 0 0 0 0 none 0 0)).a) ((l.getD i1.toNat (bf.mk 0 0 0 0 0 none 0 0)).b) ((l.getD i1.toNat (bf.mk 0 0 0 0 0 none 0 0)).c) ((l.getD i1.toNat (bf.mk 0 0 0 0 0 none 0 0)).v)).mem→
  Mem.Wf m4→
  ∀(E3:Pd),E3=((s2.on s3).act ((l.getD i1.toNat (bf.mk 0 0 0 0 0 none 0 0)).k) ((l.getD i1.toNat (bf.mk 0 0 0 0 0 none 0 0)).a) ((l.getD i1.toNat (bf.mk 0 0 0 0 0 none 0 0)).b) ((l.getD i1.toNat (bf.mk 0 0 0 0 0 none 0 0)).c) ((l.getD i1.toNat (bf.mk 0 0 0 0 0 none 0 0)).v)).pd→
  Pd.Ok E3→
  ∀(m5:Mem),m5=((s2.on s3).act ((l.getD i1.toNat (bf.mk 0 0 0 0 0 none 0 0)).k) ((l.getD i1.toNat (bf.mk 0 0 0 0 0 none 0 0)).a) ((l.getD i1.toNat (bf.mk 0 0 0 0 0 none 0 0)).b) ((l.getD i1.toNat (bf.mk 0 0 0 0 0 none 0 0)).c) ((l.getD i1.toNat (bf.mk 0 0 0 0 0 none 0 0)).v)).mem→
  Mem.Wf m5→
  ∀i2:Int,i2=(i64.wrap (i1+1))→
  ∃m3,m3<m2∧I m3 i2 E2 m4 E3 m5) (
  ∀i2:Int,i2=0→
  ∃I1:Nat→Int→Mem→Mem→Prop,(∃m4,I1 m4 i2 s3 s5)∧∀(m4:Nat)(IC:Nat→Value)(i3:Int)(Ii:Mem)(M8:Mem),I1 m4 i3 Ii M8→
  Mem.Wf Ii→
  Mem.Wf M8→
  split (decide (i3<8)) (
   ((0≤i3∧i3<(s.length:Int))∧i3<(8:Int))∧
   (0≤((s.getD i3.toNat (U32.mk 0)).v)∧((s.getD i3.toNat (U32.mk 0)).v)<4294967296)∧
   ∀(m6:Mem),m6=(Ii.write true 0 (i64.wrap (3+i3)) ((s.getD i3.toNat (U32.mk 0)).v))→
   Mem.Wf m6→
   ∀(m7:Mem),m7=(M8.write true 0 (i64.wrap (3+i3)) ((s.getD i3.toNat (U32.mk 0)).v))→
   Mem.Wf m7→
   split (!(decide (Ii.err true 0 (i64.wrap (3+i3))=M8.err true 0 (i64.wrap (3+i3))))) (
    Q ⟨(.pointer none),none,[],[],[]⟩) (
    ∀i4:Int,i4=(i64.wrap (i3+1))→
    ∃m5,m5<m4∧I1 m5 i4 m6 m7)) (
   s2.n=Ii.S∧
   split ((s2.on Ii).broken.1 !=0) (
    Q ⟨(.pointer none),none,[],[],[]⟩) (
    Q ⟨(.pointer (some (Addr.mk Hm 0 none))),(some (.p (.loc 0 0))),[],[(.blk Hm [(.pointer (some (Addr.mk (rN 0) 0 none))),(.pointer (some (Addr.mk (rP 0) 0 none))),(.pointer (some (Addr.mk (rQ 0) 0 none)))] 57),(.ob 1 rP s2),(.ob 0 rN Ii),(.ob 3 rQ s4),(.ob 2 rM M8)],[(.c 0 0,.p (.obj 2 0 0)),(.c 0 1,.p (.obj 1 0 0)),(.c 0 2,.p (.obj 3 0 0)),(.l 3 1,.p (.obj 4 0 0)),(.l 1 1,.p (.obj 2 0 0))]⟩)))
theorem Cv:Vc2 Un prog (aN [(7,fy),(9,iV),(52,dx),(30,gF)]) [5,6] Tryz.f17 (.r' (.r' (.r' (.r' (.two (.r' (.two (.node [] (some ⟨[(5,(.one (.int .i64)))],[],[2,5]++upN 24 13,[(2,(.ob 1)),(3,(.ob 0)),(4,(.ob 3)),(5,(.ob 2))]⟩) [] [] .leaf .leaf) .leaf)) (.two (.r' (.two (.node [] (some ⟨[(6,(.one (.int .i64)))],[],[2,6]++upN 37 12,[(3,(.ob 0)),(5,(.ob 2))]⟩) [] [] .leaf .leaf) .leaf)) .leaf)))))) [1000000,1,2,3,4,5] iS=(∀q0 q1 q2 q3 q4 q5 q6 q7,∀Q,(iS.body q0 q1 q2 q3 q4 q5 q6 q7 Q)→Cu q0 q1 q2 q3 q4 q5 q6 q7 Q):=by kernel_rfl
theorem Ct:LV Un prog 17 iS:=verify Tryz.func17 aa (tb:= [(7,fy),(9,iV),(52,dx),(30,gF)]) ⟨wz,Cy,oJ,zr,trivial⟩ (by kernel_rfl) (Cv.mpr fun q0 q1 q2 q3 q4 q5 q6 q7 Q h=>by
 obtain⟨Hw,h⟩:=h
 exact fun gv s J8 Hm rP rN rQ rM E OA f1 m Oz f2 E1 HD f3 m1 Hq f4 IF l Jk=>allEq<| ⟨fun m2 i1 s2 s3 s4 s5=>(m2=(11 - i1).toNat)∧(0≤i1∧i1≤11)∧(s2=(DB.ij i1.toNat).pd)∧(s3=(DB.ij i1.toNat).mem)∧(s4=s2)∧(s5=s3),⟨_,rfl,(by omega),(by rw [OA];rfl),(by rw [Oz];rfl),(by rw [OA,HD]),(by rw [Oz,Hq])⟩,fun m2 _ i1 s2 s3 s4 s5 ⟨hm,hi,RX,Tr,hFa,hNa⟩=>(by have L2:l=fU:=Jk;clear Jk;(have hon:s2.on s3=DB.ij i1.toNat:=by rw [RX,Tr,DB.xl]);(have Jg:=fun h=>DB.yg (i:=i1) h);exact fun f5 f6 f7 f8=>aA (fun c1=>af (by rw [L2];exact⟨hi.1,by show i1<11;omega⟩) fun s9=>af (by rw [L2];exact(wU i1 ⟨hi.1,by omega⟩).1) fun K3=>af (by subst_vars;rfl) fun JN=>af (hFa.symm) fun Mj=>af (hNa.symm) fun LK=>af (by rw [L2];exact(wU i1 ⟨hi.1,by omega⟩).2) fun Mi=>af (by rw [Tr,DB.EH];decide) fun Og E2 HJ f16 m4 Ro f17 E3 N8 f18 m5 J9 f19=>allEq<| ⟨_,(by(have h8:=ah (x:=i1+1) (by omega));omega),rfl,(by(have h8:=ah (x:=i1+1) (by omega));omega),(by rw [HJ,hon,Jg ⟨hi.1,by omega⟩,L2]),(by rw [Ro,hon,Jg ⟨hi.1,by omega⟩,L2]),(by rw [HJ,N8]),(by rw [Ro,J9])⟩) fun c1=>allEq<| ⟨fun m4 i3 Ii M8=>(m4=(8 - i3).toNat)∧(0≤i3∧i3≤8)∧(Ii=((DB.ij 11).wrs 0 3 (([q0,q1,q2,q3,q4,q5,q6,q7]:List Int).take i3.toNat)).mem)∧(M8=Ii),⟨_,rfl,(by omega),(by(have e:=show i1.toNat=11 by omega);rw [Tr,e];rfl),‹_›⟩,fun m4 _ i3 Ii M8 ⟨hm,N1,hM,hN⟩=>fun f20 f21=>aA (fun c2=>af (by rw [J8];exact⟨⟨N1.1,by show i3<8;omega⟩,by omega⟩) fun Sk=>af (by rw [J8];exact EI Hw ⟨N1.1,by omega⟩) fun RA m6 Rn f24 m7 Tk f25=>vr (fun c3=>(by exfalso;simp [hN]at c3)) fun c3=>allEq<| ⟨_,(by(have h8:=ah (x:=i3+1) (by omega));omega),rfl,(by(have h8:=ah (x:=i3+1) (by omega));omega),(by rw [DB.Ag rfl ⟨N1.1,by omega⟩,Rn,hM,J8,EJ ⟨N1.1,by omega⟩];rfl),(by rw [Rn,Tk,hN])⟩) fun c2=>af (by have e:i1.toNat=11:=(by omega);rw [hM,RX,e];exact(DB.GP _).symm) fun s26=>aX (fun c4=>(by exfalso;have e:i1.toNat=11:=(by omega);have e3:i3.toNat=8:=(by omega);rw [DB.FX (by rw [RX,e]) (by rw [hM,e3];rfl),DB.EF rfl]at c4;exact c4 rfl)) fun c4=>(by(have e:=show i1.toNat=11 by omega);(have e3:=show i3.toNat=8 by omega);(have hP:s2=(DB.two [q0,q1,q2,q3,q4,q5,q6,q7]).pd:=by rw [RX,e,DB.qN]);(have hR:Ii=(DB.two [q0,q1,q2,q3,q4,q5,q6,q7]).mem:=by rw [hM,e3];rfl);rw [hP]at hFa;rw [hR]at hN;exact aF (h Hm rP rN rQ rM) rfl rfl (ab (congrArg (fun l=>Res.blk (U:=Un) _ l _) rfl) (ab (rO1 (by(symm;assumption))) (ab (rO0 (by(symm;assumption))) (ab (rO3 (by(symm;assumption))) (ab (rO2 (by(symm;assumption))) rfl))))))⟩)⟩)
end
end Go.Proofs.YtfmcaoaaiganbaaGreatDoor
namespace Go.Proofs.YtfmcaoaaiganbaaGreatDoor
open Go.Proofs.Tryz (prog)
open Go Go.RowKit V
open Go.IntKind (i64 u32 u64)
section
namespace Mem
def rd(m:Mem)(s:Bool)(p o:Int):Mem:=if m.has s p && bS o then m.tick 1 else m
def copy(m:Mem)(s:Bool)(p:Int)(s':Bool)(p':Int):Mem:=if m.has s p && m.has s' p' then(m.tick 2048).fill s p.toNat (m.pg s' p'.toNat)else m
def words(m:Mem)(s:Bool)(p:Nat):List U32:=(List.range 1024).map fun o=>U32.mk (m.pg s p o)
end Mem
section
variable {w:World} {L:dM} {m:Mem}
theorem Er(h:bV w L m)(s:Bool)(p o:Int):
 Calls prog 189 #[ptr L.g,fr s p,.int .i64 o] w fun e w'=>∃v,e= .returned v∧v= .tuple #[.int .u32 (m.ba s p o),.int .i64 (m.err s p o)]∧bV w' L (m.rd s p o)∧Ch L.X w w':=by
 refine uR _ s p o ?_
 intro g1 w1 hg hw
 have hM:=made hg hw
 refine⟨_,_,⟨hM.blk.at rfl,hM.blk.at rfl⟩,(Ep (h.pu hM.pu) s p o).mono ?_⟩
 rintro e w2 ⟨_,rfl,⟨hh,rfl,h2,hc⟩ | ⟨hh,rfl,he,hp⟩⟩
 ·refine⟨_,_,rfl,ae (fun hb=>by simp at hb) (fun _=>?_)⟩
  have L9:Ch L.X w w2:=((Ch.refl _ w).made hM).trans hc
  have S0:=hh
  simp only [Bool.and_eq_true]at hh
  have hi:=Mem.cr hh.1
  have ho:=Mem.dR hh.2
  obtain⟨T,cs,hr,Hv,H2⟩:=h2.pgs s p.toNat (by simpa using hi)
  refine ao _ rfl ⟨_,hr.cell (H2 _ (by omega)),?_,?_,L9⟩
  ·simp [Mem.ba,Mem.err,hh.1,hh.2,Mem.tick]
  ·simpa [Mem.rd,S0]using h2
 ·refine⟨_,_,rfl,ae (fun _=>⟨?_,?_,(hM.pu.trans hp).mono (by simp)⟩) (fun hb=>absurd (by simpa using hb) he)⟩
  ·simp [Mem.ba,hh]
  ·simpa [Mem.rd,hh]using (h.pu hM.pu).pu hp
end
end
section
theorem Mem.k8(m:Mem)(s:Bool)(p:Nat):(m.words s p).length=1024:=by rw [Mem.words,List.length_map,List.length_range]
theorem Mem.Ej(m:Mem)(s:Bool)(p o:Int):m.rd s p o=m:=by unfold Mem.rd;split<;>rfl
section
variable {w:World} {g:Nat} {L:dL} {m:Mem}
end
end
end Go.Proofs.YtfmcaoaaiganbaaGreatDoor
namespace Go.Proofs.YtfmcaoaaiganbaaGreatDoor
open Go.Proofs.Tryz (prog)
open Go Go.RowKit V
open Go.IntKind (i64 u32 u64)
section
set_option maxRecDepth 100000
set_option maxHeartbeats 1000000
attribute [local irreducible] Vc2 VcD
def rX:Ctr Un:=⟨[.one (.obj 0 0),.agg [.bool,.int .i64],.one (.int .i64)],[],[.ob 0 []],[0],fun fa fb off rm m K=>K ⟨(.tuple #[(.int .u32 (m.ba fa fb off)),(.int .i64 (m.err fa fb off))]),(some (.t [none,none])),[.ob 0 m],[],[]⟩⟩
theorem D5:LV Un prog 189 rX:=by
 show ∀(fa:Bool)(fb:Int)(off:Int)(rm:Nat→Nat)(m:Mem),∀Q:Ou Un→Prop,(Q ⟨(.tuple #[(.int .u32 (m.ba fa fb off)),(.int .i64 (m.err fa fb off))]),(some (.t [none,none])),[.ob 0 m],[],[]⟩)→∀(X:Nat→Nat→Prop)(w:World),Sat (U:=Un) [(.ob 0 rm m)] X w→ar (U:=Un) [(.ob 0 rm m)] fr0 []→Calls prog 189 #[(.pointer (some (Addr.mk (rm 0) 0 none))),(.agg #[(.bool fa),(.int .i64 fb)]),(.int .i64 off)] w (bd (U:=Un) [(.ob 0 rm m)] [0] X w Q)
 intro fa fb off rm m Q hQ X w hs hl
 obtain⟨L,hg,hM,hX⟩:=pX hs
 rw [hg]
 refine(Er hM fa fb off).mono ?_
 rintro e w' ⟨u,rfl,rfl,h2,q⟩
 rw [Mem.Ej]at h2
 exact bd.one (Z:=X 0) (q.mono fun k hk=>(hX k).1 hk) (show dB 0 rm _ (X 0) w' from⟨L,hg,hX,h2⟩) (fun k hk=>.inl hk) hQ (KnO.tup _ (by simp))
end
section
set_option maxRecDepth 100000
def uJ(ca:Option Addr)(cb:Int)(cc:Int)(R:ax)(w:World):Prop:=
 ∀(gv:Nat)(wv:World),gv=w.heap.size→wv=w.alloc (.cells #[(.pointer ca),(.int .i64 cb),(.int .i64 cc)] 262)→
 ∃x7:Option Addr,wv.cell? ((Addr.mk gv 0 none).add 0)=some (.pointer x7)∧
 ∃x9:Int,wv.cell? ((Addr.mk gv 0 none).add 1)=some (.int .i64 x9)∧
 ∃HU:Int,wv.cell? ((Addr.mk gv 0 none).add 2)=some (.int .i64 HU)∧
 Calls prog 189 #[(.pointer x7),(.agg #[(.bool true),(.int .i64 x9)]),(.int .i64 HU)] wv fun e Hb=>
 ∃Iv:Int,∃IG:Int,e= .returned (.tuple #[(.int .u32 Iv),(.int .i64 IG)])∧
 R (.int .u32 Iv) Hb
def Cm:Ann:= .leaf
theorem PRead_eq(ca:Option Addr)(cb:Int)(cc:Int)(R:ax)(w:World):uJ ca cb cc R w=vcF prog aE [] Tryz.f185 Cm [(.agg #[(.pointer ca),(.int .i64 cb),(.int .i64 cc)])] R none w:=by kernel_rfl
theorem uK(ca:Option Addr)(cb:Int)(cc:Int) {R:ax} {w:World}(h:uJ ca cb cc R w):Calls prog 185 #[(.agg #[(.pointer ca),(.int .i64 cb),(.int .i64 cc)])] w fun e w'=>∃v,e= .returned v∧R v w':=
 ai Tryz.func185 au aa ((PRead_eq ca cb cc R w).mp h)
end
end Go.Proofs.YtfmcaoaaiganbaaGreatDoor
namespace Go.Proofs.YtfmcaoaaiganbaaGreatDoor
open Go.Proofs.Tryz (prog)
open Go Go.RowKit V
open Go.IntKind (i64 u32 u64)
section
section
variable {w:World} {L:dM} {m:Mem}
theorem F5(h:bV w L m)(p o:Int):
 Calls prog 185 #[.agg #[ptr L.g,.int .i64 p,.int .i64 o]] w fun e w'=>∃v,e= .returned v∧v= .int .u32 (m.ba true p o)∧bV w' L m∧Ch L.X w w':=by
 refine uK _ p o ?_
 intro g1 w1 hg hw
 have hM:=made hg hw
 refine⟨_,hM.blk.at rfl,_,hM.blk.at rfl,_,hM.blk.at rfl,(Er (h.pu hM.pu) true p o).mono ?_⟩
 rintro e w2 ⟨_,rfl,rfl,h2,q⟩
 rw [Mem.Ej]at h2
 exact⟨_,_,rfl,rfl,h2,((Ch.refl _ w).made hM).trans q⟩
end
end
end Go.Proofs.YtfmcaoaaiganbaaGreatDoor
namespace Go.Proofs.YtfmcaoaaiganbaaGreatDoor
open Go.Proofs.Tryz (prog)
open Go Go.RowKit V
open Go.IntKind (i64 u32 u64)
section
set_option maxRecDepth 100000
set_option maxHeartbeats 1000000
attribute [local irreducible] Vc2 VcD
attribute [local grind=] Pd.bN Pd.bt Pd.fX Pd.gu Pd.ep Pd.du Pd.dG Pd.dX Pd.jt Pd.oS
attribute [local grind .] Pd.Ok.ent
attribute [local grind→] Pd.Ok.most
def rT:Ctr Un:=⟨[.agg [.any,.int .i64,.int .i64]],[(0,0)],[.ob 0 []],[0],fun pv ak off rm m K=>pv=Value.pointer (some (Addr.mk (rm 0) 0 none))∧K ⟨(.int .u32 (m.ba true ak off)),none,[.ob 0 m],[],[]⟩⟩
theorem D1:LV Un prog 185 rT:=by
 show ∀(pv:Value)(ak:Int)(off:Int)(rm:Nat→Nat)(m:Mem),∀Q:Ou Un→Prop,(pv=Value.pointer (some (Addr.mk (rm 0) 0 none))∧Q ⟨(.int .u32 (m.ba true ak off)),none,[.ob 0 m],[],[]⟩)→∀(X:Nat→Nat→Prop)(w:World),Sat (U:=Un) [(.ob 0 rm m)] X w→ar (U:=Un) [(.ob 0 rm m)] fr0 []→Calls prog 185 #[(.agg #[pv,(.int .i64 ak),(.int .i64 off)])] w (bd (U:=Un) [(.ob 0 rm m)] [0] X w Q)
 intro pv ak off rm m Q hQ X w hs hl
 obtain⟨rfl,hQ⟩:=hQ
 obtain⟨L,hg,hM,hX⟩:=pX hs
 rw [hg]
 refine(F5 hM ak off).mono ?_
 rintro e w' ⟨u,rfl,rfl,h2,q⟩
 exact bd.one (Z:=X 0) (q.mono fun k hk=>(hX k).1 hk) (show dB 0 rm _ (X 0) w' from⟨L,hg,hX,h2⟩) (fun k hk=>.inl hk) hQ trivial
def uL:Ctr Un:=⟨[.one (.obj 0 0),.one (.int .i64),.one (.int .i64)],[],[.ob 1 [(1,1,0)],.ob 0 []],[],fun ak off r E rm m K=>K ⟨(.agg #[(.func (.func 185) #[(.agg #[(.pointer (some (Addr.mk (rm 0) 0 none))),(.int .i64 ak),(.int .i64 off)])] #[]),(.func (.func 186) #[(.agg #[(.pointer (some (Addr.mk (rm 0) 0 none))),(.int .i64 ak),(.int .i64 off)])] #[])]),none,[],[],[]⟩⟩
def GH(ak:Int)(off:Int)(r:Nat→Nat)(E:Pd)(rm:Nat→Nat)(m:Mem)(Q:Ou Un→Prop):Prop:=
 Pd.Ok E→
 Mem.Wf m→
 ∀(gv:Nat),
 (some (.pointer (some (Addr.mk (rm 0) 0 none))):Option Value)=some (.pointer (some (Addr.mk (rm 0) 0 none)))∧
 ∀(Hm:Nat),
 Q ⟨(.agg #[(.func (.func 185) #[(.agg #[(.pointer (some (Addr.mk (rm 0) 0 none))),(.int .i64 ak),(.int .i64 off)])] #[]),(.func (.func 186) #[(.agg #[(.pointer (some (Addr.mk (rm 0) 0 none))),(.int .i64 ak),(.int .i64 off)])] #[])]),none,[],[],[]⟩
theorem GI:Vc2 Un prog (aN [(32,cl)]) [] Tryz.f134 .leaf [] uL=(∀ak off r (E:Pd) rm (m:Mem),∀Q,(uL.body ak off r E rm m Q)→GH ak off r E rm m Q):=by kernel_rfl
theorem GG:LV Un prog 134 uL:=verify Tryz.func134 aa (tb:= [(32,cl)]) ⟨gK,trivial⟩ (by kernel_rfl) (GI.mpr fun ak off r E rm m Q h f1 f2 gv=>af (by rfl) fun s3 Hm=>h)
def kR:Ctr Un:=⟨[.one (.obj 0 0),.one (.int .i64),.one (.int .i64),.one (.int .i64)],[],[.ob 1 [(1,1,0)],.ob 0 []],[],fun s p t r E rm m K=>E.n=m.S∧K ⟨(.bool ((E.on m).of p t s)),none,[],[],[]⟩⟩
def D3(s:Int)(p:Int)(t:Int)(r:Nat→Nat)(E:Pd)(rm:Nat→Nat)(m:Mem)(Q:Ou Un→Prop):Prop:=
 Pd.Ok E→
 Mem.Wf m→
 E.n=m.S∧
 ∀(gv:Nat),
 ∃J:Bool→Prop,(
  split (((E.on m).aU p)==0) (
   split (((E.on m).entry p).typ==t) (
    J (((E.on m).entry p).owner==s)) (
    J false)) (
   J false))∧∀(Hn:Nat→Value)(x8:Bool),J x8→
 Q ⟨(.bool x8),none,[],[],[]⟩
theorem D4:Vc2 Un prog (aN [(71,dK)]) [] Tryz.f135 (.r' (.r' (.two (.node [] (some ⟨[(8,(.one .bool))],[],[8]++upN 17 14,[]⟩) [] [] .leaf .leaf) .leaf))) [] kR=(∀s p t r (E:Pd) rm (m:Mem),∀Q,(kR.body s p t r E rm m Q)→D3 s p t r E rm m Q):=by kernel_rfl
section
attribute [local grind=] DB.entry DB.aU DB.of DB.is
theorem D2:LV Un prog 135 kR:=verify Tryz.func135 aa (tb:= [(71,dK)]) ⟨kZ,trivial⟩ (by kernel_rfl) (D4.mpr fun s p t r E rm m Q h=>by
 obtain⟨Hw,h⟩:=h
 exact fun f1 f2=>af ‹_› fun s3 gv=>bB (((((E.on m).aU p):Int)==0) && (((((E.on m).entry p).typ:Int)==t) && ((((E.on m).entry p).owner:Int)==s))) (ae (fun c1=>ae (fun c2=>(by grind)) fun c2=>(by grind)) fun c1=>(by grind))<| bj h (by grind))
end
def iR:Ctr Un:=⟨[.one (.obj 0 0),.one (.int .i64)],[],[.ob 1 [(1,1,0)],.ob 0 []],[1],fun s r E rm m K=>E.n=m.S∧K ⟨(.tuple #[(.int .i64 ((E.on m).tbl s)),(.int .i64 ((E.on m).fe s))]),(some (.t [none,none])),[.ob 0 m],[],[]⟩⟩
def Ck(s:Int)(r:Nat→Nat)(E:Pd)(rm:Nat→Nat)(m:Mem)(Q:Ou Un→Prop):Prop:=
 Pd.Ok E→
 Mem.Wf m→
 E.n=m.S∧
 ∀(gv:Nat),
 ∀HA:Bool,HA=((((E.on m).aU s):Int) !=0)→
 split HA (
  Q ⟨(.tuple #[(.int .i64 0),(.int .i64 5)]),(some (.t [none,none])),[.ob 0 m],[],[]⟩) (
  ∀Jd:Bool,Jd=((((E.on m).entry s).typ:Int) !=1)→
  split Jd (
   Q ⟨(.tuple #[(.int .i64 0),(.int .i64 124)]),(some (.t [none,none])),[.ob 0 m],[],[]⟩) (
   ∀Ht:Bool,Ht=((((E.on m).entry s).state:Int)==3)→
   split Ht (
    Q ⟨(.tuple #[(.int .i64 0),(.int .i64 3)]),(some (.t [none,none])),[.ob 0 m],[],[]⟩) (
    (.pointer (some (Addr.mk (rm 0) 0 none)))=Value.pointer (some (Addr.mk (rm 0) 0 none))∧
    ∀(m1:Mem),m1=m→
    Mem.Wf m1→
    ∃J:Bool→Prop,(
     E.n=m1.S∧
     split (decide ((i64.wrap (m.ba true s 0))≥(E.on m1).S)) (
      J true) (
      E.n=m1.S∧
      J (!((E.on m1).of (i64.wrap (m.ba true s 0)) 3 s))))∧∀(Hn:Nat→Value)(It:Bool),J It→
    split It (
     Q ⟨(.tuple #[(.int .i64 0),(.int .i64 124)]),(some (.t [none,none])),[.ob 0 m1],[],[]⟩) (
     Q ⟨(.tuple #[(.int .i64 (i64.wrap (m.ba true s 0))),(.int .i64 0)]),(some (.t [none,none])),[.ob 0 m1],[],[]⟩))))
theorem Cl:Vc2 Un prog (aN [(71,dK),(134,uL),(185,rT),(70,ja),(135,kR)]) [15,18,22] Tryz.f76 (.r' (.r' (.r' (.r' (.two (.two (.node [] (some ⟨[(43,(.one .bool))],[],upN 31 13,[]⟩) [] [] .leaf .leaf) .leaf) .leaf))))) [] iR=(∀s r (E:Pd) rm (m:Mem),∀Q,(iR.body s r E rm m Q)→Ck s r E rm m Q):=by kernel_rfl
section
attribute [local grind=] DB.entry DB.aU DB.of DB.is DB.tbl DB.fe DB.word
theorem Cj:LV Un prog 76 iR:=verify Tryz.func76 aa (tb:= [(71,dK),(134,uL),(185,rT),(70,ja),(135,kR)]) ⟨kZ,GG,D1,vc,D2,trivial⟩ (by kernel_rfl) (Cl.mpr fun s r E rm m Q h=>by
 obtain⟨Hw,h⟩:=h
 exact fun f1 f2=>(by(have hwr:=fun(p o:Int)=>ej (E:=E) f2 p o);(have NN:=fun(p o:Int)=>ah (x:=m.ba true p o) (by have:=hwr p o;simp only [DB.word,Pd.du]at this;omega));exact af ‹_› fun s3 gv=>allEq<| aX (fun c1=>aF h (congrArg (fun l=>Value.tuple (List.toArray l)) (ab (bp (by grind)) (ab (bp (by grind)) rfl))) rfl rfl) fun c1=>allEq<| aX (fun c2=>aF h (congrArg (fun l=>Value.tuple (List.toArray l)) (ab (bp (by grind)) (ab (bp (by grind)) rfl))) rfl rfl) fun c2=>allEq<| aC (fun c3=>aF h (congrArg (fun l=>Value.tuple (List.toArray l)) (ab (bp (by grind)) (ab (bp (by grind)) rfl))) rfl rfl) fun c3=>af (by grind) fun s4 m1 Hq f5=>bB ((decide ((i64.wrap (m.ba true s 0):Int)≥((E.on m1).S:Int))) || (!((E.on m1).of (i64.wrap (m.ba true s 0)) 3 s))) (af (by grind) fun s6=>ae (fun c4=>(by grind)) fun c4=>af ‹_› fun s7=>(by grind))<| aL (fun c5=>(by subst Hq;have hwq:=NN s 0;exact aF h (congrArg (fun l=>Value.tuple (List.toArray l)) (ab (bp (by grind)) (ab (bp (by grind)) rfl))) (ab (uO0 (by grind)) rfl) rfl)) fun c5=>(by subst Hq;have hwq:=NN s 0;exact aF h (congrArg (fun l=>Value.tuple (List.toArray l)) (ab (bp (by grind)) (ab (bp (by grind)) rfl))) (ab (uO0 (by grind)) rfl) rfl)))
end
section
attribute [local grind=] DB.entry DB.aU DB.of DB.is DB.wX
end
section
attribute [local grind=] DB.entry DB.aU DB.of DB.is DB.word DB.BL DB.add Pd.kg Mem.dJ
end
section
attribute [local grind=] DB.entry DB.aU DB.of DB.is DB.word DB.jw DB.plP DB.fE
end
section
attribute [local grind=] DB.entry DB.aU DB.of DB.is DB.word DB.jw DB.plP DB.fE
end
section
attribute [local grind=] DB.entry DB.aU DB.of DB.is DB.word DB.jw DB.plP DB.fE
end
section
attribute [local grind=] DB.entry DB.aU DB.of DB.is DB.word DB.jw DB.plP DB.fE DB.Az DB.put Pd.kg Mem.dJ
end
end
section
set_option maxRecDepth 100000
set_option maxHeartbeats 1000000
attribute [local irreducible] Vc2 VcD
attribute [local grind=] Pd.bN Pd.bt Pd.fX Pd.gu Pd.ep Pd.du Pd.dG Pd.dX Pd.jt Pd.oS
attribute [local grind .] Pd.Ok.ent
attribute [local grind→] Pd.Ok.most
def fu:Ctr Un:=⟨[.one (.sl 0),.one (.int .i64),.one (.int .i64)],[],[.ob 13 []],[],fun cp taken rs ns K=>K ⟨(.int .u32 (Nst.draw ns cp taken)),none,[],[],[]⟩⟩
def Ca(cp:Int)(taken:Int)(rs:Nat→Nat)(ns:Nst)(Q:Ou Un→Prop):Prop:=
 Nst.Ok ns→
 ∃J:Bool→Prop,(
  split (decide (cp<0)) (
   J true) (
   split (decide (cp≥((Nst.hs ns).length:Int))) (
    J true) (
    split (decide (taken<0)) (
     J true) (
     (0≤cp∧cp<((Nst.hs ns).length:Int))∧
     J (decide (taken≥(((Nst.hs ns).getD cp.toNat (Hd.mk none 0 0)).n:Int)))))))∧∀(Ic:Nat→Value)(M7:Bool),J M7→
 split M7 (
  Q ⟨(.int .u32 0),none,[],[],[]⟩) (
  (0≤cp∧cp<((Nst.hs ns).length:Int))∧
  (0≤taken∧taken<((Nst.l ns cp.toNat).length:Int))∧
  Q ⟨(.int .u32 (((Nst.l ns cp.toNat).getD taken.toNat (U32.mk 0)).v)),none,[],[],[]⟩)
theorem Cb:Vc2 Un prog (aN []) [] Tryz.f15 (.r' (.two (.two (.node [] (some ⟨[(27,(.one .bool))],[],upN 7 21,[]⟩) [] [] .leaf .leaf) .leaf) .leaf)) [] fu=(∀cp taken rs (ns:Nst),∀Q,(fu.body cp taken rs ns Q)→Ca cp taken rs ns Q):=by kernel_rfl
section
attribute [local grind=] Nst.draw
theorem uB:LV Un prog 15 fu:=verify Tryz.func15 aa (tb:= []) trivial (by kernel_rfl) (Cb.mpr fun cp taken rs ns Q h f1=>(by have hn:=Nst.Ok.n_eq f1 cp.toNat;exact bB ((decide ((cp:Int)<0)) || ((decide ((cp:Int)≥(((Nst.hs ns).length:Nat):Int))) || ((decide ((taken:Int)<0)) || (decide ((taken:Int)≥((((Nst.hs ns).getD cp.toNat (Hd.mk none 0 0)).n:Nat):Int)))))) (ae (fun c1=>(by grind)) fun c1=>ae (fun c2=>(by grind)) fun c2=>ae (fun c3=>(by grind)) fun c3=>af (by grind) fun s2=>(by grind))<| aL (fun c4=>dN h (by grind)) fun c4=>af (by grind) fun s3=>af (by grind) fun s4=>dN h (by grind)))
end
def iW:Ctr Un:=⟨[.one (.int .u32),.one (.int .u32),.one (.int .u32),.one (.int .u32)],[],[],[],fun pc a b c K=>K ⟨(.agg ⟨Fl.cells (Fl.start pc a b c)⟩),none,[],[],[]⟩⟩
def CC(pc:Int)(a:Int)(b:Int)(c:Int)(Q:Ou Un→Prop):Prop:=
 ∀(gv:Nat),
 ∀(s:Fl),s=Fl.zero→
 Fl.Ok s→
 ∀(Hm:Nat),
 ∀(s1:Fl),s1=Fl.zero→
 Fl.Ok s1→
 True∧
 ∀(s2:Fl),s2=(Fl.mk [U32.mk 0,U32.mk 0,U32.mk 0,U32.mk 0,U32.mk 0,U32.mk 0,U32.mk 0,U32.mk 0,U32.mk 0,U32.mk 0,U32.mk 0,U32.mk 0,U32.mk 0,U32.mk 0,U32.mk 0] pc false false false)→
 Fl.Ok s2→
 ((0≤(0:Int)∧(0:Int)<((Fl.rs s2).length:Int))∧(0:Int)<(15:Int))∧
 True∧
 ∀(s3:Fl),s3=(Fl.oP s2 (Int.toNat 0) (U32.mk a))→
 Fl.Ok s3→
 ((0≤(1:Int)∧(1:Int)<((Fl.rs s3).length:Int))∧(1:Int)<(15:Int))∧
 True∧
 ∀(s4:Fl),s4=(Fl.oP s3 (Int.toNat 1) (U32.mk b))→
 Fl.Ok s4→
 ((0≤(2:Int)∧(2:Int)<((Fl.rs s4).length:Int))∧(2:Int)<(15:Int))∧
 True∧
 ∀(s5:Fl),s5=(Fl.oP s4 (Int.toNat 2) (U32.mk c))→
 Fl.Ok s5→
 True∧
 True∧
 ∀(s6:Fl),s6=(Fl.norm s5)→
 Fl.Ok s6→
 True∧
 Q ⟨(.agg ⟨Fl.cells s6⟩),none,[],[],[]⟩
theorem CD:Vc2 Un prog (aN []) [] Tryz.f18 .leaf [] iW=(∀pc a b c,∀Q,(iW.body pc a b c Q)→CC pc a b c Q):=by kernel_rfl
section
attribute [local grind=] Fl.Ok
theorem CB:LV Un prog 18 iW:=verify Tryz.func18 aa (tb:= []) trivial (by kernel_rfl) (CD.mpr fun pc a b c Q h gv s J8 f1 Hm s1 JL f2=>af trivial fun _ s2 Is f4=>af (by grind) fun s5=>af trivial fun _ s3 IK f7=>af (by grind) fun s8=>af trivial fun _ s4 IB f10=>af (by grind) fun JN=>af trivial fun _ s5 J7 f13=>af trivial fun _=>af trivial fun _ s6 h_s6 f16=>af trivial fun _=>aF h (congrArg (fun s:Fl=>Value.agg ⟨Fl.cells s⟩) (by subst_vars;rfl)) rfl rfl)
end
def lJ:Ctr Un:=⟨[],[],[],[],fun K=>∀(rN:Nat→Nat),K ⟨(Value.map (some (rN 0))),none,[],[(.ob 12 rN ())],[]⟩⟩
theorem zx:LV Un prog 77 lJ:=by
 show ∀Q:Ou Un→Prop,(∀(rN:Nat→Nat),Q ⟨(Value.map (some (rN 0))),none,[],[(.ob 12 rN ())],[]⟩)→∀(X:Nat→Nat→Prop)(w:World),Sat (U:=Un) [] X w→ar (U:=Un) [] fr0 []→Calls prog 77 #[] w (bd (U:=Un) [] [] X w Q)
 intro Q hQ X w hs hl
 refine(CZ w).mono ?_
 rintro e w' ⟨u,rfl,g,rfl,hm,hg,q⟩
 exact bd.more (Z:=fun k=>k=g) hs q (show RS (U:=Un) _ w' (.ob 12 (fun _=>g) ())from⟨fun _=>Iff.rfl,hm⟩) (fun k hk=>hk▸hg) (hQ fun _=>g) trivial
def iN:Ctr Un:=⟨[.one (.ptr 0),.one (.int .i64)],[],[.blk [.obj 1 0,.int .i64,.any,.any,.any,.any,.any,.any,.any,.any,.any,.any,.any,.any,.any,.any,.any,.any,.any,.any,.any,.any,.any,.any,.any,.any,.any,.any,.any,.any,.sl 3] 145,.ob 1 [(1,2,0)],.ob 0 [],.ob 13 []],[2],fun off g sp z1 x0 x1 y0 y1 y2 y3 y4 y5 y6 y7 y8 y9 KA Kz Ky Kx Kw Kv Ku Kt Ks Kr Kq Ko Km Kl Kk r E rm m rs ns K=>K ⟨(.int .u32 (m.ba true sp off)),none,[.ob 0 m],[],[]⟩⟩
def B8(off:Int)(g:Nat)(sp:Int)(z1:Value)(x0:Value)(x1:Value)(y0:Value)(y1:Value)(y2:Value)(y3:Value)(y4:Value)(y5:Value)(y6:Value)(y7:Value)(y8:Value)(y9:Value)(KA:Value)(Kz:Value)(Ky:Value)(Kx:Value)(Kw:Value)(Kv:Value)(Ku:Value)(Kt:Value)(Ks:Value)(Kr:Value)(Kq:Value)(Ko:Value)(Km:Value)(Kl:Value)(Kk:Value)(r:Nat→Nat)(E:Pd)(rm:Nat→Nat)(m:Mem)(rs:Nat→Nat)(ns:Nst)(Q:Ou Un→Prop):Prop:=
 Pd.Ok E→
 Mem.Wf m→
 Nst.Ok ns→
 ∀(m1:Mem),m1=m→
 Mem.Wf m1→
 Q ⟨(.int .u32 (m.ba true sp off)),none,[.ob 0 m1],[],[]⟩
theorem B9:Vc2 Un prog (aN [(32,cl),(189,rX)]) [] Tryz.f198 (.r' (.two (.node [] none [] [(3,[0]),(8,[0])] .leaf .leaf) .leaf)) [] iN=(∀off g sp z1 x0 x1 y0 y1 y2 y3 y4 y5 y6 y7 y8 y9 KA Kz Ky Kx Kw Kv Ku Kt Ks Kr Kq Ko Km Kl Kk r (E:Pd) rm (m:Mem) rs (ns:Nst),∀Q,(iN.body off g sp z1 x0 x1 y0 y1 y2 y3 y4 y5 y6 y7 y8 y9 KA Kz Ky Kx Kw Kv Ku Kt Ks Kr Kq Ko Km Kl Kk r E rm m rs ns Q)→B8 off g sp z1 x0 x1 y0 y1 y2 y3 y4 y5 y6 y7 y8 y9 KA Kz Ky Kx Kw Kv Ku Kt Ks Kr Kq Ko Km Kl Kk r E rm m rs ns Q):=by kernel_rfl
theorem B7:LV Un prog 198 iN:=verify Tryz.func198 aa (tb:= [(32,cl),(189,rX)]) ⟨gK,D5,trivial⟩ (by kernel_rfl) (B9.mpr fun off g sp z1 x0 x1 y0 y1 y2 y3 y4 y5 y6 y7 y8 y9 KA Kz Ky Kx Kw Kv Ku Kt Ks Kr Kq Ko Km Kl Kk r E rm m rs ns Q h f1 f2 f3 m1 Hq f4=>aF h rfl (ab (uO0 (by grind)) rfl) rfl)
def ft:Ctr Un:=⟨[.one (.ptr 0)],[],[.blk [.obj 1 0,.int .i64,.any,.any,.any,.any,.any,.any,.any,.any,.any,.any,.any,.any,.any,.any,.any,.any,.any,.any,.any,.any,.any,.any,.any,.any,.any,.any,.any,.any,.sl 3] 145,.ob 1 [(1,2,0)],.ob 0 [],.ob 13 []],[0,2],fun g sp z1 x0 x1 y0 y1 y2 y3 y4 y5 y6 y7 y8 y9 KA Kz Ky Kx Kw Kv Ku Kt Ks Kr Kq Ko Km Kl Kk r E rm m rs ns K=>K ⟨(.int .u32 0),none,[.blk [(.pointer (some (Addr.mk (r 0) 0 none))),(.int .i64 sp),z1,x0,(.int .u32 (Nst.draw ns (m.ba true sp 1) (m.ba true sp 2))),y0,y1,y2,y3,y4,y5,y6,y7,y8,y9,KA,Kz,Ky,Kx,Kw,Kv,Ku,Kt,Ks,Kr,Kq,Ko,Km,Kl,Kk,(.slice (Nst.A ns) ((Nst.hs ns).length) (Nst.c ns))],.ob 0 (m.drawn sp)],[],[(.c 0 0,.p (.obj 1 0 0)),(.c 0 30,.p (.sl 3 0))]⟩⟩
def v9(g:Nat)(sp:Int)(z1:Value)(x0:Value)(x1:Value)(y0:Value)(y1:Value)(y2:Value)(y3:Value)(y4:Value)(y5:Value)(y6:Value)(y7:Value)(y8:Value)(y9:Value)(KA:Value)(Kz:Value)(Ky:Value)(Kx:Value)(Kw:Value)(Kv:Value)(Ku:Value)(Kt:Value)(Ks:Value)(Kr:Value)(Kq:Value)(Ko:Value)(Km:Value)(Kl:Value)(Kk:Value)(r:Nat→Nat)(E:Pd)(rm:Nat→Nat)(m:Mem)(rs:Nat→Nat)(ns:Nst)(Q:Ou Un→Prop):Prop:=
 Pd.Ok E→
 Mem.Wf m→
 Nst.Ok ns→
 ∀(m1:Mem),m1=m→
 Mem.Wf m1→
 ∀(m2:Mem),m2=m1→
 Mem.Wf m2→
 (0≤(1:Int)∧(1:Int)<(15:Int))∧
 split (decide ((m1.ba true sp 2)<4096)) (
  (0≤(u32.wrap ((m1.ba true sp 2)+1))∧(u32.wrap ((m1.ba true sp 2)+1))<4294967296)∧
  ∀(m3:Mem),m3=(m2.write true sp 2 (u32.wrap ((m1.ba true sp 2)+1)))→
  Mem.Wf m3→
  Q ⟨(.int .u32 0),none,[.blk [(.pointer (some (Addr.mk (r 0) 0 none))),(.int .i64 sp),z1,x0,(.int .u32 (Nst.draw ns (i64.wrap (m.ba true sp 1)) (i64.wrap (m1.ba true sp 2)))),y0,y1,y2,y3,y4,y5,y6,y7,y8,y9,KA,Kz,Ky,Kx,Kw,Kv,Ku,Kt,Ks,Kr,Kq,Ko,Km,Kl,Kk,(.slice (Nst.A ns) ((Nst.hs ns).length) (Nst.c ns))],.ob 0 m3],[],[(.c 0 0,.p (.obj 1 0 0)),(.c 0 30,.p (.sl 3 0))]⟩) (
  Q ⟨(.int .u32 0),none,[.blk [(.pointer (some (Addr.mk (r 0) 0 none))),(.int .i64 sp),z1,x0,(.int .u32 (Nst.draw ns (i64.wrap (m.ba true sp 1)) (i64.wrap (m1.ba true sp 2)))),y0,y1,y2,y3,y4,y5,y6,y7,y8,y9,KA,Kz,Ky,Kx,Kw,Kv,Ku,Kt,Ks,Kr,Kq,Ko,Km,Kl,Kk,(.slice (Nst.A ns) ((Nst.hs ns).length) (Nst.c ns))],.ob 0 m2],[],[(.c 0 0,.p (.obj 1 0 0)),(.c 0 30,.p (.sl 3 0))]⟩)
theorem wc:Vc2 Un prog (aN [(198,iN),(15,fu),(32,cl),(22,fx)]) [] Tryz.f141 (.r' (.r' (.two (.node [] none [] [(4,[0])] .leaf .leaf) (.two (.r' (.two (.node [] none [] [(4,[0]),(10,[0])] .leaf .leaf) .leaf)) .leaf)))) [] ft=(∀g sp z1 x0 x1 y0 y1 y2 y3 y4 y5 y6 y7 y8 y9 KA Kz Ky Kx Kw Kv Ku Kt Ks Kr Kq Ko Km Kl Kk r (E:Pd) rm (m:Mem) rs (ns:Nst),∀Q,(ft.body g sp z1 x0 x1 y0 y1 y2 y3 y4 y5 y6 y7 y8 y9 KA Kz Ky Kx Kw Kv Ku Kt Ks Kr Kq Ko Km Kl Kk r E rm m rs ns Q)→v9 g sp z1 x0 x1 y0 y1 y2 y3 y4 y5 y6 y7 y8 y9 KA Kz Ky Kx Kw Kv Ku Kt Ks Kr Kq Ko Km Kl Kk r E rm m rs ns Q):=by kernel_rfl
section
attribute [local grind=] Mem.drawn
theorem v8:LV Un prog 141 ft:=verify Tryz.func141 aa (tb:= [(198,iN),(15,fu),(32,cl),(22,fx)]) ⟨B7,uB,gK,oH,trivial⟩ (by kernel_rfl) (wc.mpr fun g sp z1 x0 x1 y0 y1 y2 y3 y4 y5 y6 y7 y8 y9 KA Kz Ky Kx Kw Kv Ku Kt Ks Kr Kq Ko Km Kl Kk r E rm m rs ns Q h f1 f2 f3=>(by(have NN:=fun(p o:Int)=>ah (x:=m.ba true p o) (by have:=AD f2 true p o;omega));exact fun m1 Hq f4 m2 KZ f5=>af (by omega) fun s6=>aA (fun c1=>af (dP _) fun s7 m3 Hy f8=>(by have RG:=NN sp 1;have KJ:=NN sp 2;exact aF h rfl (ab (congrArg Upd.blk (ab rfl (ab rfl (ab rfl (ab rfl (ab (tB (by grind)) (ab rfl (ab rfl (ab rfl (ab rfl (ab rfl (ab rfl (ab rfl (ab rfl (ab rfl (ab rfl (ab rfl (ab rfl (ab rfl (ab rfl (ab rfl (ab rfl (ab rfl (ab rfl (ab rfl (ab rfl (ab rfl (ab rfl (ab rfl (ab rfl (ab rfl (ab (by grind) rfl)))))))))))))))))))))))))))))))) (ab (uO0 (by grind)) rfl)) rfl)) fun c1=>(by have RG:=NN sp 1;have KJ:=NN sp 2;exact aF h rfl (ab (congrArg Upd.blk (ab rfl (ab rfl (ab rfl (ab rfl (ab (tB (by grind)) (ab rfl (ab rfl (ab rfl (ab rfl (ab rfl (ab rfl (ab rfl (ab rfl (ab rfl (ab rfl (ab rfl (ab rfl (ab rfl (ab rfl (ab rfl (ab rfl (ab rfl (ab rfl (ab rfl (ab rfl (ab rfl (ab rfl (ab rfl (ab rfl (ab rfl (ab (by grind) rfl)))))))))))))))))))))))))))))))) (ab (uO0 (by grind)) rfl)) rfl)))
end
end
section
set_option maxRecDepth 100000
set_option maxHeartbeats 1000000
attribute [local irreducible] Vc2 VcD
def iU:Ctr Un:=⟨[.one (.sl 0)],[],[.ob 13 []],[],fun rs ns K=>ns.small∧∀(rN:Nat→Nat)(n1:Nst),((n1.own=true∧n1.hs.length≤1048576∧(∀k,k<n1.hs.length→120≤(n1.l k).length∧(n1.l k).length≤1048696)))→K ⟨(.slice (Nst.A n1) ((Nst.hs n1).length) (Nst.c n1)),(some (.p (.sl 1 0))),[],[(.ob 13 rN n1)],[]⟩⟩
theorem u4:LV Un prog 25 iU:=by
 show ∀(rs:Nat→Nat)(ns:Nst),∀Q:Ou Un→Prop,(ns.small∧∀(rN:Nat→Nat)(n1:Nst),((n1.own=true∧n1.hs.length≤1048576∧(∀k,k<n1.hs.length→120≤(n1.l k).length∧(n1.l k).length≤1048696)))→Q ⟨(.slice (Nst.A n1) ((Nst.hs n1).length) (Nst.c n1)),(some (.p (.sl 1 0))),[],[(.ob 13 rN n1)],[]⟩)→∀(X:Nat→Nat→Prop)(w:World),Sat (U:=Un) [(.ob 13 rs ns)] X w→ar (U:=Un) [(.ob 13 rs ns)] fr0 []→Calls prog 25 #[(.slice (Nst.A ns) ((Nst.hs ns).length) (Nst.c ns))] w (bd (U:=Un) [(.ob 13 rs ns)] [] X w Q)
 intro rs ns Q hQ X w hs hl
 obtain⟨RF,hQ⟩:=hQ
 refine(copied (show gh w ns (X 0)from hs.res 0 _ rfl) RF).mono ?_
 rintro e w' ⟨u,rfl,s1,rfl,h1,h2,h3,hP,q⟩
 exact bd.more (Z:=fun k=>w.heap.size≤k∧k<w'.heap.size) hs q (show RS (U:=Un) _ w' (.ob 13 (fun _=>0) s1)from hP) (fun k hk=>hk.1) (hQ (fun _=>0) s1 ⟨h1,h2,h3⟩) rfl
def iT:Ctr Un:=⟨[.one (.sl 0)],[],[.ob 13 []],[0],fun rs ns K=>ns.own=true∧ns.hs.length≤1048576∧((∀k,k<ns.hs.length→120≤(ns.l k).length∧(ns.l k).length≤1048696))∧∀(n1:Nst),((n1.own=true∧n1.big))→K ⟨(.slice (Nst.A n1) ((Nst.hs n1).length) (Nst.c n1)),(some (.p (.sl 0 0))),[.ob 13 n1],[],[]⟩⟩
theorem uZ:LV Un prog 24 iT:=by
 show ∀(rs:Nat→Nat)(ns:Nst),∀Q:Ou Un→Prop,(ns.own=true∧ns.hs.length≤1048576∧((∀k,k<ns.hs.length→120≤(ns.l k).length∧(ns.l k).length≤1048696))∧∀(n1:Nst),((n1.own=true∧n1.big))→Q ⟨(.slice (Nst.A n1) ((Nst.hs n1).length) (Nst.c n1)),(some (.p (.sl 0 0))),[.ob 13 n1],[],[]⟩)→∀(X:Nat→Nat→Prop)(w:World),Sat (U:=Un) [(.ob 13 rs ns)] X w→ar (U:=Un) [(.ob 13 rs ns)] fr0 []→Calls prog 24 #[(.slice (Nst.A ns) ((Nst.hs ns).length) (Nst.c ns))] w (bd (U:=Un) [(.ob 13 rs ns)] [0] X w Q)
 intro rs ns Q hQ X w hs hl
 obtain⟨h1,h2,h3,hQ⟩:=hQ
 refine(pieces (show gh w ns (X 0)from hs.res 0 _ rfl) h1 h3 h2).mono ?_
 rintro e w' ⟨u,rfl,s1,rfl,h4,h5,hP,q⟩
 exact bd.one (Z:=fun k=>X 0 k∨w.heap.size≤k∧k<w'.heap.size) (q.mono fun k hk=>hk.elim) (show dB 13 rs s1 _ w' from hP) (fun k hk=>hk.imp id fun h=>h.1) (hQ s1 ⟨h4,h5⟩) rfl
end
section
set_option maxRecDepth 100000
set_option maxHeartbeats 1000000
attribute [local irreducible] Vc2 VcD
def ot:Ctr Un:=⟨[.one (.obj 0 0),.agg [.int .u32,.int .u32,.int .u32,.int .u32,.int .u32,.int .u32,.int .u32,.int .u32],.one (.sl 2),.one (.int .i64),.one (.int .u32),.enc 6],[],[.ob 1 [(1,1,0)],.ob 0 [],.ob 13 []],[1],fun k0 k1 k2 k3 k4 k5 k6 k7 t n f r E rm m rs ns K=>E.n=m.S∧(n:Int)=6∧(E.on m).eZ t∧K ⟨(.tuple #[(.agg ⟨Fl.cells (Fl.r01 f 0 (Nst.draw ns (m.ba true ((E.on m).entry t).owner 1) (m.ba true ((E.on m).entry t).owner 2)))⟩),(.bool false),(.int .u32 0),(.int .i64 0)]),(some (.t [none,none,none,none])),[.ob 0 (m.drawn ((E.on m).entry t).owner)],[],[]⟩⟩
def FI(k0:Int)(k1:Int)(k2:Int)(k3:Int)(k4:Int)(k5:Int)(k6:Int)(k7:Int)(t:Int)(n:Int)(f:Fl)(r:Nat→Nat)(E:Pd)(rm:Nat→Nat)(m:Mem)(rs:Nat→Nat)(ns:Nst)(Q:Ou Un→Prop):Prop:=
 Pd.Ok E→
 Mem.Wf m→
 Nst.Ok ns→
 ∀(gv:Nat),
 ∀(s:List U32),s=([U32.mk k0,U32.mk k1,U32.mk k2,U32.mk k3,U32.mk k4,U32.mk k5,U32.mk k6,U32.mk k7]:List U32)→
 ∀(Hm:Nat),
 ∀(s1:Fl),s1=(Fl.norm f)→
 Fl.Ok s1→
 ∀(IF:Nat),
 ∀(s2:Fl),s2=Fl.zero→
 Fl.Ok s2→
 E.n=m.S∧
 ∀(Jc:Nat),
 ∃J:Bool→Prop,(
  split (((E.on m).aU t) !=0) (
   J true) (
   J (((E.on m).entry t).typ !=2)))∧∀(IC:Nat→Value)(Ih:Bool),J Ih→
 split Ih (
  True∧
  ∀(s3:Fl),s3=Fl.zero→
  Fl.Ok s3→
  True∧
  Q ⟨(.tuple #[(.agg ⟨Fl.cells s3⟩),(.bool false),(.int .u32 0),(.int .i64 124)]),(some (.t [none,none,none,none])),[.ob 0 m],[],[]⟩) (
  E.n=m.S∧
  ∀(Ld:Nat),
  ∃J1:Bool→Prop,(
   split (((E.on m).aU (((E.on m).entry t).owner)) !=0) (
    J1 true) (
    split (((E.on m).entry (((E.on m).entry t).owner)).typ !=1) (
     J1 true) (
     J1 (((E.on m).entry (((E.on m).entry t).owner)).state !=2))))∧∀(Tz:Nat→Value)(x56:Bool),J1 x56→
  split x56 (
   True∧
   ∀(s3:Fl),s3=Fl.zero→
   Fl.Ok s3→
   True∧
   Q ⟨(.tuple #[(.agg ⟨Fl.cells s3⟩),(.bool false),(.int .u32 0),(.int .i64 124)]),(some (.t [none,none,none,none])),[.ob 0 m],[],[]⟩) (
   E.n=m.S∧
   ∀(m1:Mem),m1=m→
   Mem.Wf m1→
   split (((E.on m).fe (((E.on m).entry t).owner)) !=0) (
    True∧
    ∀(s3:Fl),s3=Fl.zero→
    Fl.Ok s3→
    True∧
    Q ⟨(.tuple #[(.agg ⟨Fl.cells s3⟩),(.bool false),(.int .u32 0),(.int .i64 124)]),(some (.t [none,none,none,none])),[.ob 0 m1],[],[]⟩) (
    split (n==0) (
     True∧
     ((0≤(0:Int)∧(0:Int)<((Fl.rs s1).length:Int))∧(0:Int)<(15:Int))∧
     True∧
     ∀(s3:Fl),s3=(Fl.norm s1)→
     Fl.Ok s3→
     True∧
     Q ⟨(.tuple #[(.agg ⟨Fl.cells s3⟩),(.bool true),(.int .u32 (((Fl.rs s1).getD (Int.toNat 0) (U32.mk 0)).v)),(.int .i64 0)]),(some (.t [none,none,none,none])),[.ob 0 m1],[],[]⟩) (
     True∧
     (some (.pointer (some (Addr.mk (r 0) 0 none))):Option Value)=some (.pointer (some (Addr.mk (r 0) 0 none)))∧
     (s.length=8)∧
     (some (.pointer (some (Addr.mk (r 0) 0 none))):Option Value)=some (.pointer (some (Addr.mk (r 0) 0 none)))∧
     (some (.slice (Nst.A ns) ((Nst.hs ns).length) (Nst.c ns)):Option Value)=some (.slice (Nst.A ns) ((Nst.hs ns).length) (Nst.c ns))∧
     ∀(gv7:Nat),
     ∀(rN:Nat→Nat),
     ∀(s3:Unit),s3=()→
     ((rN 0)=rN 0)∧
     split (decide (n=1)) (
      False) (
      split (decide (n=2)) (
       False) (
       split (decide (n=3)) (
        False) (
        split (decide (n=4)) (
         False) (
         split (decide (n=5)) (
          False) (
          split (decide (n=6)) (
           ∀(m2:Mem),m2=(m1.drawn (((E.on m).entry t).owner))→
           Mem.Wf m2→
           (0≤(0:Int)∧(0:Int)<(15:Int))∧
           True∧
           ∀(s4:Fl),s4=(Fl.mk [U32.mk 0,U32.mk (Nst.draw ns (m1.ba true (((E.on m).entry t).owner) 1) (m1.ba true (((E.on m).entry t).owner) 2)),U32.mk (((Fl.rs s1).getD 2 (U32.mk 0)).v),U32.mk (((Fl.rs s1).getD 3 (U32.mk 0)).v),U32.mk (((Fl.rs s1).getD 4 (U32.mk 0)).v),U32.mk (((Fl.rs s1).getD 5 (U32.mk 0)).v),U32.mk (((Fl.rs s1).getD 6 (U32.mk 0)).v),U32.mk (((Fl.rs s1).getD 7 (U32.mk 0)).v),U32.mk (((Fl.rs s1).getD 8 (U32.mk 0)).v),U32.mk (((Fl.rs s1).getD 9 (U32.mk 0)).v),U32.mk (((Fl.rs s1).getD 10 (U32.mk 0)).v),U32.mk (((Fl.rs s1).getD 11 (U32.mk 0)).v),U32.mk (((Fl.rs s1).getD 12 (U32.mk 0)).v),U32.mk (((Fl.rs s1).getD 13 (U32.mk 0)).v),U32.mk (((Fl.rs s1).getD 14 (U32.mk 0)).v)] (Fl.pc s1) (Fl.z s1) (Fl.n s1) (Fl.l s1))→
           Fl.Ok s4→
           True∧
           Q ⟨(.tuple #[(.agg ⟨Fl.cells s4⟩),(.bool false),(.int .u32 0),(.int .i64 0)]),(some (.t [none,none,none,none])),[.ob 0 m2],[],[]⟩) (
           split (decide (n=7)) (
            False) (
            (0≤(0:Int)∧(0:Int)<(15:Int))∧
            True∧
            ∀(s5:Fl),s5=(Fl.mk [U32.mk 15,U32.mk (((Fl.rs s1).getD 1 (U32.mk 0)).v),U32.mk (((Fl.rs s1).getD 2 (U32.mk 0)).v),U32.mk (((Fl.rs s1).getD 3 (U32.mk 0)).v),U32.mk (((Fl.rs s1).getD 4 (U32.mk 0)).v),U32.mk (((Fl.rs s1).getD 5 (U32.mk 0)).v),U32.mk (((Fl.rs s1).getD 6 (U32.mk 0)).v),U32.mk (((Fl.rs s1).getD 7 (U32.mk 0)).v),U32.mk (((Fl.rs s1).getD 8 (U32.mk 0)).v),U32.mk (((Fl.rs s1).getD 9 (U32.mk 0)).v),U32.mk (((Fl.rs s1).getD 10 (U32.mk 0)).v),U32.mk (((Fl.rs s1).getD 11 (U32.mk 0)).v),U32.mk (((Fl.rs s1).getD 12 (U32.mk 0)).v),U32.mk (((Fl.rs s1).getD 13 (U32.mk 0)).v),U32.mk (((Fl.rs s1).getD 14 (U32.mk 0)).v)] (Fl.pc s1) (Fl.z s1) (Fl.n s1) (Fl.l s1))→
            Fl.Ok s5→
            True∧
            Q ⟨(.tuple #[(.agg ⟨Fl.cells s5⟩),(.bool false),(.int .u32 0),(.int .i64 0)]),(some (.t [none,none,none,none])),[.ob 0 m1],[],[]⟩)))))))))))
theorem FJ:Vc2 Un prog (aN [(71,dK),(76,iR),(77,lJ),(141,ft)]) [] Tryz.f33 (.r' (.r' (.two (.two (.node [] (some ⟨[(36,(.one .bool))],[],upN 30 7,[]⟩) [] [] .leaf .leaf) .leaf) (.r' (.two (.two (.node [] (some ⟨[(56,(.one .bool))],[],upN 45 12,[]⟩) [] [] .leaf .leaf) .leaf) (.r' (.r' (.two (.r' (.two (.two (.node [] none [] [(0,[4]),(3,[4])] .leaf .leaf) .leaf) .leaf)) .leaf)))))))) [] ot=(∀k0 k1 k2 k3 k4 k5 k6 k7 t n (f:Fl) r (E:Pd) rm (m:Mem) rs (ns:Nst),∀Q,(ot.body k0 k1 k2 k3 k4 k5 k6 k7 t n f r E rm m rs ns Q)→FI k0 k1 k2 k3 k4 k5 k6 k7 t n f r E rm m rs ns Q):=by kernel_rfl
section
attribute [local grind=] DB.eZ
theorem FH:LV Un prog 33 ot:=verify Tryz.func33 aa (tb:= [(71,dK),(76,iR),(77,lJ),(141,ft)]) ⟨kZ,Cj,zx,v8,trivial⟩ (by kernel_rfl) (FJ.mpr fun k0 k1 k2 k3 k4 k5 k6 k7 t n f r E rm m rs ns Q h=>by
 obtain⟨Hw,HB,HH,h⟩:=h
 exact fun f1 f2 f3 gv s J8 Hm s1 JL f4 IF s2 Is f5=>af ‹_› fun s6 Jc=>bB (((((E.on m).aU t):Int) !=0) || ((((E.on m).entry t).typ:Int) !=2)) (ae (fun c1=>(by grind)) fun c1=>(by grind))<| aL (fun c2=>af trivial fun _ s3 IK f8=>af trivial fun _=>aF h (congrArg (fun l=>Value.tuple (List.toArray l)) (ab (congrArg (fun s:Fl=>Value.agg ⟨Fl.cells s⟩) (by(exfalso;grind))) (ab rfl (ab rfl (ab (bp (by(exfalso;grind))) rfl))))) (ab (uO0 (by(exfalso;grind))) rfl) rfl) fun c2=>af ‹_› fun K3 Ld=>bB (((((E.on m).aU (((E.on m).entry t).owner)):Int) !=0) || (((((E.on m).entry (((E.on m).entry t).owner)).typ:Int) !=1) || ((((E.on m).entry (((E.on m).entry t).owner)).state:Int) !=2))) (ae (fun c3=>(by grind)) fun c3=>ae (fun c4=>(by grind)) fun c4=>(by grind))<| aL (fun c5=>af trivial fun _ s3 IK f12=>af trivial fun _=>aF h (congrArg (fun l=>Value.tuple (List.toArray l)) (ab (congrArg (fun s:Fl=>Value.agg ⟨Fl.cells s⟩) (by(exfalso;grind))) (ab rfl (ab rfl (ab (bp (by(exfalso;grind))) rfl))))) (ab (uO0 (by(exfalso;grind))) rfl) rfl) fun c5=>af ‹_› fun Mi m1 Hq f15=>aX (fun c6=>af trivial fun _ s3 IK f17=>af trivial fun _=>aF h (congrArg (fun l=>Value.tuple (List.toArray l)) (ab (congrArg (fun s:Fl=>Value.agg ⟨Fl.cells s⟩) (by(exfalso;grind))) (ab rfl (ab rfl (ab (bp (by(exfalso;grind))) rfl))))) (ab (uO0 (by(exfalso;grind))) rfl) rfl) fun c6=>aC (fun c7=>af trivial fun _=>af (by omega) fun Sm=>af trivial fun _ s3 IK f22=>af trivial fun _=>aF h (congrArg (fun l=>Value.tuple (List.toArray l)) (ab (congrArg (fun s:Fl=>Value.agg ⟨Fl.cells s⟩) (by(exfalso;grind))) (ab (eQb (by(exfalso;grind))) (ab (tB (by(exfalso;grind))) (ab rfl rfl))))) (ab (uO0 (by(exfalso;grind))) rfl) rfl) fun c7=>af trivial fun _=>af (by rfl) fun s25=>af (by subst J8;rfl) fun s26=>af (by rfl) fun s27=>af (by rfl) fun s28 gv7 rN s3 IK=>af (by omega) fun s29=>aA (fun c8=>(by exfalso;omega)) fun c8=>aA (fun c9=>(by exfalso;omega)) fun c9=>aA (fun Ki=>(by exfalso;omega)) fun Ki=>aA (fun K1=>(by exfalso;omega)) fun K1=>aA (fun Oe=>(by exfalso;omega)) fun Oe=>aA (fun Le m2 KZ f30=>af (by omega) fun Ii=>af trivial fun _ s4 IB f33=>af trivial fun _=>aF h (congrArg (fun l=>Value.tuple (List.toArray l)) (ab (congrArg (fun s:Fl=>Value.agg ⟨Fl.cells s⟩) (by(subst_vars;rfl))) (ab rfl (ab rfl (ab rfl rfl))))) (ab (uO0 (by(subst_vars;rfl))) rfl) rfl) fun Le=>aA (fun Od=>(by exfalso;omega)) fun Od=>af (by omega) fun s35=>af trivial fun _ s5 J7 f37=>af trivial fun _=>aF h (congrArg (fun l=>Value.tuple (List.toArray l)) (ab (congrArg (fun s:Fl=>Value.agg ⟨Fl.cells s⟩) (by(exfalso;grind))) (ab rfl (ab rfl (ab rfl rfl))))) (ab (uO0 (by(exfalso;grind))) rfl) rfl)
end
def gI:Ctr Un:=⟨[.one (.ptr 0),.agg [.int .u32,.int .u32,.int .u32,.int .u32,.int .u32,.int .u32,.int .u32,.int .u32],.one (.sl 3),.one (.int .u32),.enc 6],[],[.blk [.obj 2 0,.obj 1 0,.any] 57,.ob 1 [(1,2,0)],.ob 0 [],.ob 13 []],[2],fun k0 k1 k2 k3 k4 k5 k6 k7 n f g z r E rm m rs ns K=>E.n=m.S∧(n:Int)=6∧(E.on m).eZ 5∧K ⟨(.tuple #[(.agg ⟨Fl.cells (Fl.r01 f 0 (Nst.draw ns (m.ba true ((E.on m).entry 5).owner 1) (m.ba true ((E.on m).entry 5).owner 2)))⟩),(.bool true)]),(some (.t [none,none])),[.ob 0 (m.drawn ((E.on m).entry 5).owner)],[],[]⟩⟩
def zQ(k0:Int)(k1:Int)(k2:Int)(k3:Int)(k4:Int)(k5:Int)(k6:Int)(k7:Int)(n:Int)(f:Fl)(g:Nat)(z:Value)(r:Nat→Nat)(E:Pd)(rm:Nat→Nat)(m:Mem)(rs:Nat→Nat)(ns:Nst)(Q:Ou Un→Prop):Prop:=
 Pd.Ok E→
 Mem.Wf m→
 Nst.Ok ns→
 ∀(gv:Nat),
 ∀(s:List U32),s=([U32.mk k0,U32.mk k1,U32.mk k2,U32.mk k3,U32.mk k4,U32.mk k5,U32.mk k6,U32.mk k7]:List U32)→
 ∀(Hm:Nat),
 ∀(s1:Fl),s1=(Fl.norm f)→
 Fl.Ok s1→
 ∀(IF:Nat),
 ∀(s2:Fl),s2=Fl.zero→
 Fl.Ok s2→
 (s.length=8)∧
 True∧
 (E.n=m.S∧
  n=6∧
  (E.on m).eZ 5∧
  ∀(m1:Mem),m1=(m.drawn ((E.on m).entry 5).owner)→
  Mem.Wf m1→
  ∀(Jc:Nat),
  ∀(s3:Fl),s3=Fl.zero→
  Fl.Ok s3→
  True∧
  ∀(s4:Fl),s4=(Fl.norm (Fl.r01 (Fl.norm s1) 0 (Nst.draw ns (m.ba true ((E.on m).entry 5).owner 1) (m.ba true ((E.on m).entry 5).owner 2))))→
  Fl.Ok s4→
  ∃J:Bool→Fl→Prop,(
   True∧
   True∧
   ∀(s5:Fl),s5=(Fl.norm s4)→
   Fl.Ok s5→
   J true s5)∧∀(IC:Nat→Value)(H3:Bool)(s6:Fl),J H3 s6→
  Fl.Ok s6→
  True∧
  Q ⟨(.tuple #[(.agg ⟨Fl.cells s6⟩),(.bool H3)]),(some (.t [none,none])),[.ob 0 m1],[],[]⟩)∧
 (∀(Jc:Nat),
  ∀(s3:Fl),s3=Fl.zero→
  Fl.Ok s3→
  E.n=m.S∧
  n=6∧
  (E.on m).eZ 5∧
  ∀(m1:Mem),m1=(m.drawn ((E.on m).entry 5).owner)→
  Mem.Wf m1→
  True∧
  ∀(s4:Fl),s4=(Fl.norm (Fl.r01 (Fl.norm s1) 0 (Nst.draw ns (m.ba true ((E.on m).entry 5).owner 1) (m.ba true ((E.on m).entry 5).owner 2))))→
  Fl.Ok s4→
  ∃J:Bool→Fl→Prop,(
   True∧
   True∧
   ∀(s5:Fl),s5=(Fl.norm s4)→
   Fl.Ok s5→
   J true s5)∧∀(IC:Nat→Value)(H3:Bool)(s6:Fl),J H3 s6→
  Fl.Ok s6→
  True∧
  Q ⟨(.tuple #[(.agg ⟨Fl.cells s6⟩),(.bool H3)]),(some (.t [none,none])),[.ob 0 m1],[],[]⟩)
theorem zR:Vc2 Un prog (aN [(33,ot),(34,cK)]) [] Tryz.f19 (.r' (.two (.node [] none [] [(3,[0]),(4,[4]),(7,[5])] .leaf .leaf) (.two (.node [] (some ⟨[(11,(.one .bool))],[],[11]++upN 30 12,[(6,(.ob 10))]⟩) [] [(0,[7])] .leaf .leaf) .leaf))) [] gI=(∀k0 k1 k2 k3 k4 k5 k6 k7 n (f:Fl) g z r (E:Pd) rm (m:Mem) rs (ns:Nst),∀Q,(gI.body k0 k1 k2 k3 k4 k5 k6 k7 n f g z r E rm m rs ns Q)→zQ k0 k1 k2 k3 k4 k5 k6 k7 n f g z r E rm m rs ns Q):=by kernel_rfl
theorem zP:LV Un prog 19 gI:=verify Tryz.func19 aa (tb:= [(33,ot),(34,cK)]) ⟨FH,kV,trivial⟩ (by kernel_rfl) (zR.mpr fun k0 k1 k2 k3 k4 k5 k6 k7 n f g z r E rm m rs ns Q h=>by
 obtain⟨Hw,HB,HH,h⟩:=h
 exact fun f1 f2 f3 gv s J8 Hm s1 JL f4 IF s2 Is f5=>af (by subst J8;rfl) fun s6=>af trivial fun _=>⟨af ‹_› fun s8=>af ‹_› fun s9=>af ‹_› fun K3 m1 Hq f11 Jc s3 IK f12=>af trivial fun _ s4 IB f14=>dup2<| af trivial fun _=>af trivial fun _ s5 J7 f17 f18=>af trivial fun _=>aF h (congrArg (fun l=>Value.tuple (List.toArray l)) (ab (congrArg (fun s:Fl=>Value.agg ⟨Fl.cells s⟩) (by subst_vars;rfl)) (ab rfl rfl))) (ab (uO0 (by subst_vars;rfl)) rfl) rfl,fun Jc s3 IK f20=>af ‹_› fun Sl=>af ‹_› fun Sk=>af ‹_› fun RA m1 Hq f24=>af trivial fun _ s4 IB f26=>dup2<| af trivial fun _=>af trivial fun _ s5 J7 f29 f30=>af trivial fun _=>aF h (congrArg (fun l=>Value.tuple (List.toArray l)) (ab (congrArg (fun s:Fl=>Value.agg ⟨Fl.cells s⟩) (by subst_vars;rfl)) (ab rfl rfl))) (ab (uO0 (by subst_vars;rfl)) rfl) rfl⟩)
attribute [local irreducible] DB.two DB.W DB.upd Nst.draw Mem.drawn DB.next
def gi:Ctr Un:=⟨[.one (.sl 0),.one (.int .i64),.one (.int .i64)],[],[.ob 13 []],[],fun times begins rs ns K=>ns.small∧K ⟨(.bool true),none,[],[],[]⟩⟩
def ph(times:Int)(begins:Int)(rs:Nat→Nat)(ns:Nst)(Q:Ou Un→Prop):Prop:=
 Nst.Ok ns→
 (∀x∈([0,0,0,0,0,0,0,0]:List Int),0≤x∧x<4294967296)∧
 ∀(gv:Nat)(rP:Nat→Nat)(rN:Nat→Nat)(rQ:Nat→Nat)(rM:Nat→Nat),
 ∀(E:Pd),E=(DB.two [0,0,0,0,0,0,0,0]).pd→
 Pd.Ok E→
 ∀(m:Mem),m=(DB.two [0,0,0,0,0,0,0,0]).mem→
 Mem.Wf m→
 ∀(E1:Pd),E1=(DB.two [0,0,0,0,0,0,0,0]).pd→
 Pd.Ok E1→
 ∀(m1:Mem),m1=(DB.two [0,0,0,0,0,0,0,0]).mem→
 Mem.Wf m1→
 ∀atv:Int,atv=((i64.wrap (((begins:Int).tmod 4100)+4100):Int).tmod 4100)→
 ∃J:Int→Prop,(
  split (decide (atv>4096)) (
   ∀atv1:Int,atv1=4096→
   J atv1) (
   J atv))∧∀(Hn:Nat→Value) atv1,J atv1→
 (0≤(u32.wrap atv1)∧(u32.wrap atv1)<4294967296)∧
 ∀(m2:Mem),m2=(m.write true 0 2 (u32.wrap atv1))→
 Mem.Wf m2→
 ns.small∧
 ∀(M9:Nat→Nat)(n1:Nst),
 ((n1.own=true∧n1.hs.length≤1048576∧(∀k,k<n1.hs.length→120≤(n1.l k).length∧(n1.l k).length≤1048696)))→
 ∀(s:Nst),s=n1→
 Nst.Ok s→
 s.own=true∧
 s.hs.length≤1048576∧
 ((∀k,k<s.hs.length→120≤(s.l k).length∧(s.l k).length≤1048696))∧
 ∀(RC:Nst),
 ((RC.own=true∧RC.big))→
 ∀(s1:Nst),s1=RC→
 Nst.Ok s1→
 ∀i:Int,i=0→
 ∃I:Nat→Int→Int→Mem→Nst→Prop,(∃m3,I m3 atv1 i m2 s1)∧∀(m3:Nat)(I7:Nat→Value)(atv2:Int)(i1:Int)(s3:Mem)(s6:Nst),I m3 atv2 i1 s3 s6→
 Mem.Wf s3→
 Nst.Ok s6→
 ∃J1:Bool→Prop,(
  split (decide (i1<times)) (
   J1 (decide (i1<50))) (
   J1 false))∧∀(Kj:Nat→Value)(It:Bool),J1 It→
 split It (
  ∃J2:Nst→Prop,(
   split (i1==5) (
    ∀k:Int,k=0→
    ∃I1:Nat→Int→Nst→Prop,(∃m5,I1 m5 k s6)∧∀(m5:Nat)(IC:Nat→Value)(k1:Int)(H7:Nst),I1 m5 k1 H7→
    Nst.Ok H7→
    split (decide (k1<((Nst.hs H7).length:Int))) (
     ∀j:Int,j=0→
     ∃I2:Nat→Int→Nst→Prop,(∃m7,I2 m7 j H7)∧∀(m7:Nat)(Ry:Nat→Value)(j1:Int)(IZ:Nst),I2 m7 j1 IZ→
     Nst.Ok IZ→
     (0≤k1∧k1<((Nst.hs IZ).length:Int))∧
     split (decide (j1<(((Nst.hs IZ).getD k1.toNat (Hd.mk none 0 0)).n:Int))) (
      (0≤k1∧k1<((Nst.hs IZ).length:Int))∧
      (0≤k1∧k1<((Nst.hs IZ).length:Int))∧
      (0≤j1∧j1<((Nst.l IZ k1.toNat).length:Int))∧
      (0≤j1∧j1<((Nst.l IZ k1.toNat).length:Int))∧
      (Nst.own IZ=true)∧
      ∀(s2:Nst),s2=(Nst.set IZ k1.toNat j1.toNat (U32.mk (u32.wrap ((((Nst.l IZ k1.toNat).getD j1.toNat (U32.mk 0)).v)+1000))))→
      Nst.Ok s2→
      (some ((.slice (Nst.A s2) ((Nst.hs s2).length) (Nst.c s2)):Value)=some (.slice (Nst.A IZ) ((Nst.hs IZ).length) (Nst.c IZ)))∧
      ∀j2:Int,j2=(i64.wrap (j1+1))→
      ∃m8,m8<m7∧I2 m8 j2 s2) (
      ∀k2:Int,k2=(i64.wrap (k1+1))→
      ∃m6,m6<m5∧I1 m6 k2 IZ)) (
     J2 H7)) (
    J2 s6))∧∀(IC:Nat→Value)(H7:Nst),J2 H7→
  Nst.Ok H7→
  (some ((.slice (Nst.A H7) ((Nst.hs H7).length) (Nst.c H7)):Value)=some (.slice (Nst.A s6) ((Nst.hs s6).length) (Nst.c s6)))∧
  ∃J3:Int→Mem→Prop,(
   split (i1==3) (
    ∀atv3:Int,atv3=(i64.wrap (BitVec.ofInt i64.bits begins &&& BitVec.ofInt i64.bits 3).toNat)→
    (0≤(u32.wrap atv3)∧(u32.wrap atv3)<4294967296)∧
    ∀(m5:Mem),m5=(s3.write true 0 2 (u32.wrap atv3))→
    Mem.Wf m5→
    J3 atv3 m5) (
    J3 atv2 s3))∧∀(Ry:Nat→Value) atv3 (Ii:Mem),J3 atv3 Ii→
  Mem.Wf Ii→
  ∃J4:Bool→Prop,(
   split (decide (((Nst.hs s6).length:Int)>1)) (
    (0≤(1:Int)∧(1:Int)<((Nst.hs H7).length:Int))∧
    J4 (decide (atv3<(((Nst.hs H7).getD (Int.toNat 1) (Hd.mk none 0 0)).n:Int)))) (
    J4 false))∧∀(Tz:Nat→Value)(x99:Bool),J4 x99→
  ∃J5:Int→Prop,(
   split x99 (
    (0≤(1:Int)∧(1:Int)<((Nst.hs H7).length:Int))∧
    (0≤atv3∧atv3<((Nst.l H7 1).length:Int))∧
    J5 (((Nst.l H7 1).getD atv3.toNat (U32.mk 0)).v)) (
    J5 0))∧∀(_gv7:Nat→Value) want,J5 want→
  E.n=Ii.S∧
  (6:Int)=6∧
  (E.on Ii).eZ 5∧
  ∀(m5:Mem),m5=(Ii.drawn ((E.on Ii).entry 5).owner)→
  Mem.Wf m5→
  ∀(gv8:Nat),
  ∀(s2:Fl),s2=Fl.zero→
  Fl.Ok s2→
  True∧
  ∀(s4:Fl),s4=(Fl.norm (Fl.r01 (Fl.norm (Fl.start 0 5 6 7)) 0 (Nst.draw H7 (Ii.ba true ((E.on Ii).entry 5).owner 1) (Ii.ba true ((E.on Ii).entry 5).owner 2))))→
  Fl.Ok s4→
  ∃J6:Bool→Prop,(
   ((0≤(0:Int)∧(0:Int)<((Fl.rs s4).length:Int))∧(0:Int)<(15:Int))∧
   split (((Fl.rs s4).getD (Int.toNat 0) (U32.mk 0)).v !=0) (
    J6 true) (
    ((0≤(1:Int)∧(1:Int)<((Fl.rs s4).length:Int))∧(1:Int)<(15:Int))∧
    J6 (((Fl.rs s4).getD (Int.toNat 1) (U32.mk 0)).v !=want)))∧∀(_gv9:Nat→Value)(Qm:Bool),J6 Qm→
  split Qm (
   Q ⟨(.bool false),none,[],[],[]⟩) (
   split (decide (atv3<4096)) (
    ∀atv4:Int,atv4=(i64.wrap (atv3+1))→
    split ((m5.ba true 0 2) !=(u32.wrap atv4)) (
     Q ⟨(.bool false),none,[],[],[]⟩) (
     ∀i2:Int,i2=(i64.wrap (i1+1))→
     ∃m4,m4<m3∧I m4 atv4 i2 m5 H7)) (
    split ((m5.ba true 0 2) !=(u32.wrap atv3)) (
     Q ⟨(.bool false),none,[],[],[]⟩) (
     ∀i2:Int,i2=(i64.wrap (i1+1))→
     ∃m4,m4<m3∧I m4 atv3 i2 m5 H7)))) (
  ∃J2:Bool→Prop,(
   split ((Nst.draw ns (-1) 0)==0) (
    split ((Nst.draw ns ((Nst.hs ns).length:Int) 0)==0) (
     J2 ((Nst.draw ns 0 (-1))==0)) (
     J2 false)) (
    J2 false))∧∀(IC:Nat→Value)(x6:Bool),J2 x6→
  Q ⟨(.bool x6),none,[],[],[]⟩)
theorem pj:Vc2 Un prog (aN [(17,iS),(21,cJ),(22,fx),(25,iU),(24,iT),(18,iW),(19,gI),(26,kS),(15,fu)]) [8,10,11,12] Tryz.f5 (.r' (.r' (.r' (.r' (.two (.r' (.node [] (some ⟨[(8,(.one (.int .i64)))],[],[8],[]⟩) [] [] .leaf .leaf)) (.two (.node [] none [] [(3,[1])] .leaf .leaf) (.r' (.two (.r' (.two (.node [] (some ⟨[(8,(.one (.int .i64))),(10,(.one (.int .i64)))],[(9,(.p (.sl 6 0)))],[6,8]++upN 10 6++upN 37 105,[(3,(.ob 0)),(6,(.ob 13))]⟩) [] [] (.two (.two (.node [] (some ⟨[(43,(.one .bool))],[],upN 37 7,[]⟩) [] [] .leaf .leaf) .leaf) (.two (.two (.two (.r' (.node [] (some ⟨[],[],[11,12]++upN 48 29,[(6,(.ob 13))]⟩) [] [] (.r' (.two (.node [] (some ⟨[(11,(.one (.int .i64)))],[(9,(.p (.sl 6 0)))],[11,12]++upN 48 29,[(6,(.ob 13))]⟩) [] [] (.r' (.two (.two (.r' (.two (.node [] (some ⟨[(12,(.one (.int .i64)))],[(9,(.p (.sl 6 0)))],[12]++upN 54 23,[(6,(.ob 13))]⟩) [] [] (.r' (.two (.two (.node [] none [] [(3,[6]),(8,[6]),(11,[6])] .leaf .leaf) .leaf) (.node [(.s 9,1006,0)] none [] [] .leaf .leaf))) .leaf) .leaf)) .leaf) .leaf)) .leaf) .leaf)) .leaf)) (.node [(.s 9,1006,0)] none [] [] (.r' (.node [] (some ⟨[(8,(.one (.int .i64)))],[],[8]++upN 79 10,[(3,(.ob 0))]⟩) [] [] (.r' (.node [] none [] [(3,[1])] .leaf .leaf)) .leaf)) (.r' (.two (.two (.node [] (some ⟨[(99,(.one .bool))],[],upN 89 11,[]⟩) [] [] .leaf .leaf) (.node [] (some ⟨[(13,(.one (.int .u32)))],[],[13]++upN 100 6,[]⟩) [] [] .leaf .leaf)) (.r' (.two (.two (.node [] (some ⟨[(128,(.one .bool))],[],upN 114 15,[]⟩) [] [] .leaf .leaf) .leaf) (.r' (.two (.node [] none [] [(3,[1])] .leaf .leaf) .leaf)))))))) .leaf) .leaf)) .leaf) .leaf)) (.two (.node [] (some ⟨[(6,(.one .bool))],[],[6]++upN 142 15,[]⟩) [] [] .leaf .leaf) .leaf))))))))) [] gi=(∀times begins rs (ns:Nst),∀Q,(gi.body times begins rs ns Q)→ph times begins rs ns Q):=by kernel_rfl
theorem pf:LV Un prog 5 gi:=verify Tryz.func5 aa (tb:= [(17,iS),(21,cJ),(22,fx),(25,iU),(24,iT),(18,iW),(19,gI),(26,kS),(15,fu)]) ⟨Ct,ml,oH,u4,uZ,CB,zP,xV,uB,trivial⟩ (by kernel_rfl) (pj.mpr fun times begins rs ns Q h=>by
 obtain⟨Hw,h⟩:=h
 exact fun f1=>af (by decide) fun s2 gv rP rN rQ rM E OA f3 m Oz f4 E1 HD f5 m1 Hq f6 atv Ny=>⟨fun atv1=>(0≤atv1∧atv1≤4096),aA (fun c1=>allEq<| (by have h9:=xw begins;rw [← Ny]at h9;omega)) fun c1=>(by have h9:=xw begins;rw [← Ny]at h9;omega),fun _ atv1 ha=>af (dP _) fun s7 m2 KZ f8=>(by(have hD:E.on m=DB.two [0,0,0,0,0,0,0,0]:=by rw [OA,Oz,DB.xl]);have Tp:=DB.Ah (q:= [0,0,0,0,0,0,0,0]) rfl;rw [← hD]at Tp;(have hEn:E.n=m.S:=by rw [OA,Oz];rfl);have hS:=Tp.bw.1;(have hN1:DB.Nw (E.on m) 6 (DB.upd (DB.W [0,0,0,0,0,0,0,0]) 0 2 atv1) (E.on m2):=by rw [KZ,bM (x:=atv1) (by omega)];exact(Tp.to (DB.FC _)).put atv1);exact af ‹_› fun s9 M9 n1 f10 s J8 f11=>af (by grind) fun Mj=>af (by grind) fun LK=>af (by grind) fun Mi RC f15 s1 JL f16=>allEq<| ⟨fun m3 atv2 i1 s3 s6=>(m3=(50 - i1).toNat)∧(0≤i1∧i1≤50)∧(0≤atv2∧atv2≤4096)∧(DB.Nw (E.on m) 6 (DB.upd (DB.W [0,0,0,0,0,0,0,0]) 0 2 atv2) (E.on s3))∧(s6.own=true)∧s6.big,⟨_,rfl,(by omega),(ha),(hN1),(by grind),(by grind)⟩,fun m3 _ atv2 i1 s3 s6 ⟨hm,hi,Rk,hN,ho,IV⟩=>fun f17 f18=>bB ((decide ((i1:Int)<times)) && (decide ((i1:Int)<50))) (ae (fun c2=>(by grind)) fun c2=>(by grind))<| bW (fun c3=>⟨fun H7=>(H7.A=s6.A)∧(H7.hs=s6.hs)∧(H7.c=s6.c)∧(H7.own=true),aC (fun c4=>allEq<| ⟨fun m5 k1 H7=>(m5=((s6.hs.length:Int) - k1).toNat)∧(0≤k1)∧(H7.A=s6.A)∧(H7.hs=s6.hs)∧(H7.c=s6.c)∧(H7.own=true),⟨_,rfl,(by omega),(by rfl),(by rfl),(by rfl),(ho)⟩,fun m5 _ k1 H7 ⟨hm,hk,RY,SZ,S9,ho3⟩=>fun f19=>aA (fun c5=>allEq<| ⟨fun m7 j1 IZ=>(m7=(((s6.hs.getD k1.toNat (Hd.mk none 0 0)).n:Int) - j1).toNat)∧(0≤j1)∧(IZ.A=s6.A)∧(IZ.hs=s6.hs)∧(IZ.c=s6.c)∧(IZ.own=true),⟨_,rfl,(by omega),(RY),(SZ),(S9),(ho3)⟩,fun m7 _ j1 IZ ⟨hm,hj,hA4,RO,L8,Oo⟩=>fun f20=>af (by grind) fun Sl=>aA (fun c6=>af ‹_› fun Sk=>af ‹_› fun RA=>af (by have SJ:=Nst.Ok.n_eq (show Nst.Ok IZ by assumption) k1.toNat;omega) fun s24=>af (by have SJ:=Nst.Ok.n_eq (show Nst.Ok IZ by assumption) k1.toNat;omega) fun s25=>af ‹_› fun s26 s2 Is f27=>af (by rw [Is];rfl) fun s28=>allEq<| ⟨_,(by have b1:=IV.1;have b2:=IV.2 k1.toNat;rw [RO]at c6;(have h8:=ah (x:=j1+1) (by omega));omega),rfl,(by have b1:=IV.1;have b2:=IV.2 k1.toNat;rw [RO]at c6;(have h8:=ah (x:=j1+1) (by omega));omega),(by rw [Is];exact hA4),(by rw [Is];exact RO),(by rw [Is];exact L8),(by rw [Is];exact Oo)⟩) fun c6=>allEq<| ⟨_,(by have b1:=IV.1;have b2:=IV.2 k1.toNat;rw [SZ]at c5;(have h8:=ah (x:=k1+1) (by omega));omega),rfl,(by have b1:=IV.1;have b2:=IV.2 k1.toNat;rw [SZ]at c5;(have h8:=ah (x:=k1+1) (by omega));omega),(hA4),(RO),(L8),(Oo)⟩⟩) fun c5=>⟨‹_›,‹_›,‹_›,‹_›⟩⟩) fun c4=>⟨(by rfl),(by rfl),(by rfl),‹_›⟩,fun _ H7 ⟨hA2,Q7,L9,Jb⟩=>fun f29=>af (by rw [hA2,Q7,L9]) fun s30=>⟨fun atv3 Ii=>(0≤atv3∧atv3≤4096)∧(DB.Nw (E.on m) 6 (DB.upd (DB.W [0,0,0,0,0,0,0,0]) 0 2 atv3) (E.on Ii)),aC (fun c7 atv3 Md=>af (dP _) fun Ii m5 J9 f32=>⟨(by(have h9:=Gx begins;rw [← Md]at h9;omega)),(by(have h9:=Gx begins;rw [← Md]at h9;have h8:=bM (x:=atv3) (by omega);rw [h8]at J9;have h7:=hN.put atv3;rw [show(E.on s3).wr 0 2 atv3=E.on m5 by rw [J9];rfl]at h7;exact h7))⟩) fun c7=>⟨(by exact Rk),(by exact hN)⟩,fun _ atv3 Ii ⟨Oy,N9⟩=>fun f33=>bB ((decide (((((Nst.hs s6).length:Nat):Int):Int)>1)) && (decide ((atv3:Int)<((((Nst.hs H7).getD (Int.toNat 1) (Hd.mk none 0 0)).n:Nat):Int)))) (ae (fun c8=>af (by grind) fun s34=>(by grind)) fun c8=>(by grind))<| ⟨fun want=>(want=Nst.draw H7 1 atv3),bW (fun c9=>af (by grind) fun s35=>af (by have SJ:=Nst.Ok.n_eq (show Nst.Ok H7 by assumption) (Int.toNat 1);have q9:=of_decide_eq_true c9.2;have e9:(H7.hs.getD (Int.toNat 1) (Hd.mk none 0 0)).n=(H7.l 1).length:=SJ;omega) fun s36=>(by show _=Nst.draw H7 1 atv3;rw [tC ‹_› Oy.1];(rw [if_pos ⟨by rw [Q7];exact of_decide_eq_true c9.1,of_decide_eq_true c9.2⟩]))) fun c9=>(by show _=Nst.draw H7 1 atv3;rw [tC ‹_› Oy.1];(rw [if_neg (fun h9=>(by rw [Q7]at h9 c9;simp at h9 c9;omega))])),fun _ want hw=>af (hEn.trans (hS.trans N9.bw.1.symm)) fun s37=>af (by omega) fun s38=>af (N9.thr (DB.fo2 _ _)) fun s39 m5 J9 f40 gv8 s2 Is f41=>af trivial fun _ s4 IB f43=>(by have Tu:E.n=Ii.S:=hEn.trans (hS.trans N9.bw.1.symm);rw [N9.own]at J9 IB;have RV:=N9.drawn Oy;(rw [show(E.on Ii).pd.on ((E.on Ii).mem.drawn 0)=E.on m5 by rw [J9,Pd.ep E Ii Tu];rfl]at RV);(have v0:((Fl.rs s4).getD (Int.toNat 0) (U32.mk 0)).v=0:=by rw [IB];rfl);have b1:Ii.ba true 0 1=1:=N9.cp;have b2:Ii.ba true 0 2=atv3:=N9.Bh;(have v1:((Fl.rs s4).getD (Int.toNat 1) (U32.mk 0)).v=want:=by rw [hw,IB,b1,b2];rfl);have p5:m5.ba true 0 2=DB.next atv3:=RV.Bh;exact bB (((((Fl.rs s4).getD (Int.toNat 0) (U32.mk 0)).v:Int) !=0) || ((((Fl.rs s4).getD (Int.toNat 1) (U32.mk 0)).v:Int) !=want)) (af (by exact⟨⟨by omega,by rw [show(Fl.rs _).length=15 by assumption];omega⟩,by omega⟩) fun s44=>ae (fun Ki=>(by grind)) fun Ki=>af (by exact⟨⟨by omega,by rw [show(Fl.rs _).length=15 by assumption];omega⟩,by omega⟩) fun s45=>(by grind))<| aL (fun K1=>bj h (by exfalso;rw [v0,v1]at K1;simp at K1)) fun K1=>aA (fun Oe=>(by have hx:DB.next atv3=atv3+1:=DB.Dj Oe;(have h8:=ah (x:=atv3+1) (by omega));(have h9:=bM (x:=atv3+1) (by omega));exact fun atv4 Ka=>aX (fun Le=>bj h (by exfalso;rw [p5,hx,Ka,h8,h9]at Le;exact Le rfl)) fun Le=>allEq<| ⟨_,(by(have h8:=ah (x:=i1+1) (by omega));have q3:=of_decide_eq_true c3.2;omega),rfl,(by(have h8:=ah (x:=i1+1) (by omega));have q3:=of_decide_eq_true c3.2;omega),(by(rw [Ka,h8];omega)),(by(rw [Ka,h8,← hx];exact RV)),(Jb),(by unfold Nst.big;rw [Q7];exact IV)⟩)) fun Oe=>(by have hx:DB.next atv3=atv3:=DB.Dk Oe;(have h9:=bM (x:=atv3) (by omega));exact aX (fun Od=>bj h (by exfalso;rw [p5,hx,h9]at Od;exact Od rfl)) fun Od=>allEq<| ⟨_,(by(have h8:=ah (x:=i1+1) (by omega));have q3:=of_decide_eq_true c3.2;omega),rfl,(by(have h8:=ah (x:=i1+1) (by omega));have q3:=of_decide_eq_true c3.2;omega),(by exact Oy),(by(rw [← hx];exact RV)),(Jb),(by unfold Nst.big;rw [Q7];exact IV)⟩))⟩⟩⟩) fun c3=>bB ((((Nst.draw ns (-1) 0):Int)==0) && ((((Nst.draw ns (((Nst.hs ns).length:Nat):Int) 0):Int)==0) && (((Nst.draw ns 0 (-1)):Int)==0))) (ae (fun c15=>ae (fun c16=>(by grind)) fun c16=>(by grind)) fun c15=>(by grind))<| bj h (by rw [Ft,Fq,Fp];rfl)⟩)⟩)
end
end Go.Proofs.YtfmcaoaaiganbaaGreatDoor
namespace Go.Proofs.YtfmcaoaaiganbaaGreatDoor
open Go.Proofs.Tryz (prog)
open Go Go.RowKit V Go.ChangeShapes Go.WideShapes Go.ChangeAt
open Go.IntKind (i64 u32 u64)
open Enc (enc)
section
theorem Dq:ownKnob prog.godebug=none:=by kernel_rfl
theorem iD:laidOutB prog=true:=by kernel_rfl
theorem Bi(os:Os)(args:Array Value):laidMetH prog Rows.svcDrawsUptoRow.laid ((World.doorLaid prog 400 os).forCall (fun _ _=>0) ⟨#[],args,[]⟩).memory:=
 laidMetH_of_parts3 (fuel:=8) (laidMet_of_run' 8 (by kernel_rfl) (by kernel_rfl)) (by kernel_rfl) (by kernel_rfl)
section
variable {H:Type} {enc:TypeId×Value→H}
theorem sS {a:Assume} {C:Checked} {os:Os} {f:FuncId} {fn:Func} {s:OpenSpec} {k:(H:Type)→List (DataW H)→Bool}(hk:s.cond=some k) {F:Stop.Interp} {conds:List PathCond} {apart fresh handsOn again:Bool} {X:World→Array Value→Prop}
 (hX:∀(w w':World)(args:Array Value),w.heap=w'.heap→X w args→X w' args)
 (own:ownKnob C.prog.godebug=none)(started:os.Started)(noInit:C.prog.inits.idxOf? f=none)(No:C.prog.funcs[f]? =some fn)
 (witness:∃(w:World)(tape:Tape)(i:Input),w.os=os∧(w.forCall tape i).Shaped C.prog∧i.vars= []∧Input.okWide C.prog (w.forCall tape i) .any w.heap.size f i∧
  ((s.pre enc C.prog fn conds apart (w.forCall tape i).memory i.args∧X (w.forCall tape i).memory i.args)∧sizedMet enc C.prog fn s apart (w.forCall tape i).memory i.args)∧a.holds C.prog (lone (Frame.enter C.prog f i.args .normal) [] (w.forCall tape i)))
 (contract:∀(W:World)(base:Nat)(args:Array Value)(ds gs:List (DataW H))(before:List MemPlace),
  (∀(j:Nat) t v,fn.params[j]? =some t→args[j]? =some v→Value.okWide C.prog W .any base t v)→
  DataW.Whole enc C.prog fn.params.toList s.vars apart W args.toList ds gs before→
  k H (ds++gs)=true→X W args→
  Calls C.prog f args W fun e W'=>∃v,e= .returned v∧(s.at F).post enc C.prog fn apart fresh handsOn again W args v W'):
 ReturnsInHanded a C os f .any (fun w args=>(s.pre enc C.prog fn conds apart w args∧X w args)∧sizedMet enc C.prog fn s apart w args) ((s.at F).post enc C.prog fn apart fresh handsOn again):=by
 refine returnsInHanded_of_calls own started noInit witness ?_
 intro w tape i _ _ _ Im NR SY
 obtain⟨_,_,_,fn',S3,_,_,_,_,KW⟩:=Im
 have e:fn'=fn:=Option.some.inj (S3.symm.trans No)
 subst e
 obtain⟨⟨NR,hx⟩,hz⟩:=NR
 obtain⟨ds,gs,before,hw,hc,Nj⟩:=(OpenSpec.pre_some hk conds apart _ _).1 NR
 have hw':=DataW.Whole.of_heap (w':=w.forCall tape i) (by rfl) hw
 refine(contract (w.forCall tape i) w.heap.size i.args ds gs before KW hw' Nj (hX _ _ _ (by rfl) hx)).mono fun e W' ⟨v,he,hp⟩=>?_
 subst he
 exact ChangeSpec.post_blind hp
end
abbrev uS:OpenSpec:=Rows.OpenSpec.upto Rows.svcDrawsSpec
set_option maxRecDepth 100000 in
theorem vH(os:Os)(started:os.Started)(H:Type)(enc:TypeId×Value→H)(F:Stop.Interp):
 ReturnsInHanded {} Tryz.checked os 5 .any (fun w args=>(uS.pre enc prog Tryz.f5 [] false w args∧laidMetH prog Rows.svcDrawsUptoRow.laid w)∧sizedMet enc prog Tryz.f5 uS false w args)
  ((uS.at F).post enc prog Tryz.f5 false true false false):=by
 refine sS (C:=Tryz.checked) (s:=uS) (k:=Rows.uptoSmall) rfl (X:=fun w _=>laidMetH prog Rows.svcDrawsUptoRow.laid w) (fun _ _ _ hh h=>h.of_heap hh) Dq started (by kernel_rfl) Tryz.func5 ?_ ?_
 ·have hx:DataW.whole enc prog ((World.doorLaid prog 400 os).forCall (fun _ _=>0) ⟨#[],#[.slice none 0 0,.int .i64 1,.int .i64 1],[]⟩).memory Tryz.f5.params.toList uS.vars false [.slice none 0 0,.int .i64 1,.int .i64 1] 8=some ([.nil,.lit (.int .i64 1),.lit (.int .i64 1)],[],[]):=by kernel_rfl
  have Im:Input.okWideB prog ((World.doorLaid prog 400 os).forCall (fun _ _=>0) ⟨#[],#[.slice none 0 0,.int .i64 1,.int .i64 1],[]⟩) 5 ⟨#[],#[.slice none 0 0,.int .i64 1,.int .i64 1],[]⟩=true:=by kernel_rfl
  refine⟨World.doorLaid prog 400 os,fun _ _=>0,⟨#[],#[.slice none 0 0,.int .i64 1,.int .i64 1],[]⟩,rfl,World.shaped_of_RefB (by kernel_rfl) (by kernel_rfl),(Input.okWide_of_okWideB (base:=0) Im).1,(Input.okWide_of_okWideB Im).2,
   ⟨⟨(OpenSpec.pre_some rfl [] false _ _).2 ⟨_,_,_,DataW.Whole_of_whole hx,by kernel_rfl,by kernel_rfl⟩,Bi os _⟩,by kernel_rfl,_,_,_,DataW.Whole_of_whole hx,by kernel_rfl⟩,?_⟩
  simp only [Assume.holds]
  exact⟨by simp,by simp,fun _=>Modest.zero,by simp,by simp⟩
 intro W base args ds gs before Nd hW hk hL
 have KW:∀(j:Nat) t v,Tryz.f5.params[j]? =some t→args[j]? =some v→Value.okWide prog W .any base t v:=Nd
 have To:=hW
 obtain⟨p,q,hA0,hV,rfl,_,_⟩:=hW
 have hA:DataW.TrodAll enc prog W 0 (fun _=>true) true Tryz.f5.params.toList args.toList ds p:=hA0
 rw [Tryz.params5]at hA KW
 obtain⟨v0,v1,v2,d0,d1,d2,p0,p1,p2,rfl,rfl,rfl,h0,h1,h2⟩:=trodAll_three hA
 obtain⟨rfl,rfl⟩:=trodVars_none hV
 obtain⟨s,rfl,hN,RF⟩:=yE Tryz.underlying25 Tryz.underlying31 (by kernel_rfl) Tryz.underlying23 (by kernel_rfl) (KW 0 25 v0 rfl rfl) h0
 obtain⟨x1,rfl,rfl,rfl,_⟩:=open_int Tryz.underlying3 (KW 1 3 v1 rfl rfl) h1
 obtain⟨x2,rfl,rfl,rfl,_⟩:=open_int Tryz.underlying3 (KW 2 3 v2 rfl rfl) h2
 clear hA0 Nd
 have hs:s.small:=RF (by
  have hk:decide (Rows.uptoBulkAll ([d0,.lit (.int .i64 x1),.lit (.int .i64 x2)]++ [])≤1048576)=true:=hk
  have hk:=of_decide_eq_true hk
  have:=n4 (l:= [d0,.lit (.int .i64 x1),.lit (.int .i64 x2)]++ []) (d:=d0) (by simp)
  omega)
 simp only [List.append_nil,List.nil_append]at To
 have Ho:∀x∈p0,x.block<W.heap.size:=fun x hx=>by simpa using To.lt x (by simpa using hx)
 have hsat:Sat (U:=Un) [.ob 13 (fun _=>0) s] (fun _ k=>k<W.heap.size) W:=⟨fun i r hr=>by
  match i with
  | 0=>simp only [nth,Option.some.injEq]at hr;subst hr;exact hN
  | i+1=>simp [nth]at hr,fun i j hi hj HN=>by
  have hi:i<1:=hi
  have hj:j<1:=hj
  omega⟩
 refine(pf x1 x2 (fun _=>0) s (fun o=>o=_) ⟨hs,rfl⟩ _ W hsat (fun _ _ h=>by cases h)).mono ?_
 rintro e W' ⟨out,rs',X',rfl,rfl,H9,hp⟩
 have MQ:Pu W W':=hp.ch.mono fun k ⟨j,hj,_⟩=>by cases hj
 have hn:Below W.heap.size W W':=⟨MQ.kept.os,MQ.kept.tape,MQ.kept.output,MQ.kept.size,fun k hk=>MQ.kept.block k ⟨hk,fun h=>h⟩⟩
 refine⟨_,rfl,_,_,_,[],p0,[],To,trodAll_mk1 (shut_bool Tryz.underlying4 _),?_,rfl,hn.frame _,fun h=>by cases h⟩
 have:=trodAll_mk3 (Below.trod iD (by kernel_rfl) (of_decide_eq_true (by kernel_rfl)) h0 hn Ho)
  (Below.trod iD (by kernel_rfl) (of_decide_eq_true (by kernel_rfl)) h1 hn (fun x hx=>by cases hx))
  (Below.trod iD (by kernel_rfl) (of_decide_eq_true (by kernel_rfl)) h2 hn (fun x hx=>by cases hx))
 simp only [List.append_nil]at this
 exact this
theorem lf:Rows.SvcDrawsUptoSaid:=
 OpenClaim.holds_of_cond 5 Tryz.f5 rfl rfl rfl rfl rfl rfl rfl ⟨rfl,rfl,rfl,rfl,rfl⟩ rfl rfl rfl rfl rfl (by kernel_rfl) Tryz.func5 (by kernel_rfl)
  (of_decide_eq_true (by kernel_rfl)) (by unfold Func.isWrapper;(rw [if_neg (by decide+kernel)];exact⟨rfl,rfl⟩))
  (fun os started H enc _ F=>vH os started H enc F)
end
end Go.Proofs.YtfmcaoaaiganbaaGreatDoor
namespace Go.Proofs.YtfmcaoaaiganbaaGreatDoor
open Go.Proofs.Tryz (prog)
open Go
theorem svcDrawsUpto_card:Rows.SvcDrawsUptoCardSaid:=
 Claim7.holds_tied_plain_at .later [] [.data,.data] true Rows.svcDrawsUptoCard.stood.harness false
  lf (fun _ h=>by cases h) (by kernel_rfl) (fun _ h=>by cases h) svcDrawsUpto_row_tie rfl ⟨rfl,rfl⟩ (by kernel_rfl) rfl
  (fun f fn hf No=>by
   obtain rfl:f=5:=Option.some.inj ((show prog.funcNamed "warden/wardenlaw19.SvcDraws" =some 5 by kernel_rfl).symm.trans hf) |>.symm
   obtain rfl:fn=Tryz.f5:=(Option.some.inj (Tryz.func5.symm.trans No)).symm
   exact⟨by kernel_rfl,fun j t ht=>by
    rw [Tryz.params5]at ht
    have h3:t=25∨t=3:=by
     rcases j with _ | _ | _ | j
     ·left;simpa using ht.symm
     ·right;simpa using ht.symm
     ·right;simpa using ht.symm
     ·simp at ht
    rcases h3 with rfl | rfl
    ·exact(show prog.wantsStandIn 25=false by kernel_rfl)
    ·exact(show prog.wantsStandIn 3=false by kernel_rfl)⟩)
  (by kernel_rfl)
#print axioms svcDrawsUpto_card
end Go.Proofs.YtfmcaoaaiganbaaGreatDoor
