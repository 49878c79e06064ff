/- Chapter 17, BuildAll: every code, all entries and all words of every script are the document's. -/
import Derived.Test.YtinhphjfnedhgaaGreatDoorG5
import Derived.KernelRfl
import Derived.RecoverIn
import Derived.Test.YtinhphjfnedhgaaGreatDoorProg
import Derived.Tactics
import Derived.Tactics2
import Derived.Laws.Pointers
import Derived.TacticsInMore
import Derived.Test.YtinhphjfnedhgaaGreatDoorRows
import Derived.LaidHandle
import Derived.LaidLaws
import Derived.Carry
import Derived.Test.YtinhphjfnedhgaaGreatDoorTie
import Derived.Test.YtinhphjfnedhgaaGreatDoorCards
import Derived.SevenTiedAt
set_option linter.unusedVariables false
set_option linter.unusedSimpArgs false
namespace Go.Proofs.YtinhphjfnedhgaaGreatDoor
open Go.Proofs.Tryz (prog)
open Go Go.RowKit V
open Go.IntKind (i64 u32 u64)
section
set_option maxRecDepth 100000
set_option maxHeartbeats 1000000
attribute [local irreducible] Vc2 VcD
attribute [local grind=] Pd.dQ Pd.cT Pd.kz Pd.nS Pd.bk Pd.jd Pd.fJ Pd.iI Pd.nH Pd.Bn
attribute [local grind .] Pd.Ok.ent
attribute [local grind→] Pd.Ok.er
def lJ:Ctr Un:=⟨[.one (.int .u32)],[],[],[],fun v K=>(0≤(v:Int)∧(v:Int)<4294967296)∧K ⟨(.tuple #[(.int .i64 (vaI v)),(.int .i64 (vaJ v)),(.int .i64 (vaO v)),(.int .i64 (iB v))]),(some (.t [none,none,none,none])),[],[],[]⟩⟩
def HZ(v:Int)(Q:Ou Un→Prop):Prop:=
 ∃J:Bool→Prop,(
  split (decide (v≥1073741824)) (
   J true) (
   J ((v.tmod 4) !=0)))∧∀(PO:Nat→Value)(OX:Bool),J OX→
 split OX (
  Q ⟨(.tuple #[(.int .i64 0),(.int .i64 0),(.int .i64 0),(.int .i64 91)]),(some (.t [none,none,none,none])),[],[],[]⟩) (
  Q ⟨(.tuple #[(.int .i64 (i64.wrap (v.fdiv (2 ^ 22)))),(.int .i64 (i64.wrap (u32.wrap (BitVec.ofInt u32.bits (v.fdiv (2 ^ 12)) &&& BitVec.ofInt u32.bits 1023).toNat))),(.int .i64 (i64.wrap (u32.wrap (BitVec.ofInt u32.bits (v.fdiv (2 ^ 2)) &&& BitVec.ofInt u32.bits 1023).toNat))),(.int .i64 0)]),(some (.t [none,none,none,none])),[],[],[]⟩)
theorem H0:Vc2 Un prog (aR []) [] Tryz.f190 (.r' (.two (.two (.node [] (some ⟨[(12,(.one .bool))],[],upN 6 7,[]⟩) [] [] .leaf .leaf) .leaf) .leaf)) [] lJ=(∀v,∀Q,(lJ.body v Q)→HZ v Q):=by kernel_rfl
theorem HY:LV Un prog 190 lJ:=verify Tryz.func190 aa (tb:= []) trivial (by kernel_rfl) (H0.mpr fun v Q h=>by
 obtain⟨NK,h⟩:=h
 exact cN ((decide ((v:Int)≥1073741824)) || (((v:Int).tmod 4:Int) !=0)) (af (fun c1=>(by grind)) fun c1=>(by grind))<| aZ (fun c2=>ao h (by(have tm:=Int.tmod_eq_emod_of_nonneg (a:=v) (b:=4) NK.1);rw [tm]at c2;(have h:iB v=91:=by grind [iB]);simp [vaI,vaJ,vaO,h]) rfl rfl) fun c2=>ao h (by(have tm:=Int.tmod_eq_emod_of_nonneg (a:=v) (b:=4) NK.1);rw [tm]at c2;(have h:iB v=0:=by grind [iB]);rw [mE,mE,mE,HO (x:=v / 2 ^ 12) (by omega),HO (x:=v / 2 ^ 2) (by omega),aq (by omega),aq (by omega),aq (by omega)];simp [vaI,vaJ,vaO,h]) rfl rfl)
def ov:Ctr Un:=⟨[.agg [.int .u32,.bool,.bool]],[],[],[],fun va wr ex K=>(0≤(va:Int)∧(va:Int)<4294967296)∧K ⟨(.tuple #[(.int .u32 (mgW va wr ex)),(.int .i64 (cI va))]),(some (.t [none,none])),[],[],[]⟩⟩
def Kg(va:Int)(wr:Bool)(ex:Bool)(Q:Ou Un→Prop):Prop:=
 ∀(gv:Nat),
 ∃J:Bool→Prop,(
  split ((va.tmod 4096) !=0) (
   J true) (
   J (decide (va≥1073741824))))∧∀(Oi:Nat→Value)(P7:Bool),J P7→
 split P7 (
  Q ⟨(.tuple #[(.int .u32 0),(.int .i64 91)]),(some (.t [none,none])),[],[],[]⟩) (
  ∀wv:Int,wv=(u32.wrap (BitVec.ofInt u32.bits va ||| BitVec.ofInt u32.bits 1).toNat)→
  split wr (
   ∀Nw:Int,Nw=(u32.wrap (BitVec.ofInt u32.bits wv ||| BitVec.ofInt u32.bits 2).toNat)→
   split ex (
    ∀Ny:Int,Ny=(u32.wrap (BitVec.ofInt u32.bits Nw ||| BitVec.ofInt u32.bits 4).toNat)→
    Q ⟨(.tuple #[(.int .u32 Ny),(.int .i64 0)]),(some (.t [none,none])),[],[],[]⟩) (
    Q ⟨(.tuple #[(.int .u32 Nw),(.int .i64 0)]),(some (.t [none,none])),[],[],[]⟩)) (
   split ex (
    ∀Nw:Int,Nw=(u32.wrap (BitVec.ofInt u32.bits wv ||| BitVec.ofInt u32.bits 4).toNat)→
    Q ⟨(.tuple #[(.int .u32 Nw),(.int .i64 0)]),(some (.t [none,none])),[],[],[]⟩) (
    Q ⟨(.tuple #[(.int .u32 wv),(.int .i64 0)]),(some (.t [none,none])),[],[],[]⟩)))
theorem Kh:Vc2 Un prog (aR []) [4] Tryz.f127 (.r' (.two (.two (.node [] (some ⟨[(13,(.one .bool))],[],upN 5 9,[]⟩) [] [] .leaf .leaf) .leaf) .leaf)) [] ov=(∀va wr ex,∀Q,(ov.body va wr ex Q)→Kg va wr ex Q):=by kernel_rfl
theorem Kf:LV Un prog 127 ov:=verify Tryz.func127 aa (tb:= []) trivial (by kernel_rfl) (Kh.mpr fun va wr ex Q h=>by
 obtain⟨NK,h⟩:=h
 exact fun gv=>cN ((((va:Int).tmod 4096:Int) !=0) || (decide ((va:Int)≥1073741824))) (af (fun c1=>(by grind)) fun c1=>(by grind))<| aZ (fun c2=>ao h (by(have tm:=Int.tmod_eq_emod_of_nonneg (a:=va) (b:=4096) NK.1);rw [tm]at c2;(have h:cI va=91:=by grind [cI]);simp [mgW,h]) rfl rfl) fun c2=>allEq<| af (fun c3=>allEq<| af (fun c4=>allEq<| ao h (by(have tm:=Int.tmod_eq_emod_of_nonneg (a:=va) (b:=4096) NK.1);rw [tm]at c2;(have h:cI va=0:=by grind [cI]);(have h9:va % 4096=0∧va<1073741824:=by grind [cI]);rw [pK 0 1 rfl (by decide) NK (by omega),pK 1 2 rfl (by decide) (by omega) (by omega),pK 2 4 rfl (by decide) (by omega) (by omega)];simp [mgW,h,c3,c4]) rfl rfl) fun c4=>ao h (by(have tm:=Int.tmod_eq_emod_of_nonneg (a:=va) (b:=4096) NK.1);rw [tm]at c2;(have h:cI va=0:=by grind [cI]);(have h9:va % 4096=0∧va<1073741824:=by grind [cI]);rw [pK 0 1 rfl (by decide) NK (by omega),pK 1 2 rfl (by decide) (by omega) (by omega)];simp [mgW,h,c3,c4]) rfl rfl) fun c3=>af (fun c5=>allEq<| ao h (by(have tm:=Int.tmod_eq_emod_of_nonneg (a:=va) (b:=4096) NK.1);rw [tm]at c2;(have h:cI va=0:=by grind [cI]);(have h9:va % 4096=0∧va<1073741824:=by grind [cI]);rw [pK 0 1 rfl (by decide) NK (by omega),pK 2 4 rfl (by decide) (by omega) (by omega)];simp [mgW,h,c3,c5]) rfl rfl) fun c5=>ao h (by(have tm:=Int.tmod_eq_emod_of_nonneg (a:=va) (b:=4096) NK.1);rw [tm]at c2;(have h:cI va=0:=by grind [cI]);(have h9:va % 4096=0∧va<1073741824:=by grind [cI]);rw [pK 0 1 rfl (by decide) NK (by omega)];simp [mgW,h,c3,c5]) rfl rfl)
def lQ:Ctr Un:=⟨[.one (.int .u32)],[],[],[],fun v K=>(0≤(v:Int)∧(v:Int)<4294967296)∧K ⟨(.tuple #[(.agg #[(.int .u32 (dt v)),(.bool (paW v)),(.bool (paX v))]),(.int .i64 (lu v))]),(some (.t [none,none])),[],[],[]⟩⟩
def Iv(v:Int)(Q:Ou Un→Prop):Prop:=
 ∀(gv:Nat),
 ∀(NB:Nat),
 (0≤(u32.wrap (BitVec.ofInt u32.bits v &&& ~~~(BitVec.ofInt u32.bits 4095)).toNat)∧(u32.wrap (BitVec.ofInt u32.bits v &&& ~~~(BitVec.ofInt u32.bits 4095)).toNat)<4294967296)∧
 ∃J:Bool→Prop,(
  split ((cI (u32.wrap (BitVec.ofInt u32.bits v &&& ~~~(BitVec.ofInt u32.bits 4095)).toNat)) !=0) (
   J true) (
   J ((mgW (u32.wrap (BitVec.ofInt u32.bits v &&& ~~~(BitVec.ofInt u32.bits 4095)).toNat) ((u32.wrap (BitVec.ofInt u32.bits v &&& BitVec.ofInt u32.bits 2).toNat) !=0) ((u32.wrap (BitVec.ofInt u32.bits v &&& BitVec.ofInt u32.bits 4).toNat) !=0)) !=v)))∧∀(OW:Nat→Value)(SB:Bool),J SB→
 split SB (
  Q ⟨(.tuple #[(.agg #[(.int .u32 0),(.bool false),(.bool false)]),(.int .i64 142)]),(some (.t [none,none])),[],[],[]⟩) (
  Q ⟨(.tuple #[(.agg #[(.int .u32 (u32.wrap (BitVec.ofInt u32.bits v &&& ~~~(BitVec.ofInt u32.bits 4095)).toNat)),(.bool ((u32.wrap (BitVec.ofInt u32.bits v &&& BitVec.ofInt u32.bits 2).toNat) !=0)),(.bool ((u32.wrap (BitVec.ofInt u32.bits v &&& BitVec.ofInt u32.bits 4).toNat) !=0))]),(.int .i64 0)]),(some (.t [none,none])),[],[],[]⟩)
theorem Iw:Vc2 Un prog (aR [(127,ov)]) [] Tryz.f63 (.r' (.r' (.two (.r' (.two (.node [] (some ⟨[(27,(.one .bool))],[],upN 21 7,[]⟩) [] [] .leaf .leaf) .leaf)) .leaf))) [] lQ=(∀v,∀Q,(lQ.body v Q)→Iv v Q):=by kernel_rfl
theorem Iu:LV Un prog 63 lQ:=verify Tryz.func63 aa (tb:= [(127,ov)]) ⟨Kf,trivial⟩ (by kernel_rfl) (Iw.mpr fun v Q h=>by
 obtain⟨NK,h⟩:=h
 exact fun gv NB=>aj (iU _) fun s1=>cN ((((cI (u32.wrap (BitVec.ofInt u32.bits v &&& ~~~(BitVec.ofInt u32.bits 4095)).toNat)):Int) !=0) || (((mgW (u32.wrap (BitVec.ofInt u32.bits v &&& ~~~(BitVec.ofInt u32.bits 4095)).toNat) ((u32.wrap (BitVec.ofInt u32.bits v &&& BitVec.ofInt u32.bits 2).toNat:Int) !=0) ((u32.wrap (BitVec.ofInt u32.bits v &&& BitVec.ofInt u32.bits 4).toNat:Int) !=0)):Int) !=v)) (af (fun c1=>(by grind)) fun c1=>(by grind))<| aZ (fun c2=>ao h (by rw [DK NK,qP 1 2 (by decide) (by omega) NK,qP 2 4 (by decide) (by omega) NK]at c2;(have h:qm v=false:=by grind [qm]);simp [dt,paW,paX,lu,h]) rfl rfl) fun c2=>ao h (by rw [DK NK,qP 1 2 (by decide) (by omega) NK,qP 2 4 (by decide) (by omega) NK]at c2 ⊢;(have h:qm v=true:=by grind [qm]);simp [dt,paW,paX,lu,h]) rfl rfl)
def iQ:Ctr Un:=⟨[.agg [.any,.int .i64,.int .i64]],[(0,0)],[.ob 0 []],[0],fun pv ax off rm m K=>pv=Value.pointer (some (Addr.mk (rm 0) 0 none))∧K ⟨(.int .u32 (m.bD true ax off)),none,[.ob 0 m],[],[]⟩⟩
theorem qQ:LV Un prog 172 iQ:=by
 show ∀(pv:Value)(ax:Int)(off:Int)(rm:Nat→Nat)(m:Mem),∀Q:Ou Un→Prop,(pv=Value.pointer (some (Addr.mk (rm 0) 0 none))∧Q ⟨(.int .u32 (m.bD true ax off)),none,[.ob 0 m],[],[]⟩)→∀(X:Nat→Nat→Prop)(w:World),Sat (U:=Un) [(.ob 0 rm m)] X w→aC (U:=Un) [(.ob 0 rm m)] fr0 []→Calls prog 172 #[(.agg #[pv,(.int .i64 ax),(.int .i64 off)])] w (aM (U:=Un) [(.ob 0 rm m)] [0] X w Q)
 intro pv ax off rm m Q hQ X w hs hl
 obtain⟨rfl,hQ⟩:=hQ
 obtain⟨L,hg,hM,hX⟩:=lv hs
 rw [hg]
 refine(Mr hM ax off).mono ?_
 rintro e w' ⟨u,rfl,rfl,h2,q⟩
 exact aM.one (Z:=X 0) (q.mono fun k hk=>(hX k).1 hk) (show bJ 0 rm _ (X 0) w' from⟨L,hg,hX,h2⟩) (fun k hk=>.inl hk) hQ trivial
def tD:Ctr Un:=⟨[.agg [.any,.int .i64,.int .i64],.one (.int .u32)],[(0,0)],[.ob 0 []],[0],fun pv ax off v rm m K=>pv=Value.pointer (some (Addr.mk (rm 0) 0 none))∧(0≤(v:Int)∧(v:Int)<4294967296)∧K ⟨(.tuple #[]),(some (.t [])),[.ob 0 (m.write true ax off v)],[],[]⟩⟩
theorem Ix:LV Un prog 173 tD:=by
 show ∀(pv:Value)(ax:Int)(off:Int)(v:Int)(rm:Nat→Nat)(m:Mem),∀Q:Ou Un→Prop,(pv=Value.pointer (some (Addr.mk (rm 0) 0 none))∧(0≤(v:Int)∧(v:Int)<4294967296)∧Q ⟨(.tuple #[]),(some (.t [])),[.ob 0 (m.write true ax off v)],[],[]⟩)→∀(X:Nat→Nat→Prop)(w:World),Sat (U:=Un) [(.ob 0 rm m)] X w→aC (U:=Un) [(.ob 0 rm m)] fr0 []→Calls prog 173 #[(.agg #[pv,(.int .i64 ax),(.int .i64 off)]),(.int .u32 v)] w (aM (U:=Un) [(.ob 0 rm m)] [0] X w Q)
 intro pv ax off v rm m Q hQ X w hs hl
 obtain⟨rfl,hv,hQ⟩:=hQ
 obtain⟨L,hg,hM,hX⟩:=lv hs
 rw [hg]
 refine(Nd hM ax off v hv).mono ?_
 rintro e w' ⟨u,rfl,rfl,h2,q⟩
 exact aM.one (Z:=X 0) (q.mono fun k hk=>(hX k).1 hk) (show bJ 0 rm _ (X 0) w' from⟨L,hg,hX,h2⟩) (fun k hk=>.inl hk) hQ (KnO.tup _ (by simp))
def oy:Ctr Un:=⟨[.one (.obj 0 0),.one (.int .i64),.one (.int .i64)],[],[.ob 1 [(1,1,0)],.ob 0 []],[],fun ax off r E rm m K=>K ⟨(.agg #[(.func (.func 172) #[(.agg #[(.pointer (some (Addr.mk (rm 0) 0 none))),(.int .i64 ax),(.int .i64 off)])] #[]),(.func (.func 173) #[(.agg #[(.pointer (some (Addr.mk (rm 0) 0 none))),(.int .i64 ax),(.int .i64 off)])] #[])]),none,[],[],[]⟩⟩
def M1(ax:Int)(off:Int)(r:Nat→Nat)(E:Pd)(rm:Nat→Nat)(m:Mem)(Q:Ou Un→Prop):Prop:=
 Pd.Ok E→
 Mem.Wf m→
 ∀(gv:Nat),
 (some (.pointer (some (Addr.mk (rm 0) 0 none))):Option Value)=some (.pointer (some (Addr.mk (rm 0) 0 none)))∧
 ∀(NB:Nat),
 Q ⟨(.agg #[(.func (.func 172) #[(.agg #[(.pointer (some (Addr.mk (rm 0) 0 none))),(.int .i64 ax),(.int .i64 off)])] #[]),(.func (.func 173) #[(.agg #[(.pointer (some (Addr.mk (rm 0) 0 none))),(.int .i64 ax),(.int .i64 off)])] #[])]),none,[],[],[]⟩
theorem M3:Vc2 Un prog (aR [(14,br)]) [] Tryz.f130 .leaf [] oy=(∀ax off r (E:Pd) rm (m:Mem),∀Q,(oy.body ax off r E rm m Q)→M1 ax off r E rm m Q):=by kernel_rfl
theorem Iy:LV Un prog 130 oy:=verify Tryz.func130 aa (tb:= [(14,br)]) ⟨dq,trivial⟩ (by kernel_rfl) (M3.mpr fun ax off r E rm m Q h f1 f2 gv=>aj (by rfl) fun s3 NB=>h)
def iR:Ctr Un:=⟨[.one (.obj 0 0),.one (.int .i64),.one (.int .i64),.one (.int .i64)],[],[.ob 1 [(1,1,0)],.ob 0 []],[],fun s p t r E rm m K=>E.n=m.S∧K ⟨(.bool ((E.on m).of p t s)),none,[],[],[]⟩⟩
def Kl(s:Int)(p:Int)(t:Int)(r:Nat→Nat)(E:Pd)(rm:Nat→Nat)(m:Mem)(Q:Ou Un→Prop):Prop:=
 Pd.Ok E→
 Mem.Wf m→
 E.n=m.S∧
 ∀(gv:Nat),
 ∃J:Bool→Prop,(
  split (((E.on m).aO p)==0) (
   split (((E.on m).entry p).typ==t) (
    J (((E.on m).entry p).owner==s)) (
    J false)) (
   J false))∧∀(Oi:Nat→Value)(x8:Bool),J x8→
 Q ⟨(.bool x8),none,[],[],[]⟩
theorem Km:Vc2 Un prog (aR [(18,dx)]) [] Tryz.f129 (.r' (.r' (.two (.node [] (some ⟨[(8,(.one .bool))],[],[8]++upN 17 14,[]⟩) [] [] .leaf .leaf) .leaf))) [] iR=(∀s p t r (E:Pd) rm (m:Mem),∀Q,(iR.body s p t r E rm m Q)→Kl s p t r E rm m Q):=by kernel_rfl
section
attribute [local grind=] DB.entry DB.aO DB.of DB.is
theorem xc:LV Un prog 129 iR:=verify Tryz.func129 aa (tb:= [(18,dx)]) ⟨jy,trivial⟩ (by kernel_rfl) (Km.mpr fun s p t r E rm m Q h=>by
 obtain⟨NK,h⟩:=h
 exact fun f1 f2=>aj ‹_› fun s3 gv=>cN (((((E.on m).aO p):Int)==0) && (((((E.on m).entry p).typ:Int)==t) && ((((E.on m).entry p).owner:Int)==s))) (af (fun c1=>af (fun c2=>(by grind)) fun c2=>(by grind)) fun c1=>(by grind))<| gZ h (by grind))
end
def gw:Ctr Un:=⟨[.one (.obj 0 0),.one (.int .i64)],[],[.ob 1 [(1,1,0)],.ob 0 []],[1],fun s r E rm m K=>E.n=m.S∧K ⟨(.tuple #[(.int .i64 ((E.on m).tbl s)),(.int .i64 ((E.on m).dG s))]),(some (.t [none,none])),[.ob 0 m],[],[]⟩⟩
def Iq(s:Int)(r:Nat→Nat)(E:Pd)(rm:Nat→Nat)(m:Mem)(Q:Ou Un→Prop):Prop:=
 Pd.Ok E→
 Mem.Wf m→
 E.n=m.S∧
 ∀(gv:Nat),
 ∀PQ:Bool,PQ=((((E.on m).aO s):Int) !=0)→
 split PQ (
  Q ⟨(.tuple #[(.int .i64 0),(.int .i64 5)]),(some (.t [none,none])),[.ob 0 m],[],[]⟩) (
  ∀RX:Bool,RX=((((E.on m).entry s).typ:Int) !=1)→
  split RX (
   Q ⟨(.tuple #[(.int .i64 0),(.int .i64 124)]),(some (.t [none,none])),[.ob 0 m],[],[]⟩) (
   ∀O1:Bool,O1=((((E.on m).entry s).state:Int)==3)→
   split O1 (
    Q ⟨(.tuple #[(.int .i64 0),(.int .i64 3)]),(some (.t [none,none])),[.ob 0 m],[],[]⟩) (
    (.pointer (some (Addr.mk (rm 0) 0 none)))=Value.pointer (some (Addr.mk (rm 0) 0 none))∧
    ∀(m1:Mem),m1=m→
    Mem.Wf m1→
    ∃J:Bool→Prop,(
     E.n=m1.S∧
     split (decide ((i64.wrap (m.bD true s 0))≥(E.on m1).S)) (
      J true) (
      E.n=m1.S∧
      J (!((E.on m1).of (i64.wrap (m.bD true s 0)) 3 s))))∧∀(Oi:Nat→Value)(Qj:Bool),J Qj→
    split Qj (
     Q ⟨(.tuple #[(.int .i64 0),(.int .i64 124)]),(some (.t [none,none])),[.ob 0 m1],[],[]⟩) (
     Q ⟨(.tuple #[(.int .i64 (i64.wrap (m.bD true s 0))),(.int .i64 0)]),(some (.t [none,none])),[.ob 0 m1],[],[]⟩))))
theorem Ir:Vc2 Un prog (aR [(18,dx),(130,oy),(172,iQ),(120,l5),(129,iR)]) [15,18,22] Tryz.f91 (.r' (.r' (.r' (.r' (.two (.two (.node [] (some ⟨[(43,(.one .bool))],[],upN 31 13,[]⟩) [] [] .leaf .leaf) .leaf) .leaf))))) [] gw=(∀s r (E:Pd) rm (m:Mem),∀Q,(gw.body s r E rm m Q)→Iq s r E rm m Q):=by kernel_rfl
section
attribute [local grind=] DB.entry DB.aO DB.of DB.is DB.tbl DB.dG DB.word
theorem tC:LV Un prog 91 gw:=verify Tryz.func91 aa (tb:= [(18,dx),(130,oy),(172,iQ),(120,l5),(129,iR)]) ⟨jy,Iy,qQ,AK,xc,trivial⟩ (by kernel_rfl) (Ir.mpr fun s r E rm m Q h=>by
 obtain⟨NK,h⟩:=h
 exact fun f1 f2=>(by(have hwr:=fun(p o:Int)=>xQ (E:=E) f2 p o);(have UF:=fun(p o:Int)=>aq (x:=m.bD true p o) (by have:=hwr p o;simp only [DB.word,Pd.jd]at this;omega));exact aj ‹_› fun s3 gv=>allEq<| aB (fun c1=>ao h (congrArg (fun l=>Value.tuple (List.toArray l)) (ab (aE (by grind)) (ab (aE (by grind)) rfl))) rfl rfl) fun c1=>allEq<| aB (fun c2=>ao h (congrArg (fun l=>Value.tuple (List.toArray l)) (ab (aE (by grind)) (ab (aE (by grind)) rfl))) rfl rfl) fun c2=>allEq<| aG (fun c3=>ao h (congrArg (fun l=>Value.tuple (List.toArray l)) (ab (aE (by grind)) (ab (aE (by grind)) rfl))) rfl rfl) fun c3=>aj (by grind) fun s4 m1 N5 f5=>cN ((decide ((i64.wrap (m.bD true s 0):Int)≥((E.on m1).S:Int))) || (!((E.on m1).of (i64.wrap (m.bD true s 0)) 3 s))) (aj (by grind) fun s6=>af (fun c4=>(by grind)) fun c4=>aj ‹_› fun s7=>(by grind))<| aZ (fun c5=>(by subst N5;have hwq:=UF s 0;exact ao h (congrArg (fun l=>Value.tuple (List.toArray l)) (ab (aE (by grind)) (ab (aE (by grind)) rfl))) (ab (uO0 (by grind)) rfl) rfl)) fun c5=>(by subst N5;have hwq:=UF s 0;exact ao h (congrArg (fun l=>Value.tuple (List.toArray l)) (ab (aE (by grind)) (ab (aE (by grind)) rfl))) (ab (uO0 (by grind)) rfl) rfl)))
end
def ke:Ctr Un:=⟨[.one (.obj 0 0),.one (.int .i64),.one (.int .u32)],[],[.ob 1 [(1,1,0)],.ob 0 []],[],fun s v r E rm m K=>E.n=m.S∧(0≤(v:Int)∧(v:Int)<4294967296)∧K ⟨(.tuple #[(.int .i64 (cl v)),(.bool ((E.on m).pF s v))]),(some (.t [none,none])),[],[],[]⟩⟩
def FL(s:Int)(v:Int)(r:Nat→Nat)(E:Pd)(rm:Nat→Nat)(m:Mem)(Q:Ou Un→Prop):Prop:=
 Pd.Ok E→
 Mem.Wf m→
 (0≤v∧v<4294967296)∧
 ∃J:Int→Bool→Prop,(
  split ((kZ v)==0) (
   E.n=m.S∧
   J (cl v) ((E.on m).of (cl v) 4 s)) (
   J (cl v) false))∧∀(PO:Nat→Value) x6 (x7:Bool),J x6 x7→
 Q ⟨(.tuple #[(.int .i64 x6),(.bool x7)]),(some (.t [none,none])),[],[],[]⟩
theorem FM:Vc2 Un prog (aR [(182,fy),(129,iR)]) [] Tryz.f191 (.r' (.r' (.two (.node [] (some ⟨[(6,(.one (.int .i64))),(7,(.one .bool))],[],[6,7]++upN 15 9,[]⟩) [] [] .leaf .leaf) .leaf))) [] ke=(∀s v r (E:Pd) rm (m:Mem),∀Q,(ke.body s v r E rm m Q)→FL s v r E rm m Q):=by kernel_rfl
section
attribute [local grind=] DB.entry DB.aO DB.of DB.is DB.pF
theorem FK:LV Un prog 191 ke:=verify Tryz.func191 aa (tb:= [(182,fy),(129,iR)]) ⟨tZ,xc,trivial⟩ (by kernel_rfl) (FM.mpr fun s v r E rm m Q h=>by
 obtain⟨NK,Oj,h⟩:=h
 exact fun f1 f2=>aj ‹_› fun s3=>dup2<| aG (fun c1=>aj ‹_› fun s4=>ao h (congrArg (fun l=>Value.tuple (List.toArray l)) (ab rfl (ab (eQb (by grind)) rfl))) rfl rfl) fun c1=>ao h (congrArg (fun l=>Value.tuple (List.toArray l)) (ab rfl (ab (eQb (by grind)) rfl))) rfl rfl)
end
def ic:Ctr Un:=⟨[.one (.obj 0 0),.one (.int .i64),.one (.int .i64),.one (.int .i64)],[],[.ob 1 [(1,1,0)],.ob 0 []],[0,1],fun s i q r E rm m K=>E.n=m.S∧K ⟨(.int .i64 ((E.on m).nb s i q)),none,[.ob 1 (((E.on m).add s i q).pd),.ob 0 (((E.on m).add s i q).mem)],[],[]⟩⟩
def z2(s:Int)(i:Int)(q:Int)(r:Nat→Nat)(E:Pd)(rm:Nat→Nat)(m:Mem)(Q:Ou Un→Prop):Prop:=
 Pd.Ok E→
 Mem.Wf m→
 E.n=m.S∧
 ∀(m1:Mem),m1=m→
 Mem.Wf m1→
 split (((E.on m).dG s) !=0) (
  Q ⟨(.int .i64 ((E.on m).dG s)),none,[.ob 1 E,.ob 0 m1],[],[]⟩) (
  ∃J:Bool→Prop,(
   split (decide (i<0)) (
    J true) (
    J (decide (i≥256))))∧∀(PO:Nat→Value)(OU:Bool),J OU→
  split OU (
   Q ⟨(.int .i64 4),none,[.ob 1 E,.ob 0 m1],[],[]⟩) (
   E.n=m1.S∧
   ∀(NB:Nat),
   split (((E.on m1).aO q) !=0) (
    Q ⟨(.int .i64 5),none,[.ob 1 E,.ob 0 m1],[],[]⟩) (
    E.n=m1.S∧
    split (!((E.on m1).of q 4 s)) (
     Q ⟨(.int .i64 124),none,[.ob 1 E,.ob 0 m1],[],[]⟩) (
     ∀(NZ:Nat),
     (.pointer (some (Addr.mk (rm 0) 0 none)))=Value.pointer (some (Addr.mk (rm 0) 0 none))∧
     ∀(m2:Mem),m2=m1→
     Mem.Wf m2→
     split ((m1.bD true ((E.on m).tbl s) i) !=0) (
      Q ⟨(.int .i64 140),none,[.ob 1 E,.ob 0 m2],[],[]⟩) (
      (.pointer (some (Addr.mk (rm 0) 0 none)))=Value.pointer (some (Addr.mk (rm 0) 0 none))∧
      (0≤(cm q)∧(cm q)<4294967296)∧
      ∀(m3:Mem),m3=(m2.write true ((E.on m).tbl s) i (cm q))→
      Mem.Wf m3→
      Q ⟨(.int .i64 0),none,[.ob 1 E,.ob 0 m3],[],[]⟩)))))
theorem z3:Vc2 Un prog (aR [(91,gw),(18,dx),(129,iR),(130,oy),(172,iQ),(131,jj),(173,tD)]) [] Tryz.f65 (.r' (.r' (.r' (.two (.two (.node [] (some ⟨[(30,(.one .bool))],[],upN 25 6,[]⟩) [] [] .leaf .leaf) .leaf) .leaf)))) [] ic=(∀s i q r (E:Pd) rm (m:Mem),∀Q,(ic.body s i q r E rm m Q)→z2 s i q r E rm m Q):=by kernel_rfl
section
attribute [local grind=] DB.entry DB.aO DB.of DB.is DB.word DB.nb DB.add Pd.jW Mem.bI
theorem z1:LV Un prog 65 ic:=verify Tryz.func65 aa (tb:= [(91,gw),(18,dx),(129,iR),(130,oy),(172,iQ),(131,jj),(173,tD)]) ⟨tC,jy,xc,Iy,qQ,zo,Ix,trivial⟩ (by kernel_rfl) (z3.mpr fun s i q r E rm m Q h=>by
 obtain⟨NK,h⟩:=h
 exact fun f1 f2=>(by(have hwr:=fun(p o:Int)=>xQ (E:=E) f2 p o);(have UF:=fun(p o:Int)=>aq (x:=m.bD true p o) (by have:=hwr p o;simp only [DB.word,Pd.jd]at this;omega));exact aj ‹_› fun s3 m1 N5 f4=>aB (fun c1=>ao h (aE (by grind)) (ab (uO1 (by grind)) (ab (uO0 (by grind)) rfl)) rfl) fun c1=>cN ((decide ((i:Int)<0)) || (decide ((i:Int)≥256))) (af (fun c2=>(by grind)) fun c2=>(by grind))<| aZ (fun c3=>ao h (aE (by grind)) (ab (uO1 (by grind)) (ab (uO0 (by grind)) rfl)) rfl) fun c3=>aj (by grind) fun s5 NB=>aB (fun c4=>ao h (aE (by grind)) (ab (uO1 (by grind)) (ab (uO0 (by grind)) rfl)) rfl) fun c4=>aj ‹_› fun s6=>cD (fun c5=>ao h (aE (by grind)) (ab (uO1 (by grind)) (ab (uO0 (by grind)) rfl)) rfl) fun c5 NZ=>aj (by grind) fun s7 m2 Pc f8=>aB (fun c6=>ao h (aE (by grind)) (ab (uO1 (by grind)) (ab (uO0 (by grind)) rfl)) rfl) fun c6=>aj ‹_› fun s9=>aj (mW _) fun Td m3 Ol f11=>ao h (aE (by grind)) (ab (uO1 (by grind)) (ab (uO0 (by grind)) rfl)) rfl))
end
def ox:Ctr Un:=⟨[.one (.obj 0 0),.one (.int .i64),.one (.int .u32)],[],[.ob 1 [(1,1,0)],.ob 0 []],[1],fun s va r E rm m K=>E.n=m.S∧(0≤(va:Int)∧(va:Int)<4294967296)∧split (decide ((E.on m).dN s va=0)) (K ⟨(.tuple #[(.agg #[(.func (.func 172) #[(.agg #[(.pointer (some (Addr.mk (rm 0) 0 none))),(.int .i64 ((E.on m).plP s va)),(.int .i64 (vaJ va))])] #[]),(.func (.func 173) #[(.agg #[(.pointer (some (Addr.mk (rm 0) 0 none))),(.int .i64 ((E.on m).plP s va)),(.int .i64 (vaJ va))])] #[])]),(.int .i64 0)]),(some (.t [none,none])),[.ob 0 m],[],[]⟩) (K ⟨(.tuple #[(.agg #[.nilFunc,.nilFunc]),(.int .i64 ((E.on m).dN s va))]),(some (.t [none,none])),[.ob 0 m],[],[]⟩)⟩
def Kt(s:Int)(va:Int)(r:Nat→Nat)(E:Pd)(rm:Nat→Nat)(m:Mem)(Q:Ou Un→Prop):Prop:=
 Pd.Ok E→
 Mem.Wf m→
 ∀(gv:Nat),
 E.n=m.S∧
 ∀(m1:Mem),m1=m→
 Mem.Wf m1→
 split (((E.on m).dG s) !=0) (
  Q ⟨(.tuple #[(.agg #[.nilFunc,.nilFunc]),(.int .i64 ((E.on m).dG s))]),(some (.t [none,none])),[.ob 0 m1],[],[]⟩) (
  (0≤va∧va<4294967296)∧
  split ((iB va) !=0) (
   Q ⟨(.tuple #[(.agg #[.nilFunc,.nilFunc]),(.int .i64 91)]),(some (.t [none,none])),[.ob 0 m1],[],[]⟩) (
   (.pointer (some (Addr.mk (rm 0) 0 none)))=Value.pointer (some (Addr.mk (rm 0) 0 none))∧
   ∀(m2:Mem),m2=m1→
   Mem.Wf m2→
   E.n=m2.S∧
   (0≤(m1.bD true ((E.on m).tbl s) (vaI va))∧(m1.bD true ((E.on m).tbl s) (vaI va))<4294967296)∧
   split (!((E.on m2).pF s (m1.bD true ((E.on m).tbl s) (vaI va)))) (
    Q ⟨(.tuple #[(.agg #[.nilFunc,.nilFunc]),(.int .i64 141)]),(some (.t [none,none])),[.ob 0 m2],[],[]⟩) (
    Q ⟨(.tuple #[(.agg #[(.func (.func 172) #[(.agg #[(.pointer (some (Addr.mk (rm 0) 0 none))),(.int .i64 (cl (m1.bD true ((E.on m).tbl s) (vaI va)))),(.int .i64 (vaJ va))])] #[]),(.func (.func 173) #[(.agg #[(.pointer (some (Addr.mk (rm 0) 0 none))),(.int .i64 (cl (m1.bD true ((E.on m).tbl s) (vaI va)))),(.int .i64 (vaJ va))])] #[])]),(.int .i64 0)]),(some (.t [none,none])),[.ob 0 m2],[],[]⟩)))
theorem Ku:Vc2 Un prog (aR [(91,gw),(190,lJ),(130,oy),(172,iQ),(191,ke)]) [] Tryz.f174 .leaf [] ox=(∀s va r (E:Pd) rm (m:Mem),∀Q,(ox.body s va r E rm m Q)→Kt s va r E rm m Q):=by kernel_rfl
section
attribute [local grind=] DB.entry DB.aO DB.of DB.is DB.word DB.dN DB.plP DB.bK
theorem Ks:LV Un prog 174 ox:=verify Tryz.func174 aa (tb:= [(91,gw),(190,lJ),(130,oy),(172,iQ),(191,ke)]) ⟨tC,HY,Iy,qQ,FK,trivial⟩ (by kernel_rfl) (Ku.mpr fun s va r E rm m Q h=>by
 obtain⟨NK,Oj,h⟩:=h
 exact fun f1 f2 gv=>aj ‹_› fun s3 m1 N5 f4=>aB (fun c1=>ao (bq h (by grind)) (congrArg (fun l=>Value.tuple (List.toArray l)) (ab rfl (ab (aE (by grind)) rfl))) (ab (uO0 (by grind)) rfl) rfl) fun c1=>aj ‹_› fun s5=>aB (fun c2=>ao (bq h (by grind)) (congrArg (fun l=>Value.tuple (List.toArray l)) (ab rfl (ab (aE (by grind)) rfl))) (ab (uO0 (by grind)) rfl) rfl) fun c2=>aj (by grind) fun s6 m2 Pc f7=>aj (by grind) fun s8=>aj (nR ‹_› _ _ _) fun s9=>cD (fun c3=>ao (bq h (by grind)) (congrArg (fun l=>Value.tuple (List.toArray l)) (ab rfl (ab (aE (by grind)) rfl))) (ab (uO0 (by grind)) rfl) rfl) fun c3=>ao (bL h (by grind)) (congrArg (fun l=>Value.tuple (List.toArray l)) (ab (congrArg (fun l=>Value.agg (List.toArray l)) (ab (by grind) (ab (by grind) rfl))) (ab rfl rfl))) (ab (uO0 (by grind)) rfl) rfl)
end
def kN:Ctr Un:=⟨[.one (.obj 0 0),.one (.int .i64),.one (.int .u32)],[],[.ob 1 [(1,1,0)],.ob 0 []],[1],fun s va r E rm m K=>E.n=m.S∧(0≤(va:Int)∧(va:Int)<4294967296)∧split (decide ((E.on m).bK s va=0)) (K ⟨(.tuple #[(.agg #[(.func (.func 172) #[(.agg #[(.pointer (some (Addr.mk (rm 0) 0 none))),(.int .i64 ((E.on m).plP s va)),(.int .i64 (vaJ va))])] #[]),(.func (.func 173) #[(.agg #[(.pointer (some (Addr.mk (rm 0) 0 none))),(.int .i64 ((E.on m).plP s va)),(.int .i64 (vaJ va))])] #[])]),(.int .i64 0)]),(some (.t [none,none])),[.ob 0 m],[],[]⟩) (K ⟨(.tuple #[(.agg #[.nilFunc,.nilFunc]),(.int .i64 ((E.on m).bK s va))]),(some (.t [none,none])),[.ob 0 m],[],[]⟩)⟩
def Kq(s:Int)(va:Int)(r:Nat→Nat)(E:Pd)(rm:Nat→Nat)(m:Mem)(Q:Ou Un→Prop):Prop:=
 Pd.Ok E→
 Mem.Wf m→
 ∀(gv:Nat),
 E.n=m.S∧
 (0≤va∧va<4294967296)∧
 split (decide ((E.on m).dN s va=0)) (
  ∀(m1:Mem),m1=m→
  Mem.Wf m1→
  ∀(NB:Nat),
  (.pointer (some (Addr.mk (rm 0) 0 none)))=Value.pointer (some (Addr.mk (rm 0) 0 none))∧
  ∀(m2:Mem),m2=m1→
  Mem.Wf m2→
  split ((m1.bD true ((E.on m).plP s va) (vaJ va)) !=0) (
   Q ⟨(.tuple #[(.agg #[.nilFunc,.nilFunc]),(.int .i64 140)]),(some (.t [none,none])),[.ob 0 m2],[],[]⟩) (
   Q ⟨(.tuple #[(.agg #[(.func (.func 172) #[(.agg #[(.pointer (some (Addr.mk (rm 0) 0 none))),(.int .i64 ((E.on m).plP s va)),(.int .i64 (vaJ va))])] #[]),(.func (.func 173) #[(.agg #[(.pointer (some (Addr.mk (rm 0) 0 none))),(.int .i64 ((E.on m).plP s va)),(.int .i64 (vaJ va))])] #[])]),(.int .i64 0)]),(some (.t [none,none])),[.ob 0 m2],[],[]⟩)) (
  ∀(m1:Mem),m1=m→
  Mem.Wf m1→
  ∀(NB:Nat),
  split (((E.on m).dN s va) !=0) (
   Q ⟨(.tuple #[(.agg #[.nilFunc,.nilFunc]),(.int .i64 ((E.on m).dN s va))]),(some (.t [none,none])),[.ob 0 m1],[],[]⟩) (
   False))
theorem Kr:Vc2 Un prog (aR [(174,ox),(172,iQ)]) [] Tryz.f132 .leaf [] kN=(∀s va r (E:Pd) rm (m:Mem),∀Q,(kN.body s va r E rm m Q)→Kq s va r E rm m Q):=by kernel_rfl
section
attribute [local grind=] DB.entry DB.aO DB.of DB.is DB.word DB.dN DB.plP DB.bK
theorem DR:LV Un prog 132 kN:=verify Tryz.func132 aa (tb:= [(174,ox),(172,iQ)]) ⟨Ks,qQ,trivial⟩ (by kernel_rfl) (Kr.mpr fun s va r E rm m Q h=>by
 obtain⟨NK,Oj,h⟩:=h
 exact fun f1 f2 gv=>aj ‹_› fun s3=>aj ‹_› fun s4=>ar (fun c1 m1 N5 f5 NB=>aj (by grind) fun s6 m2 Pc f7=>aB (fun c2=>ao (bq h (by grind)) (congrArg (fun l=>Value.tuple (List.toArray l)) (ab rfl (ab (aE (by grind)) rfl))) (ab (uO0 (by grind)) rfl) rfl) fun c2=>ao (bL h (by grind)) rfl (ab (uO0 (by grind)) rfl) rfl) fun c1 m1 N5 f8 NB=>aB (fun c3=>ao (bq h (by grind)) (congrArg (fun l=>Value.tuple (List.toArray l)) (ab rfl (ab (aE (by grind)) rfl))) (ab (uO0 (by grind)) rfl) rfl) fun c3=>(by exfalso;omega))
end
def ow:Ctr Un:=⟨[.one (.obj 0 0),.one (.int .i64),.one (.int .u32)],[],[.ob 1 [(1,1,0)],.ob 0 []],[1],fun s va r E rm m K=>E.n=m.S∧(0≤(va:Int)∧(va:Int)<4294967296)∧K ⟨(.int .i64 ((E.on m).bK s va)),none,[.ob 0 m],[],[]⟩⟩
def Kj(s:Int)(va:Int)(r:Nat→Nat)(E:Pd)(rm:Nat→Nat)(m:Mem)(Q:Ou Un→Prop):Prop:=
 Pd.Ok E→
 Mem.Wf m→
 E.n=m.S∧
 (0≤va∧va<4294967296)∧
 split (decide ((E.on m).bK s va=0)) (
  ∀(m1:Mem),m1=m→
  Mem.Wf m1→
  ∀(gv:Nat),
  Q ⟨(.int .i64 0),none,[.ob 0 m1],[],[]⟩) (
  ∀(m1:Mem),m1=m→
  Mem.Wf m1→
  ∀(gv:Nat),
  Q ⟨(.int .i64 ((E.on m).bK s va)),none,[.ob 0 m1],[],[]⟩)
theorem Kk:Vc2 Un prog (aR [(132,kN)]) [] Tryz.f156 .leaf [] ow=(∀s va r (E:Pd) rm (m:Mem),∀Q,(ow.body s va r E rm m Q)→Kj s va r E rm m Q):=by kernel_rfl
section
attribute [local grind=] DB.entry DB.aO DB.of DB.is DB.word DB.dN DB.plP DB.bK
theorem Ki:LV Un prog 156 ow:=verify Tryz.func156 aa (tb:= [(132,kN)]) ⟨DR,trivial⟩ (by kernel_rfl) (Kk.mpr fun s va r E rm m Q h=>by
 obtain⟨NK,Oj,h⟩:=h
 exact fun f1 f2=>aj ‹_› fun s3=>aj ‹_› fun s4=>ar (fun c1 m1 N5 f5 gv=>ao h (aE ‹_›) (ab (uO0 (by grind)) rfl) rfl) fun c1 m1 N5 f6 gv=>ao h rfl (ab (uO0 (by grind)) rfl) rfl)
end
def nm:Ctr Un:=⟨[.one (.obj 0 0),.one (.int .i64),.one (.int .u32),.agg [.bool,.int .i64,.bool,.bool]],[],[.ob 1 [(1,1,0)],.ob 0 []],[0,1],fun s va ma mb mc md r E rm m K=>E.n=m.S∧(0≤(va:Int)∧(va:Int)<4294967296)∧K ⟨(.int .i64 ((E.on m).lq s va (Mp.mk ma mb mc md))),none,[.ob 1 (((E.on m).put s va (Mp.mk ma mb mc md)).pd),.ob 0 (((E.on m).put s va (Mp.mk ma mb mc md)).mem)],[],[]⟩⟩
def L0(s:Int)(va:Int)(ma:Bool)(mb:Int)(mc:Bool)(md:Bool)(r:Nat→Nat)(E:Pd)(rm:Nat→Nat)(m:Mem)(Q:Ou Un→Prop):Prop:=
 Pd.Ok E→
 Mem.Wf m→
 ∀(gv:Nat),
 E.n=m.S∧
 (0≤va∧va<4294967296)∧
 split (decide ((E.on m).bK s va=0)) (
  ∀(m1:Mem),m1=m→
  Mem.Wf m1→
  ∀(NB:Nat),
  split ((Mp.mk ma mb mc md).err !=0) (
   Q ⟨(.int .i64 ((Mp.mk ma mb mc md).err)),none,[.ob 1 E,.ob 0 m1],[],[]⟩) (
   (.pointer (some (Addr.mk (rm 0) 0 none)))=Value.pointer (some (Addr.mk (rm 0) 0 none))∧
   (0≤((Mp.mk ma mb mc md).word)∧((Mp.mk ma mb mc md).word)<4294967296)∧
   ∀(m2:Mem),m2=(m1.write true ((E.on m).plP s va) (vaJ va) ((Mp.mk ma mb mc md).word))→
   Mem.Wf m2→
   Q ⟨(.int .i64 0),none,[.ob 1 E,.ob 0 m2],[],[]⟩)) (
  ∀(m1:Mem),m1=m→
  Mem.Wf m1→
  ∀(NB:Nat),
  split (((E.on m).bK s va) !=0) (
   Q ⟨(.int .i64 ((E.on m).bK s va)),none,[.ob 1 E,.ob 0 m1],[],[]⟩) (
   split ((Mp.mk ma mb mc md).err !=0) (
    Q ⟨(.int .i64 ((Mp.mk ma mb mc md).err)),none,[.ob 1 E,.ob 0 m1],[],[]⟩) (
    False)))
theorem L4:Vc2 Un prog (aR [(132,kN),(133,pf),(173,tD)]) [] Tryz.f67 .leaf [] nm=(∀s va ma mb mc md r (E:Pd) rm (m:Mem),∀Q,(nm.body s va ma mb mc md r E rm m Q)→L0 s va ma mb mc md r E rm m Q):=by kernel_rfl
section
attribute [local grind=] DB.entry DB.aO DB.of DB.is DB.word DB.dN DB.plP DB.bK DB.lq DB.put Pd.jW Mem.bI
theorem It:LV Un prog 67 nm:=verify Tryz.func67 aa (tb:= [(132,kN),(133,pf),(173,tD)]) ⟨DR,EV,Ix,trivial⟩ (by kernel_rfl) (L4.mpr fun s va ma mb mc md r E rm m Q h=>by
 obtain⟨NK,Oj,h⟩:=h
 exact fun f1 f2 gv=>aj ‹_› fun s3=>aj ‹_› fun s4=>ar (fun c1 m1 N5 f5 NB=>aB (fun c2=>ao h (aE (by grind)) (ab (uO1 (by grind)) (ab (uO0 (by grind)) rfl)) rfl) fun c2=>aj (by grind) fun s6=>aj (wj _) fun s7 m2 Pc f8=>ao h (aE (by grind)) (ab (uO1 (by grind)) (ab (uO0 (by grind)) rfl)) rfl) fun c1 m1 N5 f9 NB=>aB (fun c3=>ao h (aE (by grind)) (ab (uO1 (by grind)) (ab (uO0 (by grind)) rfl)) rfl) fun c3=>aB (fun c4=>ao h (aE (by omega)) (ab (uO1 (by omega)) (ab (uO0 (by omega)) rfl)) rfl) fun c4=>(by exfalso;omega))
end
end
end Go.Proofs.YtinhphjfnedhgaaGreatDoor
namespace Go.Proofs.YtinhphjfnedhgaaGreatDoor.V
open Go Go.RowKit
open Go.IntKind (i64 u32 u64)
section
structure Ans(P:Program)(dk:FuncId)(T:TypeId):Prop where
 can:bR P dk=true
 calm:∀(p:Addr)(w:World),CallsDIn (WF none) 0 P dk #[.pointer (some p)] .returning w fun e u w'=>(∃v,e= .returned v)∧u= .returning∧w'=w
 M6:∀(p:Addr)(x:Int)(w:World)(K:World→Prop),aA w p [.int .u32 x] K→CallsDIn (WF none) 0 P dk #[.pointer (some p)] (.panicking [⟨.iface T (.int .u32 x),false,false⟩]) w fun e u w'=>(∃v,e= .returned v)∧settle u= .returning∧K w'
section
variable {U:Uni} {P:Program} {tbl:Tb U} {may:List Nat} {k0:Nat}
variable {w0:World} {X0 X:Nat→Nat→Prop} {w:World} {fr:Fr} {st:St U} {n:Nat} {N:List Nat}
theorem JQ {a:Act} {l:List Oper} {dk t:Nat}(h:DF dk l=some t):∃o,l= [o]∧o.guard=none∧o.dst=none∧∀w,(Oper.semAt none a.eval o).run P w= .ok (.defer ⟨.fn (.func dk) #[],#[a.eval (.tmp t)]⟩) w:=by
 unfold DF at h
 split at h
 ·rename_i f az ats ty pos aft
  split at h
  ·rename_i ha hf
   injection h with h
   subst h
   have hf:=Nat.eq_of_beq_eq_true hf
   subst hf
   refine⟨_,rfl,rfl,rfl,fun w=>?_⟩
   have UW:az= #[.tmp _]:=Array.ext' ha
   subst UW
   have ef:a.eval (.func f)= .func (.func f) #[] #[]:=rfl
   simp [Oper.semAt,execOp,resolve,ef,Deferred.ofValue]
  ·cases h
 ·cases h
theorem LF {ops:Array Oper} {id dk t:Nat} {a:Act} {Q:Exit→Act→World→Prop}(h:DF dk ops.toList=some t)(hQ:Q .normal {a with defers:=⟨.fn (.func dk) #[],#[a.eval (.tmp t)]⟩::a.defers} w):(Code.region id ops false).wpIn (WF none) 0 P Q a w:=by
 obtain⟨o,ho,hg,hd,PD⟩:=JQ (P:=P) (a:=a) h
 have ho:ops= #[o]:=Array.ext' ho
 subst ho
 refine wpIn_region_list ?_
 simp only [wpListIn]
 rw [if_pos (by unfold Region.wanted;rw [hg])]
 refine⟨fun _ _=>trivial,?_⟩
 show o.uponIn (WF none) 0 P a _ _ ((Oper.semAt none a.eval o).run P w)
 rw [PD w,Oper.uponIn_defer,hd]
 exact hQ
theorem Ez {id off:Nat} {v:Value} {F:St U→Prop}(hv:∀vs,v≠ .agg vs)(hI:Inv w0 k0 X0 may st.rs X w)(hk:aC st.rs fr st.kn)(h:Hd U k0 may id off v st F):
 ∃g cs T,nth st.rs id=some (.blk g cs T)∧aA w ⟨g,off,none⟩ [v] fun w'=>∃st',Steps w0 k0 X0 may st X st' X w'∧aC st'.rs fr st'.kn∧F st':=by
 unfold Hd at h
 split at h
 ·rename_i g cs T hn
  split at h
  ·rename_i hc
   rw [Bool.and_eq_true]at hc
   have Sk:off<cs.length:=by simpa [Nat.blt_eq]using hc.1
   refine⟨g,cs,T,hn,?_⟩
   obtain⟨hX,hX2,hb⟩:=(hI.sat.res id _ hn:X id g∧(∀k,X id k→k=g)∧Blk w g ⟨cs⟩ T)
   refine⟨g,off,⟨cs⟩,T,rfl,hb,by simp;omega,fun w2 hs=>?_⟩
   have e:setAt (⟨cs⟩:Array Value) off [v]=⟨cJ cs off v⟩:=by
    show(⟨cs⟩:Array Value).setIfInBounds off v=_
    apply Array.ext'
    rw [rz];simp
   rw [e]at hs
   have Ti:=nF hI hk hn hc.2 (hs.ch.mono fun k hk=>hk▸hX) (dI.blk g cs (cJ cs off v) T (by simp)) (show RS (X id) w2 (.blk g (cJ cs off v) T)from⟨hX,hX2,hs.blk⟩) (kn':=fl Lv st.kn) ?_
   ·exact⟨_,Ti.steps,Ti.kn,h⟩
   ·intro key k hm
    obtain⟨h1,h2⟩:=dH hm
    unfold Lv at h2
    split at h2
    ·exact n7 (M:= [id]) (fun i _ hi=>by rw [bB,if_neg (fun hh=>hi (by simp [hh.1]))]) (fun i hi a ha=>by
      simp at hi
      subst hi
      rw [hn]at ha
      injection ha with ha
      subst ha
      exact⟨_,by rw [bB,if_pos ⟨rfl,aX hn⟩],.blk _ _ _ _ (by simp)⟩) (.inr rfl) (hk _ _ h1)
    ·cases h2
  ·exact h.elim
 ·exact h.elim
theorem Hs {fn:Func} {rets:List Nat} {Q:Ou U→Prop} {Qb:List (Res U)} {bn:List Nat} {kn0:List (Key×Kn)} {a':Act} {w':World} {st':St U} {X':Nat→Nat→Prop} {dk:FuncId} {T:TypeId} {id off g:Nat} {e:Exit}(hA:Ans P dk T)(R0:Qb.length=k0)(O9:∀i,i∈bn→i<k0)(hr:Rep n fr a')(hs:Steps w k0 X bn ⟨Qb,kn0,[]⟩ X st' X' w')(hk:aC st'.rs fr st'.kn)
 (hg:∃cs T,nth st'.rs id=some (.blk g cs T))(hd:a'.defers= [⟨.fn (.func dk) #[],#[.pointer (some ⟨g,off,none⟩)]⟩])(h:LD U P k0 T id off bn rets Q fn e fr st'):bodyPostM (WF none) 0 P fn (aM Qb bn X w Q) e a' w':=by
 have hinv:(invoke (.fn (.func dk) #[]) #[.pointer (some ⟨g,off,none⟩)]).run P w'= .ok (.enter dk #[.pointer (some ⟨g,off,none⟩)]) w':=eO (P:=P) (C:= [dk]) (f:=dk) (by simp [eC,hA.can]) (by simp) _ _
 have go:∀ {u:FrameMode} {R:Ending→FrameMode→World→Prop},u≠ .run→CallsDIn (WF none) 0 P dk #[.pointer (some ⟨g,off,none⟩)] u w' R→(∀e u' w2,R e u' w2→(∃v,e= .returned v)∧LeavesInM (WF none) 0 P fn a'.tmps (aM Qb bn X w Q) [] (settle u') w2)→LeavesInM (WF none) 0 P fn a'.tmps (aM Qb bn X w Q) a'.defers u w':=by
  intro u R hu hc hR
  rw [hd]
  refine⟨hu,.inr ⟨fun h=>(by cases h),_,_,dk,_,rfl,hinv,fun _ _=>trivial,hc.mono fun e u' w2 h=>?_⟩⟩
  obtain⟨⟨v,rfl⟩,h2⟩:=hR e u' w2 h
  exact h2
 have res:v9 U P k0 bn rets Q fn fr st'→LeavesInM (WF none) 0 P fn a'.tmps (aM Qb bn X w Q) a'.defers .returning w':=fun h=>go (by simp) (hA.calm _ w') fun e u' w2 ⟨h1,h2,h3⟩=>by
  subst h2;subst h3
  exact⟨h1,qJ R0 O9 hr hs hk h⟩
 unfold LD at h
 split at h
 ·exact res h
 ·exact res h
 ·rename_i T' x
  split at h
  ·rename_i hT
   have hT:=Nat.eq_of_beq_eq_true hT
   subst hT
   obtain⟨g',cs,T2,hn,PZ⟩:=Ez (by simp) hs.inv hk h
   obtain⟨cs',T3,Ri⟩:=hg
   rw [hn]at Ri
   injection Ri with Ri
   injection Ri with e1 e2 e3
   subst e1
   refine go (by simp) (hA.M6 _ x w' _ PZ) fun e u' w2 ⟨h1,h2,Px,h3,h4,h5⟩=>⟨h1,?_⟩
   rw [h2]
   exact qJ R0 O9 hr (hs.trans h3) h4 h5
  ·exact h.elim
 ·exact h.elim
theorem Gu {f:Nat} {fn:Func} {an:An} {rets:List Nat} {c:Ctr U} {dk:FuncId} {T:TypeId}(hA:Ans P dk T)(hf:P.funcs[f]? =some fn)(hm:P.follows .mixedOrders=true)(Pp:∀f c,tbl.c f=some c→LV U P f c∧bR P f=true)(O9:iN (fun i=>Nat.blt i c.res.length) c.bn=true)(h:VcD U P tbl dk T N fn an rets c):LV U P f c:=by
 have QL:∀i,i∈c.bn→i<c.res.length:=fun i hi=>by simpa [Nat.blt_eq]using cC.1 O9 i hi
 refine C4 (V:=fun code Q fr st=>K5 U P tbl c.bn c.res.length dk T N fn an rets code Q fr st) hf ?_ (fun args ks rs kc Q h=>?_) h
 ·intro code Q Qb X w kn fr a R0 hI QB P2 Qe h
  unfold K5 at h
  split at h
  case h_2=>exact h.elim
  rename_i i0 ops0 i1 ops1 code
  refine wpIn_seq (wpIn_mono (dF Pp hm _ _ _ _ _ X _ w QB hI P2 h) fun e a1 w1 he=>?_)
  cases e
  case normal=>
   obtain⟨UZ,Si,⟨Sd,X1,g1,g2,g3,g4⟩,_⟩:=he
   dsimp only at g4
   split at g4
   case h_2=>exact g4.elim
   rename_i t ht
   split at g4
   case h_2=>exact g4.elim
   rename_i id off hkt
   have g3:UZ.ds= []:=g3.trans Qe
   have Ps:den U Sd.rs (.loc id off)=some (lk UZ.g t UZ.e):=g2.get hkt
   obtain⟨g,cs,T1,hn⟩:∃g cs T1,nth Sd.rs id=some (.blk g cs T1):=by
    unfold den at Ps
    simp only [PK.id]at Ps
    cases hn:nth Sd.rs id with
    | none=>rw [hn]at Ps;cases Ps
    | some r=>cases r<;>first | exact⟨_,_,_,rfl⟩ | (rw [hn]at Ps;cases Ps)
   have abQ:lk UZ.g t UZ.e= .pointer (some ⟨g,off,none⟩):=by
    simp only [den,PK.id,hn,cz,Option.some.injEq]at Ps
    exact Ps.symm
   have hev:a1.eval (.tmp t)= .pointer (some ⟨g,off,none⟩):=by rw [Si.eval];exact abQ
   refine wpIn_seq (LF ht ?_)
   rw [hev,Si.defers,g3]
   rw [abQ]at g4
   have QK:Rep fn.ntmps ⟨UZ.e,UZ.g,[⟨.fn (.func dk) #[],#[.pointer (some ⟨g,off,none⟩)]⟩]⟩ {a1 with defers:= [⟨.fn (.func dk) #[],#[.pointer (some ⟨g,off,none⟩)]⟩]}:=⟨Si.size,Si.get,rfl⟩
   refine wpIn_mono (dF Pp hm code an _ _ _ X1 _ w1 QK g1.inv (g2.same fun _=>rfl) g4) fun e a2 w2 he=>?_
   cases e
   case outgrown=>exact he.elim
   all_goals
    obtain⟨Pb,hr3,⟨Px,X2,k1,k2,k3,k4⟩,_⟩:=he
    obtain⟨b,hb,PA⟩:=k1.root id _ hn
    exact Hs hA R0 QL hr3 (g1.trans k1) k2 (by cases PA;exact⟨_,_,hb⟩) (hr3.defers.trans k3) k4
  case outgrown=>exact he.elim
  all_goals
   obtain⟨UZ,Si,⟨Sd,X1,g1,g2,g3,g4⟩,_⟩:=he
   exact g4.elim
 ·unfold Md at h
  split at h
  case h_2=>exact h.elim
  rename_i code hb PG
  simp only [Bool.and_eq_true]at PG
  exact⟨code,hb,PG.1,PG.2,h⟩
theorem nw {f:Nat} {fn:Func} {an:An} {rets:List Nat} {c:Ctr U} {tb:List (Nat×Ctr U)} {sh:Sh} {al:List (Nat×List PK×List PK)} {dk:FuncId} {T:TypeId}(hA:Ans P dk T)(hf:P.funcs[f]? =some fn)(hm:P.follows .mixedOrders=true)(ht:vZ U P tb)(hb:(iN (fun p=>bR P p.1) tb && iN (fun i=>Nat.blt i c.res.length) c.bn)=true)(h:VcD U P ⟨D4 tb,sh,al⟩ dk T N fn an rets c):LV U P f c:=by
 rw [Bool.and_eq_true]at hb
 exact Gu hA hf hm (fun f c hfc=>oH hfc ht hb.1) hb.2 h
end
end
end Go.Proofs.YtinhphjfnedhgaaGreatDoor.V
namespace Go.Proofs.YtinhphjfnedhgaaGreatDoor
open Go.Proofs.Tryz (prog)
open Go Go.RowKit V
open Go.IntKind (i64 u32 u64)
section
set_option maxRecDepth 100000
theorem xW {w:World} {p:Addr} {v:Value} {K:World→Prop}(h:aA w p [v] K):(∃u,w.cell? p=some u)∧w.frozen? p=false∧K (w.setCell p v):=by
 obtain⟨g,o,cs,T,rfl,hb,hl,hK⟩:=h
 have ho:o<cs.size:=by have:o+1≤cs.size:=hl;omega
 refine⟨⟨cs[o],hb.cell (by simp [ho])⟩,?_,hK _ (hb.set o v)⟩
 have hb:w.heap[g]? =some (.cells cs T (0,0)):=hb
 simp [World.frozen?,hb]
theorem HN(p:Addr)(w:World):CallsDIn (WF none) 0 prog 82 #[.pointer (some p)] .returning w fun e u w'=>(∃v,e= .returned v)∧u= .returning∧w'=w:=by
 refine callsDIn_of_wpSIn Tryz.func82 rfl trivial fun c₀ cs hu=>?_
 apply wpSIn_seq
 apply wpSIn_region
 simp [wpOpsSIn,go_sem,recoverD,hu,Tryz.ntmps82,Exit.thenS]
 refine wpSIn_of_wpIn rfl (wpIn_block (wpIn_seq (wpIn_region_list ?_)))
 simp [wpListIn,Oper.wpIn,go_sem,Oper.semAt,Region.wanted]
 refine wpIn_cond (t:=true) (by simp [Act.eval,Array.replicate]) ?_
 simp only [if_true]
 refine wpIn_region_list ?_
 simp [wpListIn,Oper.wpIn,go_sem,Oper.semAt,Region.wanted,Exit.inBlock,bodyPostS,results,Tryz.results82]
 cases c₀
 simp_all
theorem HM(p:Addr)(x:Int)(w:World)(K:World→Prop)(h:aA w p [.int .u32 x] K):CallsDIn (WF none) 0 prog 82 #[.pointer (some p)] (.panicking [⟨.iface 236 (.int .u32 x),false,false⟩]) w fun e u w'=>(∃v,e= .returned v)∧settle u= .returning∧K w':=by
 obtain⟨⟨u0,hc⟩,hz,hK⟩:=xW h
 refine callsDIn_of_wpSIn Tryz.func82 rfl trivial fun c₀ cs hu=>?_
 apply wpSIn_seq
 apply wpSIn_region
 simp [wpOpsSIn,go_sem,recoverD,hu,Tryz.ntmps82,Exit.thenS]
 refine wpSIn_of_wpIn rfl (wpIn_block (wpIn_seq (wpIn_region_list ?_)))
 simp [wpListIn,Oper.wpIn,go_sem,Oper.semAt,Region.wanted]
 refine wpIn_cond (t:=false) (by simp [Act.eval,Array.replicate]) ?_
 simp only [Bool.false_eq_true,if_false]
 have hta:∀w:World,(Instr.typeAssert (.iface 236 (.int .u32 x)) 20 236 true).run prog w= .ok (.tuple #[.int .u32 x,.bool true]) w:=fun w=>by kernel_rfl
 refine wpIn_seq (wpIn_region_list ?_)
 simp [wpListIn,Oper.wpIn,go_sem,Oper.semAt,Region.wanted,hta]
 refine wpIn_cond (t:=true) (by simp [Act.eval,Array.replicate]) ?_
 simp only [if_true]
 refine wpIn_seq (wpIn_region_list ?_)
 simp [wpListIn,Oper.wpIn,go_sem,Oper.semAt,Region.wanted]
 refine wpIn_region_list ?_
 simp [wpListIn,Oper.wpIn,go_sem,Oper.semAt,Region.wanted,hc,hz,Exit.inBlock,bodyPostS,results,Tryz.results82]
 exact⟨rfl,hK⟩
theorem ans:Ans prog 82 236:=⟨by kernel_rfl,HN,HM⟩
end
section
set_option maxRecDepth 100000
set_option maxHeartbeats 1000000
attribute [local irreducible] Vc2 VcD
attribute [local grind=] Pd.dQ Pd.cT Pd.kz Pd.nS Pd.bk Pd.jd Pd.fJ Pd.iI Pd.nH Pd.Bn
attribute [local grind .] Pd.Ok.ent
attribute [local grind→] Pd.Ok.er
def bZ:Ctr Un:=⟨[.one (.int .i64)],[],[],[],fun p K=>K ⟨(.agg #[(.bool true),(.int .i64 p)]),none,[],[],[]⟩⟩
def CW(p:Int)(Q:Ou Un→Prop):Prop:=
 ∀(gv:Nat),
 Q ⟨(.agg #[(.bool true),(.int .i64 p)]),none,[],[],[]⟩
theorem CX:Vc2 Un prog (aR []) [] Tryz.f88 .leaf [] bZ=(∀p,∀Q,(bZ.body p Q)→CW p Q):=by kernel_rfl
theorem gI:LV Un prog 88 bZ:=verify Tryz.func88 aa (tb:= []) trivial (by kernel_rfl) (CX.mpr fun p Q h gv=>h)
def iS:Ctr Un:=⟨[.one (.obj 0 0),.one (.int .i64),.enc 8],[],[.ob 1 [(1,1,0)],.ob 0 []],[1],fun s f r E rm m K=>E.n=m.S∧W26.Ok f∧K ⟨(.tuple #[]),(some (.t [])),[.ob 0 (m.wrs s 11 (W26.ws f))],[],[]⟩⟩
def KH(s:Int)(f:W26)(r:Nat→Nat)(E:Pd)(rm:Nat→Nat)(m:Mem)(Q:Ou Un→Prop):Prop:=
 Pd.Ok E→
 Mem.Wf m→
 ∀(gv:Nat),
 ∀(s1:List U32),s1=(W26.n f)→
 (s1.length=26)∧
 ∃I:Nat→Int→Mem→Prop,(∃m1,I m1 0 m)∧∀(m1:Nat)(Oi:Nat→Value)(x9:Int)(Ov:Mem),I m1 x9 Ov→
 Mem.Wf Ov→
 split (decide (x9<26)) (
  (0≤x9∧x9<(26:Int))∧
  ∃OX:Int,(⟨W26.c (W26.mk s1)⟩:Array Value)[Int.toNat x9*1]? =some (.int .u32 OX)∧
  (0≤OX∧OX<4294967296)∧
  ∀(m3:Mem),m3=(Ov.write true s (i64.wrap (11+x9)) OX)→
  Mem.Wf m3→
  ∃m2,m2<m1∧I m2 (i64.wrap (x9+1)) m3) (
  Q ⟨(.tuple #[]),(some (.t [])),[.ob 0 Ov],[],[]⟩)
theorem KI:Vc2 Un prog (aR [(14,br),(88,bZ),(42,jt)]) [] Tryz.f86 (.r' (.r' (.two (.node [] (some ⟨[(9,(.one (.int .i64)))],[],[6,7]++upN 9 13,[(1,(.ob 0))]⟩) [] [] .leaf .leaf) .leaf))) [] iS=(∀s (f:W26) r (E:Pd) rm (m:Mem),∀Q,(iS.body s f r E rm m Q)→KH s f r E rm m Q):=by kernel_rfl
theorem xK:LV Un prog 86 iS:=verify Tryz.func86 aa (tb:= [(14,br),(88,bZ),(42,jt)]) ⟨dq,gI,tE,trivial⟩ (by kernel_rfl) (KI.mpr fun s f r E rm m Q h=>by
 obtain⟨NK,Oj,h⟩:=h
 exact fun f1 f2 gv s1 Pt=>aj (by subst_vars;rfl) fun e3=>⟨fun m1 x9 Ov=>(m1=(26 - x9).toNat)∧(0≤x9∧x9≤26)∧(Ov=m.wrs s 11 ((W26.ws f).take x9.toNat)),⟨_,rfl,(by omega),(by rfl)⟩,fun m1 _ x9 Ov ⟨hm,h1,h2⟩=>fun f4=>ar (fun c1=>aj (by omega) fun e5=>⟨((W26.ws f).getD x9.toNat 0),aj (by subst_vars;rw [W26.Gr];exact W26.MV (by omega)) fun e6=>aj (W26.K2 Oj (by omega)) fun e7 m3 Ol f8=>⟨_,(by rw [aq (by omega)];omega),rfl,(by rw [aq (by omega)];omega),(by rw [Mem.nt (W26.jG f) (by omega),← h2];assumption)⟩⟩) fun c1=>ao h rfl (ab (uO0 (by rw [h2,List.take_of_length_le];rw [W26.jG];omega)) rfl) rfl⟩)
def cP:Ctr Un:=⟨[.one (.obj 0 0),.one (.int .i64),.agg [.int .i64,.int .u32,.nsl]],[(2,5)],[.ob 1 [(1,1,0)],.ob 0 [],.ob 5 []],[1],fun s k a r E rm m rk kk K=>E.n=m.S∧(0≤(a:Int)∧(a:Int)<4294967296)∧((k:Int)=1∨(k:Int)=2∨(k:Int)=4)∧K ⟨(.tuple #[]),(some (.t [])),[.ob 0 (m.msd kk s k a [])],[],[]⟩⟩
def uJ(s:Int)(k:Int)(a:Int)(r:Nat→Nat)(E:Pd)(rm:Nat→Nat)(m:Mem)(rk:Nat→Nat)(kk:List Int)(Q:Ou Un→Prop):Prop:=
 Pd.Ok E→
 Mem.Wf m→
 ∀(gv:Nat),
 ∀(NB:Nat),
 ∀(s1:List U32),s1=(W26.n (W26.mk []))→
 ∃I:Nat→Int→Mem→List U32→Prop,(∃m1,I m1 0 m s1)∧∀(m1:Nat)(OW:Nat→Value)(OH:Int)(Ov:Mem)(s4:List U32),I m1 OH Ov s4→
 Mem.Wf Ov→
 split (decide (OH<26)) (
  ∀(m3:Mem),m3=Ov→
  Mem.Wf m3→
  ((0≤OH∧OH<(s4.length:Int))∧OH<(26:Int))∧
  True∧
  ∀(s2:List U32),s2=(List.set s4 OH.toNat (U32.mk (Ov.bD true s (i64.wrap (11+OH)))))→
  ∃m2,m2<m1∧I m2 (i64.wrap (OH+1)) m3 s2) (
  (s4.length=26)∧
  W26.Ok (W26.mk (W26.n (W26.mk s4)))∧
  (0≤a∧a<4294967296)∧
  (k=1∨k=2∨k=4)∧
  split (decide ((Dg.ay (W26.n (W26.mk (W26.n (W26.mk s4)))))=0)) (
   ∀(Oa:Nat),
   ∀(s2:List U32),s2=(W26.n (W26.mk []))→
   (s2.length=26)∧
   ∀(s3:List U32),s3=(Dg.svL ((Dg.load (W26.n (W26.mk (W26.n (W26.mk s4))))).add kk (opW k a [])))→
   (s3.length=26)∧
   E.n=Ov.S∧
   W26.Ok (W26.mk (W26.n (W26.mk s3)))∧
   ∀(m3:Mem),m3=(Ov.wrs s 11 (W26.ws (W26.mk (W26.n (W26.mk s3)))))→
   Mem.Wf m3→
   Q ⟨(.tuple #[]),(some (.t [])),[.ob 0 m3],[],[]⟩) (
   ∀(Oa:Nat),
   ∀(s2:List U32),s2=(W26.n (W26.mk []))→
   (s2.length=26)∧
   ∀(s3:List U32),s3=(W26.n (W26.mk []))→
   split ((Dg.ay (W26.n (W26.mk (W26.n (W26.mk s4)))))==0) (
    (s3.length=26)∧
    E.n=Ov.S∧
    W26.Ok (W26.mk (W26.n (W26.mk s3)))∧
    ∀(m3:Mem),m3=(Ov.wrs s 11 (W26.ws (W26.mk (W26.n (W26.mk s3)))))→
    Mem.Wf m3→
    Q ⟨(.tuple #[]),(some (.t [])),[.ob 0 m3],[],[]⟩) (
    Q ⟨(.tuple #[]),(some (.t [])),[.ob 0 Ov],[],[]⟩)))
theorem uK:Vc2 Un prog (aR [(14,br),(88,bZ),(92,kO),(68,js),(86,iS)]) [] Tryz.f89 (.r' (.r' (.two (.r' (.two (.node [] (some ⟨[(10,(.one (.int .i64)))],[],[7]++upN 10 16,[(1,(.ob 0)),(4,(.ob 7))]⟩) [] [] .leaf .leaf) .leaf)) .leaf))) [] cP=(∀s k a r (E:Pd) rm (m:Mem) rk (kk:List Int),∀Q,(cP.body s k a r E rm m rk kk Q)→uJ s k a r E rm m rk kk Q):=by kernel_rfl
theorem jL:LV Un prog 89 cP:=verify Tryz.func89 aa (tb:= [(14,br),(88,bZ),(92,kO),(68,js),(86,iS)]) ⟨dq,gI,xf,CB,xK,trivial⟩ (by kernel_rfl) (uK.mpr fun s k a r E rm m rk kk Q h=>by
 obtain⟨NK,Oj,Om,h⟩:=h
 exact fun f1 f2 gv NB s1 Pt=>⟨fun m1 OH Ov s4=>(m1=(26 - OH).toNat)∧(0≤OH∧OH≤26)∧(Ov=m)∧(s4=(m.dgW s).take OH.toNat++List.replicate (26 - OH.toNat) (U32.mk 0)),⟨_,rfl,(by omega),(by rfl),(by subst_vars;rfl)⟩,fun m1 _ OH Ov s4 ⟨hm,h1,h2,h3⟩=>fun f3=>ar (fun c1 m3 Ol f4=>aj (by rw [h3];simp [Mem.dZ];omega) fun e5=>aj trivial fun _ s2 OE=>⟨_,(by rw [aq (by omega)];omega),rfl,(by rw [aq (by omega)];omega),(by subst_vars;rfl),(by subst h2;rw [OE];exact Mem.yT (by omega) h3)⟩) fun c1=>(by(have h4:s4=m.dgW s:=by rw [h3];exact Mem.DD (by omega));(have h5:W26.n (W26.mk (W26.n (W26.mk s4)))=m.dgW s:=by rw [h4];exact W26.nn (Mem.dZ m s));rw [h5];exact aj (by rw [h4];exact Mem.dZ m s) fun e7=>aj (by rw [h4];exact W26.Dn (Mem.dZ m s) (Mem.iM f2 s)) fun e8=>aj ‹_› fun e9=>aj ‹_› fun e10=>ar (fun c2=>(by(have h6:=(Dg.lI (K:=kk) (l:=opW k a []) (Dg.fe (Mem.iM f2 s) c2) (rT (k:=k) (a:=a) Oj (by omega) (fun x hx=>absurd hx (by simp)))).1);exact fun Oa s2 OE=>aj (by subst_vars;rfl) fun e11 s3 PE=>aj (by subst_vars;rfl) fun e12=>aj (by grind) fun e13=>aj (by subst PE;exact W26.Dn rfl (Dg.A6 h6)) fun e14 m3 Ol f15=>ao h rfl (ab (uO0 (by rw [Ol,PE,Dg.GB h6,h2];unfold Mem.msd;rw [if_pos c2])) rfl) rfl)) fun c2 Oa s2 OE=>aj (by subst_vars;rfl) fun e16 s3 PE=>aG (fun c3=>(by exfalso;exact c2 c3)) fun c3=>ao h rfl (ab (uO0 (by rw [h2];unfold Mem.msd;rw [if_neg c2])) rfl) rfl)⟩)
def gT:Ctr Un:=⟨[.one (.obj 0 0),.one (.int .i64),.agg [.int .i64,.int .u32,.sl 2]],[(3,5)],[.ob 1 [(1,1,0)],.ob 0 [],.lst 1 false 29,.ob 5 []],[1],fun s k a r E rm m A0 c0 l rk kk K=>E.n=m.S∧(0≤(a:Int)∧(a:Int)<4294967296)∧(k:Int)=3∧l.length=1024∧fi l∧K ⟨(.tuple #[]),(some (.t [])),[.ob 0 (m.msd kk s k a l)],[],[]⟩⟩
def uM(s:Int)(k:Int)(a:Int)(r:Nat→Nat)(E:Pd)(rm:Nat→Nat)(m:Mem)(A0:Option Addr)(c0:Nat)(l:List U32)(rk:Nat→Nat)(kk:List Int)(Q:Ou Un→Prop):Prop:=
 Pd.Ok E→
 Mem.Wf m→
 ∀(gv:Nat),
 ∀(NB:Nat),
 ∀(s1:List U32),s1=(W26.n (W26.mk []))→
 ∃I:Nat→Int→Mem→List U32→Prop,(∃m1,I m1 0 m s1)∧∀(m1:Nat)(OW:Nat→Value)(OH:Int)(Ov:Mem)(s5:List U32),I m1 OH Ov s5→
 Mem.Wf Ov→
 split (decide (OH<26)) (
  ∀(m3:Mem),m3=Ov→
  Mem.Wf m3→
  ((0≤OH∧OH<(s5.length:Int))∧OH<(26:Int))∧
  True∧
  ∀(s2:List U32),s2=(List.set s5 OH.toNat (U32.mk (Ov.bD true s (i64.wrap (11+OH)))))→
  ∃m2,m2<m1∧I m2 (i64.wrap (OH+1)) m3 s2) (
  (s5.length=26)∧
  W26.Ok (W26.mk (W26.n (W26.mk s5)))∧
  (0≤a∧a<4294967296)∧
  k=3∧
  l.length=1024∧
  fi l∧
  split (decide ((Dg.ay (W26.n (W26.mk (W26.n (W26.mk s5)))))=0)) (
   ∀(Oa:Nat),
   ∀(s2:List U32),s2=(W26.n (W26.mk []))→
   (s2.length=26)∧
   ∀(s3:List U32),s3=(Dg.svL ((Dg.load (W26.n (W26.mk (W26.n (W26.mk s5))))).add kk (opW k a l)))→
   (s3.length=26)∧
   E.n=Ov.S∧
   W26.Ok (W26.mk (W26.n (W26.mk s3)))∧
   ∀(m3:Mem),m3=(Ov.wrs s 11 (W26.ws (W26.mk (W26.n (W26.mk s3)))))→
   Mem.Wf m3→
   Q ⟨(.tuple #[]),(some (.t [])),[.ob 0 m3],[],[]⟩) (
   ∀(Oa:Nat),
   ∀(s2:List U32),s2=(W26.n (W26.mk []))→
   (s2.length=26)∧
   ∀(s3:List U32),s3=(W26.n (W26.mk []))→
   split ((Dg.ay (W26.n (W26.mk (W26.n (W26.mk s5)))))==0) (
    (s3.length=26)∧
    E.n=Ov.S∧
    W26.Ok (W26.mk (W26.n (W26.mk s3)))∧
    ∀(m3:Mem),m3=(Ov.wrs s 11 (W26.ws (W26.mk (W26.n (W26.mk s3)))))→
    Mem.Wf m3→
    Q ⟨(.tuple #[]),(some (.t [])),[.ob 0 m3],[],[]⟩) (
    Q ⟨(.tuple #[]),(some (.t [])),[.ob 0 Ov],[],[]⟩)))
theorem uN:Vc2 Un prog (aR [(14,br),(88,bZ),(92,kO),(68,nk),(86,iS)]) [] Tryz.f89 (.r' (.r' (.two (.r' (.two (.node [] (some ⟨[(10,(.one (.int .i64)))],[],[7]++upN 10 16,[(1,(.ob 0)),(5,(.ob 7))]⟩) [] [] .leaf .leaf) .leaf)) .leaf))) [] gT=(∀s k a r (E:Pd) rm (m:Mem) A0 c0 (l:List U32) rk (kk:List Int),∀Q,(E.n=m.S∧(0≤(a:Int)∧(a:Int)<4294967296)∧(k:Int)=3∧l.length=1024∧fi l∧Q ⟨(.tuple #[]),(some (.t [])),[.ob 0 (m.msd kk s k a l)],[],[]⟩)→uM s k a r E rm m A0 c0 l rk kk Q):=by kernel_rfl
theorem uL:LV Un prog 89 gT:=verify Tryz.func89 aa (tb:= [(14,br),(88,bZ),(92,kO),(68,nk),(86,iS)]) ⟨dq,gI,xf,CE,xK,trivial⟩ (by kernel_rfl) (uN.mpr fun s k a r E rm m A0 c0 l rk kk Q h=>by
 obtain⟨NK,Oj,Om,Rh,Qs,h⟩:=h
 exact fun f1 f2 gv NB s1 Pt=>⟨fun m1 OH Ov s5=>(m1=(26 - OH).toNat)∧(0≤OH∧OH≤26)∧(Ov=m)∧(s5=(m.dgW s).take OH.toNat++List.replicate (26 - OH.toNat) (U32.mk 0)),⟨_,rfl,(by omega),(by rfl),(by subst_vars;rfl)⟩,fun m1 _ OH Ov s5 ⟨hm,h1,h2,h3⟩=>fun f3=>ar (fun c1 m3 Ol f4=>aj (by rw [h3];simp [Mem.dZ];omega) fun e5=>aj trivial fun _ s2 OE=>⟨_,(by rw [aq (by omega)];omega),rfl,(by rw [aq (by omega)];omega),(by subst_vars;rfl),(by subst h2;rw [OE];exact Mem.yT (by omega) h3)⟩) fun c1=>(by(have h4:s5=m.dgW s:=by rw [h3];exact Mem.DD (by omega));(have h5:W26.n (W26.mk (W26.n (W26.mk s5)))=m.dgW s:=by rw [h4];exact W26.nn (Mem.dZ m s));rw [h5];exact aj (by rw [h4];exact Mem.dZ m s) fun e7=>aj (by rw [h4];exact W26.Dn (Mem.dZ m s) (Mem.iM f2 s)) fun e8=>aj ‹_› fun e9=>aj ‹_› fun e10=>aj ‹_› fun e11=>aj ‹_› fun e12=>ar (fun c2=>(by(have h6:=(Dg.lI (K:=kk) (l:=opW k a l) (Dg.fe (Mem.iM f2 s) c2) (rT (k:=k) (a:=a) Oj (by omega) Qs)).1);exact fun Oa s2 OE=>aj (by subst_vars;rfl) fun e13 s3 PE=>aj (by subst_vars;rfl) fun e14=>aj (by grind) fun e15=>aj (by subst PE;exact W26.Dn rfl (Dg.A6 h6)) fun e16 m3 Ol f17=>ao h rfl (ab (uO0 (by rw [Ol,PE,Dg.GB h6,h2];unfold Mem.msd;rw [if_pos c2])) rfl) rfl)) fun c2 Oa s2 OE=>aj (by subst_vars;rfl) fun e18 s3 PE=>aG (fun c3=>(by exfalso;exact c2 c3)) fun c3=>ao h rfl (ab (uO0 (by rw [h2];unfold Mem.msd;rw [if_neg c2])) rfl) rfl)⟩)
def bu:Ctr Un:=⟨[.one (.bool),.one (.int .u32)],[],[],[],fun yes c K=>split yes (K ⟨(.iface 236 (.int .u32 c)),(some .pan),[],[],[]⟩) (K ⟨(.tuple #[]),(some (.t [])),[],[],[]⟩)⟩
def CY(yes:Bool)(c:Int)(Q:Ou Un→Prop):Prop:=
 split yes (
  Q ⟨(.iface 236 (.int .u32 c)),(some .pan),[],[],[]⟩) (
  Q ⟨(.tuple #[]),(some (.t [])),[],[],[]⟩)
theorem CZ:Vc2 Un prog (aR []) [] Tryz.f84 .leaf [] bu=(∀yes c,∀Q,(bu.body yes c Q)→CY yes c Q):=by kernel_rfl
theorem ej:LV Un prog 84 bu:=verify Tryz.func84 aa (tb:= []) trivial (by kernel_rfl) (CZ.mpr fun yes c Q h=>af (fun c1=>(bL h ‹_›)) fun c1=>(bq h ‹_›))
def dU:Ctr Un:=⟨[.one (.obj 0 0),.one (.int .u32)],[],[.ob 1 [(1,1,0)],.ob 0 []],[],fun n r E rm m K=>E.n=m.S∧(0≤(n:Int)∧(n:Int)<4294967296)∧split (decide (((E.on m).bo n)≠0)) (K ⟨(.iface 236 (.int .u32 ((E.on m).bo n))),(some .pan),[],[],[]⟩) (K ⟨(.int .i64 n),none,[],[],[]⟩)⟩
def IX(n:Int)(r:Nat→Nat)(E:Pd)(rm:Nat→Nat)(m:Mem)(Q:Ou Un→Prop):Prop:=
 Pd.Ok E→
 Mem.Wf m→
 E.n=m.S∧
 split (decide ((i64.wrap n)≥(E.on m).S)) (
  Q ⟨(.iface 236 (.int .u32 1)),(some .pan),[],[],[]⟩) (
  Q ⟨(.int .i64 (i64.wrap n)),none,[],[],[]⟩)
theorem IY:Vc2 Un prog (aR [(120,l5),(84,bu)]) [] Tryz.f83 .leaf [] dU=(∀n r (E:Pd) rm (m:Mem),∀Q,(dU.body n r E rm m Q)→IX n r E rm m Q):=by kernel_rfl
section
attribute [local grind=] DB.bo
theorem l6:LV Un prog 83 dU:=verify Tryz.func83 aa (tb:= [(120,l5),(84,bu)]) ⟨AK,ej,trivial⟩ (by kernel_rfl) (IY.mpr fun n r E rm m Q h=>by
 obtain⟨NK,Oj,h⟩:=h
 exact fun f1 f2=>(by(have RZ:i64.wrap n=n:=aq (by omega));rw [RZ];exact aj ‹_› fun s3=>ar (fun c1=>ao (bL h (by grind)) (congrArg (Value.iface 236) (bC (by grind))) rfl rfl) fun c1=>eL (bq h (by grind)) (by omega)))
end
def fT:Ctr Un:=⟨[.one (.obj 0 0),.one (.int .u32)],[],[.ob 1 [(1,1,0)],.ob 0 []],[],fun n r E rm m K=>E.n=m.S∧(0≤(n:Int)∧(n:Int)<4294967296)∧split (decide (((E.on m).fZ n)≠0)) (K ⟨(.iface 236 (.int .u32 ((E.on m).fZ n))),(some .pan),[],[],[]⟩) (K ⟨(.agg #[(.bool false),(.int .i64 n)]),none,[],[],[]⟩)⟩
def CU(n:Int)(r:Nat→Nat)(E:Pd)(rm:Nat→Nat)(m:Mem)(Q:Ou Un→Prop):Prop:=
 Pd.Ok E→
 Mem.Wf m→
 ∀(gv:Nat),
 split (decide ((i64.wrap n)≥m.I)) (
  Q ⟨(.iface 236 (.int .u32 17)),(some .pan),[],[],[]⟩) (
  Q ⟨(.agg #[(.bool false),(.int .i64 (i64.wrap n))]),none,[],[],[]⟩)
theorem CV:Vc2 Un prog (aR [(14,br),(55,lR),(84,bu)]) [] Tryz.f94 .leaf [] fT=(∀n r (E:Pd) rm (m:Mem),∀Q,(fT.body n r E rm m Q)→CU n r E rm m Q):=by kernel_rfl
section
attribute [local grind=] DB.fZ
theorem tQ:LV Un prog 94 fT:=verify Tryz.func94 aa (tb:= [(14,br),(55,lR),(84,bu)]) ⟨dq,qg,ej,trivial⟩ (by kernel_rfl) (CV.mpr fun n r E rm m Q h=>by
 obtain⟨NK,Oj,h⟩:=h
 exact fun f1 f2=>(by(have RZ:i64.wrap n=n:=aq (by omega));rw [RZ];exact fun gv=>ar (fun c1=>ao (bL h (by grind)) (congrArg (Value.iface 236) (bC (by grind))) rfl rfl) fun c1=>ao (bq h (by grind)) (congrArg (fun l=>Value.agg (List.toArray l)) (ab rfl (ab (aE (by omega)) rfl))) rfl rfl))
end
def eY:Ctr Un:=⟨[.one (.obj 0 0),.one (.int .i64)],[],[.ob 1 [(1,1,0)],.ob 0 []],[],fun n r E rm m K=>E.n=m.S∧split (decide (((E.on m).bz n)≠0)) (K ⟨(.iface 236 (.int .u32 ((E.on m).bz n))),(some .pan),[],[],[]⟩) (K ⟨(.tuple #[]),(some (.t [])),[],[],[]⟩)⟩
def IZ(n:Int)(r:Nat→Nat)(E:Pd)(rm:Nat→Nat)(m:Mem)(Q:Ou Un→Prop):Prop:=
 Pd.Ok E→
 Mem.Wf m→
 E.n=m.S∧
 ∀(gv:Nat),
 split (((E.on m).entry n).typ !=0) (
  Q ⟨(.iface 236 (.int .u32 2)),(some .pan),[],[],[]⟩) (
  Q ⟨(.tuple #[]),(some (.t [])),[],[],[]⟩)
theorem I0:Vc2 Un prog (aR [(18,dx),(84,bu)]) [] Tryz.f85 .leaf [] eY=(∀n r (E:Pd) rm (m:Mem),∀Q,(eY.body n r E rm m Q)→IZ n r E rm m Q):=by kernel_rfl
section
attribute [local grind=] DB.bz
theorem oF:LV Un prog 85 eY:=verify Tryz.func85 aa (tb:= [(18,dx),(84,bu)]) ⟨jy,ej,trivial⟩ (by kernel_rfl) (I0.mpr fun n r E rm m Q h=>by
 obtain⟨NK,h⟩:=h
 exact fun f1 f2=>aj ‹_› fun s3 gv=>aB (fun c1=>ao (bL h (by grind)) (congrArg (Value.iface 236) (bC (by grind))) rfl rfl) fun c1=>(bq h (by grind)))
end
def cw:Ctr Un:=⟨[.one (.obj 0 0),.one (.int .u32)],[],[.ob 1 [(1,1,0)],.ob 0 []],[],fun s r E rm m K=>E.n=m.S∧(0≤(s:Int)∧(s:Int)<4294967296)∧split (decide (((E.on m).aW s)≠0)) (K ⟨(.iface 236 (.int .u32 ((E.on m).aW s))),(some .pan),[],[],[]⟩) (K ⟨(.int .i64 s),none,[],[],[]⟩)⟩
def xL(s:Int)(r:Nat→Nat)(E:Pd)(rm:Nat→Nat)(m:Mem)(Q:Ou Un→Prop):Prop:=
 Pd.Ok E→
 Mem.Wf m→
 E.n=m.S∧
 (0≤s∧s<4294967296)∧
 split (decide (((E.on m).bo s)≠0)) (
  Q ⟨(.iface 236 (.int .u32 ((E.on m).bo s))),(some .pan),[],[],[]⟩) (
  E.n=m.S∧
  ∀(gv:Nat),
  split (((E.on m).entry s).typ !=1) (
   Q ⟨(.iface 236 (.int .u32 3)),(some .pan),[],[],[]⟩) (
   split (((E.on m).entry s).state !=1) (
    Q ⟨(.iface 236 (.int .u32 4)),(some .pan),[],[],[]⟩) (
    Q ⟨(.int .i64 s),none,[],[],[]⟩)))
theorem xM:Vc2 Un prog (aR [(83,dU),(18,dx),(84,bu)]) [] Tryz.f87 .leaf [] cw=(∀s r (E:Pd) rm (m:Mem),∀Q,(cw.body s r E rm m Q)→xL s r E rm m Q):=by kernel_rfl
section
attribute [local grind=] DB.aW DB.bo DB.entry
theorem iT:LV Un prog 87 cw:=verify Tryz.func87 aa (tb:= [(83,dU),(18,dx),(84,bu)]) ⟨l6,jy,ej,trivial⟩ (by kernel_rfl) (xM.mpr fun s r E rm m Q h=>by
 obtain⟨NK,Oj,h⟩:=h
 exact fun f1 f2=>aj ‹_› fun s3=>aj ‹_› fun s4=>ar (fun c1=>ao (bL h (by grind)) (congrArg (Value.iface 236) (bC (by grind))) rfl rfl) fun c1=>aj ‹_› fun s5 gv=>aB (fun c2=>ao (bL h (by grind)) (congrArg (Value.iface 236) (bC (by grind))) rfl rfl) fun c2=>aB (fun c3=>ao (bL h (by grind)) (congrArg (Value.iface 236) (bC (by grind))) rfl rfl) fun c3=>(bq h (by grind)))
end
def eX:Ctr Un:=⟨[.one (.int .u32)],[],[],[],fun w K=>(0≤(w:Int)∧(w:Int)<4294967296)∧split (decide (DB.jg w≠0)) (K ⟨(.iface 236 (.int .u32 (DB.jg w))),(some .pan),[],[],[]⟩) (K ⟨(.agg #[(.int .u32 (dt w)),(.bool (paW w)),(.bool (paX w))]),none,[],[],[]⟩)⟩
def AT(w:Int)(Q:Ou Un→Prop):Prop:=
 ∀(gv:Nat),
 (0≤w∧w<4294967296)∧
 ∀(NB:Nat),
 split ((lu w) !=0) (
  Q ⟨(.iface 236 (.int .u32 6)),(some .pan),[],[],[]⟩) (
  Q ⟨(.agg #[(.int .u32 (dt w)),(.bool (paW w)),(.bool (paX w))]),none,[],[],[]⟩)
theorem AU:Vc2 Un prog (aR [(63,lQ),(84,bu)]) [] Tryz.f93 .leaf [] eX=(∀w,∀Q,(eX.body w Q)→AT w Q):=by kernel_rfl
section
attribute [local grind=] DB.jg
theorem qi:LV Un prog 93 eX:=verify Tryz.func93 aa (tb:= [(63,lQ),(84,bu)]) ⟨Iu,ej,trivial⟩ (by kernel_rfl) (AU.mpr fun w Q h=>by
 obtain⟨NK,h⟩:=h
 exact fun gv=>aj ‹_› fun s1 NB=>aB (fun c1=>ao (bL h (by grind)) (congrArg (Value.iface 236) (bC (by grind))) rfl rfl) fun c1=>(bq h (by grind)))
end
def gJ:Ctr Un:=⟨[.one (.obj 0 0),.one (.int .i64),.one (.int .u32)],[],[.ob 1 [(1,1,0)],.ob 0 []],[1],fun s va r E rm m K=>E.n=m.S∧(0≤(va:Int)∧(va:Int)<4294967296)∧split (decide (((E.on m).eH s va)≠0)) (K ⟨(.iface 236 (.int .u32 ((E.on m).eH s va))),(some .pan),[.ob 0 m],[],[]⟩) (K ⟨(.tuple #[]),(some (.t [])),[.ob 0 m],[],[]⟩)⟩
def Gn(s:Int)(va:Int)(r:Nat→Nat)(E:Pd)(rm:Nat→Nat)(m:Mem)(Q:Ou Un→Prop):Prop:=
 Pd.Ok E→
 Mem.Wf m→
 E.n=m.S∧
 (0≤va∧va<4294967296)∧
 ∀(m1:Mem),m1=m→
 Mem.Wf m1→
 split (((E.on m).bK s va)==140) (
  Q ⟨(.iface 236 (.int .u32 7)),(some .pan),[.ob 0 m1],[],[]⟩) (
  split (((E.on m).bK s va) !=0) (
   Q ⟨(.iface 236 (.int .u32 21)),(some .pan),[.ob 0 m1],[],[]⟩) (
   Q ⟨(.tuple #[]),(some (.t [])),[.ob 0 m1],[],[]⟩))
theorem Gp:Vc2 Un prog (aR [(156,ow),(84,bu)]) [] Tryz.f95 .leaf [] gJ=(∀s va r (E:Pd) rm (m:Mem),∀Q,(gJ.body s va r E rm m Q)→Gn s va r E rm m Q):=by kernel_rfl
section
attribute [local grind=] DB.eH
theorem vT:LV Un prog 95 gJ:=verify Tryz.func95 aa (tb:= [(156,ow),(84,bu)]) ⟨Ki,ej,trivial⟩ (by kernel_rfl) (Gp.mpr fun s va r E rm m Q h=>by
 obtain⟨NK,Oj,h⟩:=h
 exact fun f1 f2=>aj ‹_› fun s3=>aj ‹_› fun s4 m1 N5 f5=>aG (fun c1=>ao (bL h (by grind)) (congrArg (Value.iface 236) (bC (by grind))) (ab (uO0 (by grind)) rfl) rfl) fun c1=>aB (fun c2=>ao (bL h (by grind)) (congrArg (Value.iface 236) (bC (by grind))) (ab (uO0 (by grind)) rfl) rfl) fun c2=>ao (bq h (by grind)) rfl (ab (uO0 (by grind)) rfl) rfl)
end
def gH:Ctr Un:=⟨[.one (.obj 0 0),.one (.int .u32),.one (.int .u32)],[(2,5)],[.ob 1 [(1,1,0)],.ob 0 [],.ob 5 []],[0,1],fun s q r E rm m rk kk K=>E.n=m.S∧(0≤(s:Int)∧(s:Int)<4294967296)∧(0≤(q:Int)∧(q:Int)<4294967296)∧K ⟨(.int .u32 ((E.on m).cU s q)),none,[.ob 1 (((E.on m).bt s q).pd),.ob 0 (((E.on m).bt s q).mem)],[],[]⟩⟩
def Gi(s:Int)(q:Int)(r:Nat→Nat)(E:Pd)(rm:Nat→Nat)(m:Mem)(rk:Nat→Nat)(kk:List Int)(Q:Ou Un→Prop):Prop:=
 Pd.Ok E→
 Mem.Wf m→
 ∀(gv:Nat),
 E.n=m.S∧
 (0≤s∧s<4294967296)∧
 split (decide (((E.on m).bo s)≠0)) (
  Q ⟨(.int .u32 ((E.on m).bo s)),none,[.ob 1 E,.ob 0 m],[],[]⟩) (
  E.n=m.S∧
  (0≤q∧q<4294967296)∧
  split (decide (((E.on m).bo q)≠0)) (
   Q ⟨(.int .u32 ((E.on m).bo q)),none,[.ob 1 E,.ob 0 m],[],[]⟩) (
   split (s==q) (
    Q ⟨(.int .u32 16),none,[.ob 1 E,.ob 0 m],[],[]⟩) (
    E.n=m.S∧
    split (decide (((E.on m).bz s)≠0)) (
     Q ⟨(.int .u32 ((E.on m).bz s)),none,[.ob 1 E,.ob 0 m],[],[]⟩) (
     E.n=m.S∧
     split (decide (((E.on m).bz q)≠0)) (
      Q ⟨(.int .u32 ((E.on m).bz q)),none,[.ob 1 E,.ob 0 m],[],[]⟩) (
      E.n=m.S∧
      ∀(E1:Pd),E1=((E.on m).aS s q).pd→
      Pd.Ok E1→
      ∀(m1:Mem),m1=((E.on m).aS s q).mem→
      Mem.Wf m1→
      split (((E.on m).aT s q) !=0) (
       Q ⟨(.int .u32 24),none,[.ob 1 E1,.ob 0 m1],[],[]⟩) (
       E1.n=m1.S∧
       W26.Ok (W26.mk (Dg.svL Dg.new))∧
       ∀(m2:Mem),m2=(m1.wrs s 11 (W26.ws (W26.mk (Dg.svL Dg.new))))→
       Mem.Wf m2→
       Q ⟨(.int .u32 0),none,[.ob 1 E1,.ob 0 m2],[],[]⟩))))))
theorem Gj:VcD Un prog (aR [(83,dU),(84,bu),(85,eY),(60,kW),(62,lP),(86,iS)]) 82 236 [] Tryz.f31 .leaf [] gH=(∀s q r (E:Pd) rm (m:Mem) rk (kk:List Int),∀Q,(gH.body s q r E rm m rk kk Q)→Gi s q r E rm m rk kk Q):=by kernel_rfl
section
attribute [local grind=] DB.cU
theorem vS:LV Un prog 31 gH:=nw ans Tryz.func31 aa (tb:= [(83,dU),(84,bu),(85,eY),(60,kW),(62,lP),(86,iS)]) ⟨l6,ej,oF,xF,Il,xK,trivial⟩ (by kernel_rfl) (Gj.mpr fun s q r E rm m rk kk Q h=>by
 obtain⟨NK,Oj,Om,h⟩:=h
 exact fun f1 f2 gv=>aj ‹_› fun s3=>aj ‹_› fun s4=>ar (fun c1=>ao h (bC (by grind)) (ab (uO1 (by(rw [DB.bt,if_neg (by grind)];exact Pd.bk _ _ NK))) (ab (uO0 (by(rw [DB.bt,if_neg (by grind)];(subst_vars;rfl)))) rfl)) rfl) fun c1=>aj ‹_› fun s5=>aj ‹_› fun s6=>ar (fun c2=>ao h (bC (by grind)) (ab (uO1 (by(rw [DB.bt,if_neg (by grind)];exact Pd.bk _ _ NK))) (ab (uO0 (by(rw [DB.bt,if_neg (by grind)];(subst_vars;rfl)))) rfl)) rfl) fun c2=>aG (fun c3=>ao h (bC (by grind)) (ab (uO1 (by(rw [DB.bt,if_neg (by grind)];exact Pd.bk _ _ NK))) (ab (uO0 (by(rw [DB.bt,if_neg (by grind)];(subst_vars;rfl)))) rfl)) rfl) fun c3=>aj ‹_› fun s7=>ar (fun c4=>ao h (bC (by grind)) (ab (uO1 (by(rw [DB.bt,if_neg (by grind)];exact Pd.bk _ _ NK))) (ab (uO0 (by(rw [DB.bt,if_neg (by grind)];(subst_vars;rfl)))) rfl)) rfl) fun c4=>aj ‹_› fun s8=>ar (fun c5=>ao h (bC (by grind)) (ab (uO1 (by(rw [DB.bt,if_neg (by grind)];exact Pd.bk _ _ NK))) (ab (uO0 (by(rw [DB.bt,if_neg (by grind)];(subst_vars;rfl)))) rfl)) rfl) fun c5=>aj ‹_› fun s9 E1 Oc f10 m1 N5 f11=>aB (fun c6=>(by have htk:=DB.jH c1 c2 c3 c4 c5;exact ao h (bC (by grind)) (ab (uO1 (by rw [DB.bt,if_neg (by grind)];subst_vars;rw [DB.aS,if_neg c6])) (ab (uO0 (by rw [DB.bt,if_neg (by grind)];subst_vars;rw [DB.aS,if_neg c6])) rfl)) rfl)) fun c6=>aj (by(subst_vars;rfl)) fun U6=>aj (by show fi _;rw [W26.JC (by rfl)];exact Dg.A6 Dg.kA) fun V9 m2 Pc f14=>(by have htk:=DB.jH c1 c2 c3 c4 c5;exact ao h (bC (by grind)) (ab (uO1 (by(rw [DB.bt,if_pos (by grind)];subst_vars;exact DB.ep (by simp only [Mem.iD,Mem.bI,Mem.fz])))) (ab (uO0 (by(rw [DB.bt,if_pos (by grind)];subst_vars;rfl))) rfl)) rfl))
end
def fR:Ctr Un:=⟨[.one (.obj 0 0),.one (.int .u32),.one (.int .u32),.one (.int .u32)],[(2,5)],[.ob 1 [(1,1,0)],.ob 0 [],.ob 5 []],[0,1],fun s p b r E rm m rk kk K=>E.n=m.S∧(0≤(s:Int)∧(s:Int)<4294967296)∧(0≤(p:Int)∧(p:Int)<4294967296)∧(0≤(b:Int)∧(b:Int)<4294967296)∧K ⟨(.int .u32 ((E.on m).bS s p)),none,[.ob 1 ((DB.bg kk (E.on m) s p b).pd),.ob 0 ((DB.bg kk (E.on m) s p b).mem)],[],[]⟩⟩
def CR(s:Int)(p:Int)(b:Int)(r:Nat→Nat)(E:Pd)(rm:Nat→Nat)(m:Mem)(rk:Nat→Nat)(kk:List Int)(Q:Ou Un→Prop):Prop:=
 Pd.Ok E→
 Mem.Wf m→
 ∀(gv:Nat),
 E.n=m.S∧
 (0≤s∧s<4294967296)∧
 split (decide (((E.on m).aW s)≠0)) (
  Q ⟨(.int .u32 ((E.on m).aW s)),none,[.ob 1 E,.ob 0 m],[],[]⟩) (
  E.n=m.S∧
  (0≤p∧p<4294967296)∧
  split (decide (((E.on m).bo p)≠0)) (
   Q ⟨(.int .u32 ((E.on m).bo p)),none,[.ob 1 E,.ob 0 m],[],[]⟩) (
   E.n=m.S∧
   split (decide (((E.on m).bz p)≠0)) (
    Q ⟨(.int .u32 ((E.on m).bz p)),none,[.ob 1 E,.ob 0 m],[],[]⟩) (
    E.n=m.S∧
    ∀(E1:Pd),E1=((E.on m).take p 2 s).pd→
    Pd.Ok E1→
    ∀(m1:Mem),m1=((E.on m).take p 2 s).mem→
    Mem.Wf m1→
    (0≤b∧b<4294967296)∧
    ∀(m2:Mem),m2=(m1.write true p 0 b)→
    Mem.Wf m2→
    E1.n=m2.S∧
    (0≤b∧b<4294967296)∧
    ((1:Int)=1∨(1:Int)=2∨(1:Int)=4)∧
    ∀(m3:Mem),m3=(m2.msd kk s 1 b [])→
    Mem.Wf m3→
    Q ⟨(.int .u32 0),none,[.ob 1 E1,.ob 0 m3],[],[]⟩)))
theorem CT:VcD Un prog (aR [(87,cw),(83,dU),(85,eY),(64,kV),(14,br),(88,bZ),(42,jt),(89,cP)]) 82 236 [] Tryz.f32 .leaf [] fR=(∀s p b r (E:Pd) rm (m:Mem) rk (kk:List Int),∀Q,(fR.body s p b r E rm m rk kk Q)→CR s p b r E rm m rk kk Q):=by kernel_rfl
section
attribute [local grind=] DB.bS DB.bo DB.bz
theorem tP:LV Un prog 32 fR:=nw ans Tryz.func32 aa (tb:= [(87,cw),(83,dU),(85,eY),(64,kV),(14,br),(88,bZ),(42,jt),(89,cP)]) ⟨iT,l6,oF,xE,dq,gI,tE,jL,trivial⟩ (by kernel_rfl) (CT.mpr fun s p b r E rm m rk kk Q h=>by
 obtain⟨NK,Oj,Om,Rh,h⟩:=h
 exact fun f1 f2 gv=>aj ‹_› fun s3=>aj ‹_› fun s4=>ar (fun c1=>ao h (bC (by grind)) (ab (uO1 (by(rw [DB.bg,if_neg (by grind)];exact Pd.bk _ _ NK))) (ab (uO0 (by(rw [DB.bg,if_neg (by grind)];(subst_vars;rfl)))) rfl)) rfl) fun c1=>aj ‹_› fun s5=>aj ‹_› fun s6=>ar (fun c2=>ao h (bC (by grind)) (ab (uO1 (by(rw [DB.bg,if_neg (by grind)];exact Pd.bk _ _ NK))) (ab (uO0 (by(rw [DB.bg,if_neg (by grind)];(subst_vars;rfl)))) rfl)) rfl) fun c2=>aj ‹_› fun s7=>ar (fun c3=>ao h (bC (by grind)) (ab (uO1 (by(rw [DB.bg,if_neg (by grind)];exact Pd.bk _ _ NK))) (ab (uO0 (by(rw [DB.bg,if_neg (by grind)];(subst_vars;rfl)))) rfl)) rfl) fun c3=>aj ‹_› fun s8 E1 Oc f9 m1 N5 f10=>aj ‹_› fun Ov m2 Pc f12=>aj (by(subst_vars;(simp only [Mem.bI,Mem.fz,Mem.iD,Mem.ph];rfl))) fun V9=>aj ‹_› fun XJ=>aj (by decide) fun UA m3 Ol f16=>ao h (bC (by grind)) (ab (uO1 (by(rw [DB.bg,if_pos (by grind)];subst_vars;exact DB.ep (by simp only [Mem.iD,Mem.bI,Mem.fz])))) (ab (uO0 (by(rw [DB.bg,if_pos (by grind)];subst_vars;rfl))) rfl)) rfl)
end
def kj:Ctr Un:=⟨[.one (.obj 0 0),.one (.int .u32),.one (.int .u32),.one (.int .u32)],[(2,5)],[.ob 1 [(1,1,0)],.ob 0 [],.ob 5 []],[0,1],fun s p i r E rm m rk kk K=>E.n=m.S∧(0≤(s:Int)∧(s:Int)<4294967296)∧(0≤(p:Int)∧(p:Int)<4294967296)∧(0≤(i:Int)∧(i:Int)<4294967296)∧K ⟨(.int .u32 ((E.on m).eB s p i)),none,[.ob 1 ((DB.bP kk (E.on m) s p i).pd),.ob 0 ((DB.bP kk (E.on m) s p i).mem)],[],[]⟩⟩
def Gg(s:Int)(p:Int)(i:Int)(r:Nat→Nat)(E:Pd)(rm:Nat→Nat)(m:Mem)(rk:Nat→Nat)(kk:List Int)(Q:Ou Un→Prop):Prop:=
 Pd.Ok E→
 Mem.Wf m→
 ∀(gv:Nat),
 E.n=m.S∧
 (0≤s∧s<4294967296)∧
 split (decide (((E.on m).aW s)≠0)) (
  Q ⟨(.int .u32 ((E.on m).aW s)),none,[.ob 1 E,.ob 0 m],[],[]⟩) (
  E.n=m.S∧
  (0≤p∧p<4294967296)∧
  split (decide (((E.on m).bo p)≠0)) (
   Q ⟨(.int .u32 ((E.on m).bo p)),none,[.ob 1 E,.ob 0 m],[],[]⟩) (
   split (decide (i≥256)) (
    Q ⟨(.int .u32 16),none,[.ob 1 E,.ob 0 m],[],[]⟩) (
    E.n=m.S∧
    split (decide (((E.on m).bz p)≠0)) (
     Q ⟨(.int .u32 ((E.on m).bz p)),none,[.ob 1 E,.ob 0 m],[],[]⟩) (
     E.n=m.S∧
     ∀(m1:Mem),m1=m→
     Mem.Wf m1→
     ∀(m2:Mem),m2=m1→
     Mem.Wf m2→
     split ((m1.bD true ((E.on m).tbl s) (i64.wrap i)) !=0) (
      Q ⟨(.int .u32 7),none,[.ob 1 E,.ob 0 m2],[],[]⟩) (
      E.n=m2.S∧
      ∀(E1:Pd),E1=((E.on m2).take p 4 s).pd→
      Pd.Ok E1→
      ∀(m3:Mem),m3=((E.on m2).take p 4 s).mem→
      Mem.Wf m3→
      E1.n=m3.S∧
      ∀(E2:Pd),E2=((E1.on m3).add s (i64.wrap i) p).pd→
      Pd.Ok E2→
      ∀(m4:Mem),m4=((E1.on m3).add s (i64.wrap i) p).mem→
      Mem.Wf m4→
      E2.n=m4.S∧
      (0≤i∧i<4294967296)∧
      ((2:Int)=1∨(2:Int)=2∨(2:Int)=4)∧
      ∀(m5:Mem),m5=(m4.msd kk s 2 i [])→
      Mem.Wf m5→
      Q ⟨(.int .u32 0),none,[.ob 1 E2,.ob 0 m5],[],[]⟩)))))
theorem Gh:VcD Un prog (aR [(87,cw),(83,dU),(84,bu),(85,eY),(91,gw),(14,br),(88,bZ),(92,kO),(64,kV),(65,ic),(89,cP)]) 82 236 [] Tryz.f34 .leaf [] kj=(∀s p i r (E:Pd) rm (m:Mem) rk (kk:List Int),∀Q,(kj.body s p i r E rm m rk kk Q)→Gg s p i r E rm m rk kk Q):=by kernel_rfl
section
attribute [local grind=] DB.eB DB.word DB.bo DB.bz
theorem Gf:LV Un prog 34 kj:=nw ans Tryz.func34 aa (tb:= [(87,cw),(83,dU),(84,bu),(85,eY),(91,gw),(14,br),(88,bZ),(92,kO),(64,kV),(65,ic),(89,cP)]) ⟨iT,l6,ej,oF,tC,dq,gI,xf,xE,z1,jL,trivial⟩ (by kernel_rfl) (Gh.mpr fun s p i r E rm m rk kk Q h=>by
 obtain⟨NK,Oj,Om,Rh,h⟩:=h
 exact fun f1 f2=>(by(have UF:i64.wrap i=i:=aq (by omega));rw [UF];exact fun gv=>aj ‹_› fun s3=>aj ‹_› fun s4=>ar (fun c1=>ao h (bC (by grind)) (ab (uO1 (by(rw [DB.bP,if_neg (by grind)];exact Pd.bk _ _ NK))) (ab (uO0 (by(rw [DB.bP,if_neg (by grind)];(subst_vars;rfl)))) rfl)) rfl) fun c1=>aj ‹_› fun s5=>aj ‹_› fun s6=>ar (fun c2=>ao h (bC (by grind)) (ab (uO1 (by(rw [DB.bP,if_neg (by grind)];exact Pd.bk _ _ NK))) (ab (uO0 (by(rw [DB.bP,if_neg (by grind)];(subst_vars;rfl)))) rfl)) rfl) fun c2=>ar (fun c3=>ao h (bC (by grind)) (ab (uO1 (by(rw [DB.bP,if_neg (by grind)];exact Pd.bk _ _ NK))) (ab (uO0 (by(rw [DB.bP,if_neg (by grind)];(subst_vars;rfl)))) rfl)) rfl) fun c3=>aj ‹_› fun s7=>ar (fun c4=>ao h (bC (by grind)) (ab (uO1 (by(rw [DB.bP,if_neg (by grind)];exact Pd.bk _ _ NK))) (ab (uO0 (by(rw [DB.bP,if_neg (by grind)];(subst_vars;rfl)))) rfl)) rfl) fun c4=>aj ‹_› fun s8 m1 N5 f9 m2 Pc f10=>aB (fun c5=>ao h (bC (by grind)) (ab (uO1 (by(rw [DB.bP,if_neg (by grind)];exact Pd.bk _ _ NK))) (ab (uO0 (by(rw [DB.bP,if_neg (by grind)];(subst_vars;rfl)))) rfl)) rfl) fun c5=>aj (by(subst_vars;assumption)) fun Ov E1 Oc f12 m3 Ol f13=>aj (by(subst_vars;rfl)) fun XJ E2 P4 f15 m4 Ta f16=>aj (by(subst_vars;rfl)) fun U5=>aj ‹_› fun WQ=>aj (by decide) fun s19 m5 VL f20=>ao h (bC (by grind)) (ab (uO1 (by(rw [DB.bP,if_pos (by grind)];subst_vars;exact DB.ep (by simp only [Mem.iD,Mem.bI,Mem.fz])))) (ab (uO0 (by(rw [DB.bP,if_pos (by grind)];subst_vars;rfl))) rfl)) rfl))
end
def l7:Ctr Un:=⟨[.one (.obj 0 0),.one (.int .u32),.one (.int .u32),.one (.int .u32),.one (.int .u32)],[(2,5)],[.ob 1 [(1,1,0)],.ob 0 [],.ob 5 []],[0,1],fun s p v n r E rm m rk kk K=>E.n=m.S∧(0≤(s:Int)∧(s:Int)<4294967296)∧(0≤(p:Int)∧(p:Int)<4294967296)∧(0≤(v:Int)∧(v:Int)<4294967296)∧(0≤(n:Int)∧(n:Int)<4294967296)∧K ⟨(.int .u32 ((E.on m).fw s p v n)),none,[.ob 1 ((DB.cB kk (E.on m) s p v n).pd),.ob 0 ((DB.cB kk (E.on m) s p v n).mem)],[],[]⟩⟩
def I4(s:Int)(p:Int)(v:Int)(n:Int)(r:Nat→Nat)(E:Pd)(rm:Nat→Nat)(m:Mem)(rk:Nat→Nat)(kk:List Int)(Q:Ou Un→Prop):Prop:=
 Pd.Ok E→
 Mem.Wf m→
 ∀(gv:Nat),
 E.n=m.S∧
 (0≤s∧s<4294967296)∧
 split (decide (((E.on m).aW s)≠0)) (
  Q ⟨(.int .u32 ((E.on m).aW s)),none,[.ob 1 E,.ob 0 m],[],[]⟩) (
  E.n=m.S∧
  (0≤p∧p<4294967296)∧
  split (decide (((E.on m).bo p)≠0)) (
   Q ⟨(.int .u32 ((E.on m).bo p)),none,[.ob 1 E,.ob 0 m],[],[]⟩) (
   (0≤v∧v<4294967296)∧
   split (decide (DB.jg v≠0)) (
    Q ⟨(.int .u32 (DB.jg v)),none,[.ob 1 E,.ob 0 m],[],[]⟩) (
    ∀(NB:Nat),
    E.n=m.S∧
    (0≤n∧n<4294967296)∧
    split (decide (((E.on m).fZ n)≠0)) (
     Q ⟨(.int .u32 ((E.on m).fZ n)),none,[.ob 1 E,.ob 0 m],[],[]⟩) (
     ∀(NZ:Nat),
     E.n=m.S∧
     split (decide (((E.on m).bz p)≠0)) (
      Q ⟨(.int .u32 ((E.on m).bz p)),none,[.ob 1 E,.ob 0 m],[],[]⟩) (
      E.n=m.S∧
      (0≤(dt v)∧(dt v)<4294967296)∧
      split (decide (((E.on m).eH s (dt v))≠0)) (
       ∀(m1:Mem),m1=m→
       Mem.Wf m1→
       Q ⟨(.int .u32 ((E.on m).eH s (dt v))),none,[.ob 1 E,.ob 0 m1],[],[]⟩) (
       ∀(m1:Mem),m1=m→
       Mem.Wf m1→
       E.n=m1.S∧
       ∀(E1:Pd),E1=((E.on m1).take p 5 s).pd→
       Pd.Ok E1→
       ∀(m2:Mem),m2=((E.on m1).take p 5 s).mem→
       Mem.Wf m2→
       ∀(m3:Mem),m3=(m2.copy true p false n)→
       Mem.Wf m3→
       E1.n=m3.S∧
       (0≤(dt v)∧(dt v)<4294967296)∧
       ∀(E2:Pd),E2=((E1.on m3).put s (dt v) (Mp.mk true p (paW v) (paX v))).pd→
       Pd.Ok E2→
       ∀(m4:Mem),m4=((E1.on m3).put s (dt v) (Mp.mk true p (paW v) (paX v))).mem→
       Mem.Wf m4→
       split (m4.has true p) (
        ∀(A:Option Addr),
        ∀(m5:Mem),m5=m4→
        Mem.Wf m5→
        ∀(l:List U32),l=(m4.words true p.toNat)→
        (some (.slice A l.length 1024):Option Value)=some (.slice A ((m4.words true p.toNat).length) 1024)∧
        E2.n=m5.S∧
        (0≤v∧v<4294967296)∧
        (3:Int)=3∧
        l.length=1024∧
        fi l∧
        ∀(m6:Mem),m6=(m5.msd kk s 3 v l)→
        Mem.Wf m6→
        Q ⟨(.int .u32 0),none,[.ob 1 E2,.ob 0 m6],[],[]⟩) (
        ∀(m5:Mem),m5=m4→
        Mem.Wf m5→
        False)))))))
theorem I5:VcD Un prog (aR [(87,cw),(83,dU),(93,eX),(94,fT),(85,eY),(95,gJ),(64,kV),(14,br),(88,bZ),(66,xm),(67,nm),(69,xh),(89,gT)]) 82 236 [] Tryz.f35 (.r' (.r' (.r' (.r' (.r' (.r' (.r' (.two (.node [] none [] [(4,[5])] .leaf .leaf) (.two (.node [] none [] [(3,[4]),(7,[4]),(9,[4])] .leaf .leaf) .leaf))))))))) [] l7=(∀s p v n r (E:Pd) rm (m:Mem) rk (kk:List Int),∀Q,(l7.body s p v n r E rm m rk kk Q)→I4 s p v n r E rm m rk kk Q):=by kernel_rfl
section
attribute [local grind=] DB.fw DB.bo DB.bz
theorem I3:LV Un prog 35 l7:=nw ans Tryz.func35 aa (tb:= [(87,cw),(83,dU),(93,eX),(94,fT),(85,eY),(95,gJ),(64,kV),(14,br),(88,bZ),(66,xm),(67,nm),(69,xh),(89,gT)]) ⟨iT,l6,qi,tQ,oF,vT,xE,dq,gI,Kz,It,Kv,uL,trivial⟩ (by kernel_rfl) (I5.mpr fun s p v n r E rm m rk kk Q h=>by
 obtain⟨NK,Oj,Om,Rh,Qs,h⟩:=h
 exact fun f1 f2 gv=>aj ‹_› fun s3=>aj ‹_› fun s4=>ar (fun c1=>ao h (bC (by grind)) (ab (uO1 (by(rw [DB.cB,if_neg (by grind)];exact Pd.bk _ _ NK))) (ab (uO0 (by(rw [DB.cB,if_neg (by grind)];(subst_vars;rfl)))) rfl)) rfl) fun c1=>aj ‹_› fun s5=>aj ‹_› fun s6=>ar (fun c2=>ao h (bC (by grind)) (ab (uO1 (by(rw [DB.cB,if_neg (by grind)];exact Pd.bk _ _ NK))) (ab (uO0 (by(rw [DB.cB,if_neg (by grind)];(subst_vars;rfl)))) rfl)) rfl) fun c2=>aj ‹_› fun s7=>ar (fun c3=>ao h (bC (by grind)) (ab (uO1 (by(rw [DB.cB,if_neg (by grind)];exact Pd.bk _ _ NK))) (ab (uO0 (by(rw [DB.cB,if_neg (by grind)];(subst_vars;rfl)))) rfl)) rfl) fun c3 NB=>aj ‹_› fun s8=>aj ‹_› fun s9=>ar (fun c4=>ao h (bC (by grind)) (ab (uO1 (by(rw [DB.cB,if_neg (by grind)];exact Pd.bk _ _ NK))) (ab (uO0 (by(rw [DB.cB,if_neg (by grind)];(subst_vars;rfl)))) rfl)) rfl) fun c4 NZ=>aj ‹_› fun Td=>ar (fun c5=>ao h (bC (by grind)) (ab (uO1 (by(rw [DB.cB,if_neg (by grind)];exact Pd.bk _ _ NK))) (ab (uO0 (by(rw [DB.cB,if_neg (by grind)];(subst_vars;rfl)))) rfl)) rfl) fun c5=>aj ‹_› fun Ov=>aj (gV ‹_›) fun U6=>ar (fun c6 m1 N5 f13=>ao h (bC (by grind)) (ab (uO1 (by(rw [DB.cB,if_neg (by grind)];exact Pd.bk _ _ NK))) (ab (uO0 (by(rw [DB.cB,if_neg (by grind)];(subst_vars;rfl)))) rfl)) rfl) fun c6 m1 N5 f14=>aj (by(subst_vars;assumption)) fun UA E1 Oc f16 m2 Pc f17 m3 Ol f18=>aj (by(subst_vars;(simp only [Mem.bI,Mem.fz,Mem.iD,Mem.ph];rfl))) fun s19=>aj (gV ‹_›) fun s20 E2 P4 f21 m4 Ta f22=>af (fun c7 A m5 VL f23 l Rl=>aj (by(subst_vars;rfl)) fun s24=>aj (by(subst_vars;rfl)) fun s25=>aj ‹_› fun s26=>aj (by omega) fun s27=>aj (by subst_vars;exact Mem.cS _ _ _) fun s28=>aj (by subst_vars;exact Mem.qW ‹_› _ _) fun s29 m6 h_m6 f30=>ao h (bC (by grind)) (ab (uO1 (by(rw [DB.cB,if_pos (by grind)];subst_vars;exact DB.ep (by simp only [Mem.iD,Mem.bI,Mem.fz])))) (ab (uO0 (by(rw [DB.cB,if_pos (by grind)];subst_vars;rfl))) rfl)) rfl) fun c7=>(by exfalso;rw [show m4=((E.on m).cX s p v n).mem by subst_vars;rfl,DB.BK,DB.iq c2]at c7;cases c7))
end
def km:Ctr Un:=⟨[.one (.obj 0 0),.one (.int .u32),.one (.int .u32),.one (.int .u32)],[(2,5)],[.ob 1 [(1,1,0)],.ob 0 [],.ob 5 []],[0,1],fun s v n r E rm m rk kk K=>E.n=m.S∧(0≤(s:Int)∧(s:Int)<4294967296)∧(0≤(v:Int)∧(v:Int)<4294967296)∧(0≤(n:Int)∧(n:Int)<4294967296)∧K ⟨(.int .u32 ((E.on m).fh s v n)),none,[.ob 1 ((DB.bV kk (E.on m) s v n).pd),.ob 0 ((DB.bV kk (E.on m) s v n).mem)],[],[]⟩⟩
def Gl(s:Int)(v:Int)(n:Int)(r:Nat→Nat)(E:Pd)(rm:Nat→Nat)(m:Mem)(rk:Nat→Nat)(kk:List Int)(Q:Ou Un→Prop):Prop:=
 Pd.Ok E→
 Mem.Wf m→
 ∀(gv:Nat),
 E.n=m.S∧
 (0≤s∧s<4294967296)∧
 split (decide (((E.on m).aW s)≠0)) (
  Q ⟨(.int .u32 ((E.on m).aW s)),none,[.ob 1 E,.ob 0 m],[],[]⟩) (
  (0≤v∧v<4294967296)∧
  split (decide (DB.jg v≠0)) (
   Q ⟨(.int .u32 (DB.jg v)),none,[.ob 1 E,.ob 0 m],[],[]⟩) (
   ∀(NB:Nat),
   split (paX v) (
    Q ⟨(.int .u32 6),none,[.ob 1 E,.ob 0 m],[],[]⟩) (
    E.n=m.S∧
    (0≤n∧n<4294967296)∧
    split (decide (((E.on m).fZ n)≠0)) (
     Q ⟨(.int .u32 ((E.on m).fZ n)),none,[.ob 1 E,.ob 0 m],[],[]⟩) (
     ∀(NZ:Nat),
     E.n=m.S∧
     (0≤(dt v)∧(dt v)<4294967296)∧
     split (decide (((E.on m).eH s (dt v))≠0)) (
      ∀(m1:Mem),m1=m→
      Mem.Wf m1→
      Q ⟨(.int .u32 ((E.on m).eH s (dt v))),none,[.ob 1 E,.ob 0 m1],[],[]⟩) (
      ∀(m1:Mem),m1=m→
      Mem.Wf m1→
      E.n=m1.S∧
      (0≤(dt v)∧(dt v)<4294967296)∧
      ∀(E1:Pd),E1=((E.on m1).put s (dt v) (Mp.mk false n (paW v) false)).pd→
      Pd.Ok E1→
      ∀(m2:Mem),m2=((E.on m1).put s (dt v) (Mp.mk false n (paW v) false)).mem→
      Mem.Wf m2→
      E1.n=m2.S∧
      (0≤v∧v<4294967296)∧
      ((4:Int)=1∨(4:Int)=2∨(4:Int)=4)∧
      ∀(m3:Mem),m3=(m2.msd kk s 4 v [])→
      Mem.Wf m3→
      Q ⟨(.int .u32 0),none,[.ob 1 E1,.ob 0 m3],[],[]⟩)))))
theorem Gm:VcD Un prog (aR [(87,cw),(93,eX),(84,bu),(94,fT),(95,gJ),(67,nm),(89,cP)]) 82 236 [] Tryz.f36 .leaf [] km=(∀s v n r (E:Pd) rm (m:Mem) rk (kk:List Int),∀Q,(km.body s v n r E rm m rk kk Q)→Gl s v n r E rm m rk kk Q):=by kernel_rfl
section
attribute [local grind=] DB.fh DB.bo DB.bz
theorem Gk:LV Un prog 36 km:=nw ans Tryz.func36 aa (tb:= [(87,cw),(93,eX),(84,bu),(94,fT),(95,gJ),(67,nm),(89,cP)]) ⟨iT,qi,ej,tQ,vT,It,jL,trivial⟩ (by kernel_rfl) (Gm.mpr fun s v n r E rm m rk kk Q h=>by
 obtain⟨NK,Oj,Om,Rh,h⟩:=h
 exact fun f1 f2 gv=>aj ‹_› fun s3=>aj ‹_› fun s4=>ar (fun c1=>ao h (bC (by grind)) (ab (uO1 (by(rw [DB.bV,if_neg (by grind)];exact Pd.bk _ _ NK))) (ab (uO0 (by(rw [DB.bV,if_neg (by grind)];(subst_vars;rfl)))) rfl)) rfl) fun c1=>aj ‹_› fun s5=>ar (fun c2=>ao h (bC (by grind)) (ab (uO1 (by(rw [DB.bV,if_neg (by grind)];exact Pd.bk _ _ NK))) (ab (uO0 (by(rw [DB.bV,if_neg (by grind)];(subst_vars;rfl)))) rfl)) rfl) fun c2 NB=>af (fun c3=>ao h (bC (by grind)) (ab (uO1 (by(rw [DB.bV,if_neg (by grind)];exact Pd.bk _ _ NK))) (ab (uO0 (by(rw [DB.bV,if_neg (by grind)];(subst_vars;rfl)))) rfl)) rfl) fun c3=>aj ‹_› fun s6=>aj ‹_› fun s7=>ar (fun c4=>ao h (bC (by grind)) (ab (uO1 (by(rw [DB.bV,if_neg (by grind)];exact Pd.bk _ _ NK))) (ab (uO0 (by(rw [DB.bV,if_neg (by grind)];(subst_vars;rfl)))) rfl)) rfl) fun c4 NZ=>aj ‹_› fun s8=>aj (gV ‹_›) fun s9=>ar (fun c5 m1 N5 f10=>ao h (bC (by grind)) (ab (uO1 (by(rw [DB.bV,if_neg (by grind)];exact Pd.bk _ _ NK))) (ab (uO0 (by(rw [DB.bV,if_neg (by grind)];(subst_vars;rfl)))) rfl)) rfl) fun c5 m1 N5 f11=>aj (by(subst_vars;assumption)) fun U6=>aj (gV ‹_›) fun V9 E1 Oc f14 m2 Pc f15=>aj (by(subst_vars;rfl)) fun VA=>aj ‹_› fun U5=>aj (by decide) fun WQ m3 Ol f19=>ao h (bC (by grind)) (ab (uO1 (by(rw [DB.bV,if_pos (by grind)];subst_vars;exact DB.ep (by simp only [Mem.iD,Mem.bI,Mem.fz])))) (ab (uO0 (by(rw [DB.bV,if_pos (by grind)];subst_vars;rfl))) rfl)) rfl)
end
end
end Go.Proofs.YtinhphjfnedhgaaGreatDoor
namespace Go.Proofs.YtinhphjfnedhgaaGreatDoor
open Go.Proofs.Tryz (prog)
open Go Go.RowKit V
open Go.IntKind (i64 u32 u64)
theorem vi {w w1:World} {L:gj} {D:DB} {L':eW} {s:Nat} {T':TypeId}(h:DBP w L D)(hq:Pu w w1)(hM:cv w1 L' D.mem)(hX:∀k,L'.X k→w.heap.size≤k)(hb:Blk w1 s (aY (List.replicate D.n2 0)) T')(hsw:w.heap.size≤s)(XT:¬L'.X s) {R:aD}(hR:∀v w',(∃L2:gj,v=ptr L2.g∧DBP w' L2 D∧(∀k,L2.X k→w.heap.size≤k)∧Pu w w')→R v w'):
 ∀(gv:Nat)(Ny:World),gv=w1.heap.size→Ny=w1.alloc (.cells #[ptr L'.g,.int .i64 D.aF,.slice (some (Addr.mk s 0 none)) D.n2 D.n2] 110)→
 Kept (bE (fun _ k=>k=L.g) [0,1,2,5,6,9,10,11,12]) w1 Ny∧∃b3:Nat→Nat→Prop,(∀i k,(fun _ k=>k=L.g:Nat→Nat→Prop) i k→b3 i k)∧
 ∃b4:Nat→Nat→Prop,
 b4 3 (((Addr.mk gv 0 none).add 2).block)∧
 ∃Ql:Option Addr,∃P9:Nat,∃Qk:Nat,Ny.drew.cell? ((Addr.mk gv 0 none).add 2)=some (.slice Ql P9 Qk)∧
 au (some (Addr.mk L.g 0 none)) fun Sf=>
 b4 7 ((Sf.add 2).block)∧
 ∃PN:Option Addr,∃PI:Nat,∃PW:Nat,Ny.drew.cell? (Sf.add 2)=some (.slice PN PI PW)∧
 ∃QO:Int,∃NF,(Builtin.copy_ #[62,62] 3 #[(.slice Ql P9 Qk),(.slice PN PI PW)]:Sem Value).run prog Ny.drew= .ok (.int .i64 QO) NF∧
 Kept (bE b4 [0,4]) Ny.drew NF∧∃b5:Nat→Nat→Prop,(∀i k,b4 i k→b5 i k)∧
 R (.pointer (some (Addr.mk gv 0 none))) NF:=by
 intro gv w2 hg WY
 have hm:=made hg WY
 have hmn:=hm.num
 have UN:Pu w w2.drew:=(hq.trans hm.pu).trans (Pu.aI w2)
 have Xr:=h.pu UN
 have hMm:cv w2.drew L' D.mem:=(hM.pu hm.pu).pu (Pu.aI w2)
 have Xk:Blk w2.drew s (aY (List.replicate D.n2 0)) T':=(hm.old hb).drew
 have X8:=hm.blk.drew
 have XS:=hb.lt
 have hgl:L.g<w.heap.size:=h.lt _ (.inl rfl)
 have QA:=hq.size
 obtain⟨T0,hd0⟩:=Xr.hd
 refine⟨hm.kept.mono (fun k hk=>by have:k=L.g:=(by simpa [bE]using hk);rw [this];omega),fun _ k=>k=L.g,fun _ k hk=>hk,fun _ k=>k=gv∨k=L.g,by rw [block_add];exact .inl rfl,_,_,_,X8.at rfl,ai _ rfl ⟨by rw [block_add];exact .inr rfl,_,_,_,hd0.at rfl,?_⟩⟩
 obtain⟨x,w3,PD,PZ⟩:=o5 (P:=prog) (dT:=62) (sT:=62) (ty:=3) (dn:=D.n2) (dc:=D.n2) nL Xk rfl Xr.ints (by simp) (K:=fun w3=>bF w2.drew s (aY (fI (List.replicate D.n2 0) 0 (D.ws.take (min D.n2 D.n2)))) T' w3) (fun _ hs=>hs)
 have Sg:D.ws.length=D.n2:=D.jG
 rw [List.take_of_length_le (by omega),nJ _ _ (by rw [Sg];simp)]at PZ
 refine⟨x,w3,PD,PZ.kept.mono (fun k hk=>by have:k=gv∨k=L.g:=(by simpa [bE]using hk);rcases this with e | e<;>omega),fun _ k=>k=gv∨k=L.g,fun _ k hk=>hk,hR _ _ ⟨⟨gv,s,L'⟩,rfl,⟨⟨_,PZ.old X8 (show gv≠s by omega)⟩,⟨T',_,PZ.blk,by rw [dL,Sg],fun p hp=>?_⟩,hMm.ch PZ.ch fun k hk e=>XT (e▸hk),h.ok,⟨by show s≠gv;omega,fun(hx:L'.X gv)=>absurd (hM.lt gv hx) (by omega),XT⟩⟩,?_,?_⟩⟩
 ·have Om:p<D.S:=hp
  have e1:=mf (fun p=>(D.ent p).w0) (fun p=>(D.ent p).w1) D.S (2*p) (by omega)
  have e2:=mf (fun p=>(D.ent p).w0) (fun p=>(D.ent p).w1) D.S (2*p+1) (by omega)
  have f1:D.ws[2*p]? =some (D.ent p).w0:=by
   show((List.range D.S).flatMap fun p=>[(D.ent p).w0,(D.ent p).w1])[2*p]? =_
   rw [e1,if_pos (by omega),show 2*p / 2=p by omega]
  have f2:D.ws[2*p+1]? =some (D.ent p).w1:=by
   show((List.range D.S).flatMap fun p=>[(D.ent p).w0,(D.ent p).w1])[2*p+1]? =_
   rw [e2,if_neg (by omega),show(2*p+1) / 2=p by omega]
  have hl:D.ws.length=2*D.S:=D.jG
  exact⟨by rw [eo (by omega),List.getD_eq_getElem?_getD,f1];rfl,by rw [eo (by omega),List.getD_eq_getElem?_getD,f2];rfl⟩
 ·rintro k (e | e | hk)
  ·rw [e];show w.heap.size≤gv;omega
  ·rw [e];exact hsw
  ·exact hX k hk
 ·exact Ch.stored (X:=fun _=>False) UN PZ (.inr hsw)
theorem LL {w:World} {L:gj} {D:DB}(h:DBP w L D):
 Calls prog 17 #[ptr L.g] w fun e w'=>∃v,e= .returned v∧∃L2:gj,v=ptr L2.g∧DBP w' L2 D∧(∀k,L2.X k→w.heap.size≤k)∧Pu w w':=by
 refine xJ _ ?_
 have hD:Pu w w.drew:=Pu.aI w
 have h1:=h.pu hD
 obtain⟨T,hd⟩:=h1.hd
 have hgl:L.g<w.drew.heap.size:=hd.lt
 have h0s:w.drew.heap.size=w.heap.size:=rfl
 have hm64:=h.mem.er.1
 have iL:∀(l:List Nat)(k:Nat),bE (fun _ k=>k=L.g) l k→k=L.g:=fun l k hk=>by
  induction l with
  | nil=>simp [bE]at hk
  | cons a l ih=>
   cases l with
   | nil=>exact hk
   | cons c l=>rcases(show k=L.g∨bE (fun _ k=>k=L.g) (c::l) k from hk)with hk | hk;exact hk;exact ih hk
 refine⟨fun _ k=>k=L.g,ai _ rfl ⟨by rw [block_add],_,hd.at rfl,ai _ rfl ⟨by rw [block_add],_,hd.at rfl,ai _ rfl ⟨by rw [block_add],_,_,_,hd.at rfl,?_⟩⟩⟩⟩
 refine⟨?_,?_⟩
 ·refine(Bt h1.mem).mono ?_
  rintro e w1 ⟨_,rfl,L',rfl,hM,hX,Oj⟩
  refine⟨_,rfl,Oj.iL (fun k hk=>by rw [iL _ k hk];exact hgl),fun _ k=>k=L.g,fun _ k hk=>hk,?_⟩
  refine gR nL (by omega) (by unfold DB.n2;omega) (by unfold DB.n2;omega) fun s w2 hs=>?_
  have hp1s:=Oj.size
  refine⟨hs.kept.mono (fun k hk=>by rw [iL _ k hk];omega),fun _ k=>k=L.g,fun _ k hk=>hk,?_⟩
  rw [Int.toNat_natCast]at hs ⊢
  have hq:Pu w w2:=(hD.trans Oj).trans hs.pu
  have UY:=hM.pu hs.pu
  have hsn:=hs.num
  have hb:Blk w2 s (aY (List.replicate D.n2 0)) _:=hs.blk.cast (dM _ _)
  have XT:¬L'.X s:=fun hx=>by have:=hM.lt s hx;omega
  have hsw:w.heap.size≤s:=by omega
  have hX:∀k,L'.X k→w.heap.size≤k:=hX
  exact vi h hq UY hX hb hsw XT fun _ _ h=>h
 ·refine gR nL (by omega) (by unfold DB.n2;omega) (by unfold DB.n2;omega) fun s w1 hs=>?_
  refine⟨hs.kept.mono (fun k hk=>by rw [iL _ k hk];omega),fun _ k=>k=L.g,fun _ k hk=>hk,?_⟩
  rw [Int.toNat_natCast]at hs ⊢
  refine(Bt (h1.mem.pu hs.pu)).mono ?_
  rintro e w2 ⟨_,rfl,L',rfl,hM,hX,Oj⟩
  have O2:=hs.pu.size
  refine⟨_,rfl,Oj.iL (fun k hk=>by rw [iL _ k hk];omega),fun _ k=>k=L.g,fun _ k hk=>hk,?_⟩
  have hq:Pu w w2:=(hD.trans hs.pu).trans Oj
  have hsn:=hs.num
  have hb:Blk w2 s (aY (List.replicate D.n2 0)) _:=Oj.blk (hs.blk.cast (dM _ _))
  have XT:¬L'.X s:=fun hx=>by have:=hX s hx;have:=hs.blk.lt;omega
  exact vi h hq hM (fun k hk=>by have:=hX k hk;omega) hb (by omega) XT fun _ _ h=>h
section
section
variable {U:Uni}
theorem aM.two {rs:List (Res U)} {X:Nat→Nat→Prop} {w w':World} {Q:Ou U→Prop} {v:Value} {k:Option Kn} {Z1 Z2:Nat→Prop} {r1 r2:Res U} {kc:List (Key×Kn)}(hs:Sat rs X w)(q:Pu w w')(h1:RS Z1 w' r1)(h2:RS Z2 w' r2)(VD:∀k,Z1 k→w.heap.size≤k)(Wd:∀k,Z2 k→w.heap.size≤k)(hd:∀k,Z1 k→¬Z2 k)(hQ:Q ⟨v,k,[],[r1,r2],kc⟩)(hk:KnO (rs++ [r1,r2]) v k)
 (S7:∀key k,(key,k)∈kc→eE (rs++ [r1,r2]) fr0 key k):aM rs [] X w Q (.returned v) w':=by
 have n1:nth (rs++ [r1,r2]) rs.length=some r1:=by rw [bm,if_neg (by omega),Nat.sub_self];rfl
 have n2:nth (rs++ [r1,r2]) (rs.length+1)=some r2:=by rw [bm,if_neg (by omega),show rs.length+1 - rs.length=1 by omega];rfl
 let X':Nat→Nat→Prop:=fun i=>if i=rs.length then Z1 else if i=rs.length+1 then Z2 else X i
 have e1:X' rs.length=Z1:=if_pos rfl
 have e2:X' (rs.length+1)=Z2:=by show(if _ then _ else if _ then _ else _)=_;rw [if_neg (by omega),if_pos rfl]
 have e0:∀i,i<rs.length→X' i=X i:=fun i hi=>by show(if _ then _ else if _ then _ else _)=_;rw [if_neg (by omega),if_neg (by omega)]
 have new:∀i,rs.length≤i→i<rs.length+2→∀k,X' i k→w.heap.size≤k:=fun i ha hb k hk=>by
  rcases(show i=rs.length∨i=rs.length+1 by omega)with e | e
  ·subst e;rw [e1]at hk;exact VD k hk
  ·subst e;rw [e2]at hk;exact Wd k hk
 refine⟨⟨v,k,[],[r1,r2],kc⟩,rs,X',fv hk,hQ,by simp [bx],⟨⟨fun i r hr=>?_,fun i j hi hj OS k O4 OO=>?_⟩,q.mono (fun _ h=>h.elim),fun i hi _=>e0 i hi,fun i hi=>(by cases hi),fun i ha hb=>new i ha (by simpa using hb),.inr hk,fun key k hm _=>S7 key k hm⟩⟩
 ·have hl:=aX hr
  simp only [List.length_append,List.length_cons,List.length_nil]at hl
  by_cases hi:i<rs.length
  ·rw [bm,if_pos hi]at hr
   rw [e0 i hi]
   exact(hs.res i r hr).ch q (by simp)
  ·rcases(show i=rs.length∨i=rs.length+1 by omega)with e | e
   ·subst e;rw [n1]at hr;injection hr with hr;subst hr;rw [e1];exact h1
   ·subst e;rw [n2]at hr;injection hr with hr;subst hr;rw [e2];exact h2
 ·simp only [List.length_append,List.length_cons,List.length_nil]at hi hj
  by_cases OI:i<rs.length
  ·have hl:k<w.heap.size:=hs.lt OI k (by rw [e0 i OI]at O4;exact O4)
   by_cases QS:j<rs.length
   ·rw [e0 i OI]at O4;rw [e0 j QS]at OO
    exact hs.dis i j OI QS OS k O4 OO
   ·have:=new j (by omega) (by omega) k OO;omega
  ·by_cases QS:j<rs.length
   ·have hl:k<w.heap.size:=hs.lt QS k (by rw [e0 j QS]at OO;exact OO)
    have:=new i (by omega) (by omega) k O4;omega
   ·rcases(show i=rs.length∧j=rs.length+1∨j=rs.length∧i=rs.length+1 by omega)with⟨ea,eb⟩ | ⟨ea,eb⟩
    ·subst ea;subst eb;rw [e1]at O4;rw [e2]at OO;exact hd k O4 OO
    ·subst ea;subst eb;rw [e2]at O4;rw [e1]at OO;exact hd k OO O4
end
end
end Go.Proofs.YtinhphjfnedhgaaGreatDoor
namespace Go.Proofs.YtinhphjfnedhgaaGreatDoor
open Go.Proofs.Tryz (prog)
open Go Go.RowKit V
open Go.IntKind (i64 u32 u64)
section
set_option maxRecDepth 100000
set_option maxHeartbeats 1000000
attribute [local irreducible] Vc2 VcD
def jz:Ctr Un:=⟨[.one (.obj 0 0)],[],[.ob 1 [(1,1,0)],.ob 0 []],[],fun r E rm m K=>E.n=m.S∧∀(rN:Nat→Nat)(rM:Nat→Nat),K ⟨(.pointer (some (Addr.mk (rN 0) 0 none))),(some (.p (.obj 2 0 0))),[],[(.ob 1 rN E),(.ob 0 rM m)],[(.l 2 1,.p (.obj 3 0 0))]⟩⟩
theorem tO:LV Un prog 17 jz:=by
 show ∀(r:Nat→Nat)(E:Pd)(rm:Nat→Nat)(m:Mem),∀Q:Ou Un→Prop,(E.n=m.S∧∀(rN:Nat→Nat)(rM:Nat→Nat),Q ⟨(.pointer (some (Addr.mk (rN 0) 0 none))),(some (.p (.obj 2 0 0))),[],[(.ob 1 rN E),(.ob 0 rM m)],[(.l 2 1,.p (.obj 3 0 0))]⟩)→∀(X:Nat→Nat→Prop)(w:World),Sat (U:=Un) [(.ob 1 r E),(.ob 0 rm m)] X w→aC (U:=Un) [(.ob 1 r E),(.ob 0 rm m)] fr0 [(.l 0 1,.p (.obj 1 0 0))]→Calls prog 17 #[(.pointer (some (Addr.mk (r 0) 0 none)))] w (aM (U:=Un) [(.ob 1 r E),(.ob 0 rm m)] [] X w Q)
 intro r E rm m Q hQ X w hs hl
 obtain⟨hn,hQ⟩:=hQ
 obtain⟨a,L,hg,hr,hD,QT,Rm⟩:=yq hs hl hn
 refine(LL hD).mono ?_
 rintro e w' ⟨u,rfl,L2,rfl,Xr,hz,q⟩
 have W4:=Xr.pd
 rw [Pd.bk E m hn]at W4
 exact aM.two (Z1:=fun k=>k=L2.g∨k=L2.a) (Z2:=L2.M.X) (k:=some (.p (.obj 2 0 0))) (kc:= [(.l 2 1,.p (.obj 3 0 0))]) hs q
  (show RS (U:=Un) _ w' (.ob 1 (fun i=>if i=0 then L2.g else L2.M.g) E)from(⟨L2.a,fun k=>Iff.rfl,W4⟩:bJ 1 (fun i=>if i=0 then L2.g else L2.M.g) E (fun k=>k=L2.g∨k=L2.a) w'))
  (show RS (U:=Un) _ w' (.ob 0 (fun _=>L2.M.g) m)from(⟨L2.M,rfl,fun _=>Iff.rfl,Xr.mem⟩:bJ 0 (fun _=>L2.M.g) m L2.M.X w'))
  (fun k hk=>hz k (hk.imp id .inl)) (fun k hk=>hz k (.inr (.inr hk))) (fun k h1 h2=>by rcases h1 with rfl | rfl;exact Xr.dis.2.1 h2;exact Xr.dis.2.2 h2) (hQ (fun i=>if i=0 then L2.g else L2.M.g) (fun _=>L2.M.g)) rfl (r9 ⟨_,_,_,rfl,rfl⟩)
end
section
set_option maxRecDepth 100000
set_option maxHeartbeats 1000000
attribute [local irreducible] Vc2 VcD
attribute [local grind=] Pd.dQ Pd.cT Pd.kz Pd.nS Pd.bk Pd.jd Pd.fJ Pd.iI Pd.nH Pd.Bn
attribute [local grind .] Pd.Ok.ent
attribute [local grind→] Pd.Ok.er
def lM:Ctr Un:=⟨[.one (.obj 0 0)],[],[.ob 2 []],[],fun rm m K=>K ⟨(.int .i64 (m.S:Int)),none,[],[],[]⟩⟩
theorem zN:LV Un prog 79 lM:=by
 show ∀(rm:Nat→Nat)(m:Mem),∀Q:Ou Un→Prop,(Q ⟨(.int .i64 (m.S:Int)),none,[],[],[]⟩)→∀(X:Nat→Nat→Prop)(w:World),Sat (U:=Un) [(.ob 2 rm m)] X w→aC (U:=Un) [(.ob 2 rm m)] fr0 []→Calls prog 79 #[(.pointer (some (Addr.mk (rm 0) 0 none)))] w (aM (U:=Un) [(.ob 2 rm m)] [] X w Q)
 intro rm m Q hQ X w hs hl
 obtain⟨L,hX,hM⟩:=(hs.res 0 _ rfl:bJ 2 rm m (X 0) w)
 refine(Ek hM).mono ?_
 rintro e w' ⟨u,rfl,rfl,q⟩
 subst q
 exact aM.pu hs (Ch.refl _ _) hQ trivial
def pn:Ctr Un:=⟨[.one (.obj 0 0)],[],[.ob 2 []],[0],fun rm m K=>∀(g:Nat)(A1:Option Addr)(c1:Nat),K ⟨(.pointer (some (Addr.mk g 0 none))),(some (.p (.loc 1 0))),[.ob 2 (m.cH m.S)],[(.blk g [(.pointer (some (Addr.mk (rm 0) 0 none))),(.slice A1 ((List.replicate m.S Ent.free).length) c1),(.int .i64 0)] 101),(.lst 4 true 96 A1 c1 (List.replicate m.S Ent.free))],[(.c 1 0,.p (.obj 0 0 0)),(.c 1 1,.p (.sl 2 0))]⟩⟩
def Fq(rm:Nat→Nat)(m:Mem)(Q:Ou Un→Prop):Prop:=
 Mem.Wf m→
 (some (.pointer (some (Addr.mk (rm 0) 0 none))):Option Value)=some (.pointer (some (Addr.mk (rm 0) 0 none)))∧
 ∀(gv:Nat),
 ∀p:Int,p=0→
 ∃I:Nat→Int→Mem→Int→Option Addr→Nat→List Ent→Prop,(∃m1,I m1 p m 0 none 0 ([]:List Ent))∧∀(m1:Nat)(Oi:Nat→Value)(p1:Int)(s0:Mem)(R4:Int)(A2:Option Addr)(c2:Nat)(l2:List Ent),I m1 p1 s0 R4 A2 c2 l2→
 Mem.Wf s0→
 split (decide (p1<s0.S)) (
  ∀(m3:Mem),m3=(s0.zero true p1)→
  Mem.Wf m3→
  ∀(NZ:Nat),
  ∀(l:List Ent),l=([Ent.mk 0 0 0 0 false]:List Ent)→
  ((l2.length+l.length)*40≤140737488355328)∧
  ∀(A:Option Addr)(c:Nat),
  ∀(l1:List Ent),l1=(l2++l)→
  ∀p2:Int,p2=(i64.wrap (p1+1))→
  ∃m2,m2<m1∧I m2 p2 m3 R4 A c l1) (
  Q ⟨(.pointer (some (Addr.mk gv 0 none))),(some (.p (.loc 1 0))),[.ob 2 s0],[(.blk gv [(.pointer (some (Addr.mk (rm 0) 0 none))),(.slice A2 l2.length c2),(.int .i64 R4)] 101),(.lst 4 true 96 A2 c2 l2)],[(.c 1 0,.p (.obj 0 0 0)),(.c 1 1,.p (.sl 2 0))]⟩)
theorem Ft:Vc2 Un prog (aR [(79,lM),(81,eh),(80,j9)]) [4] Tryz.f30 (.r' (.r' (.r' (.two (.r' (.two (.node [(.c 1 1,4,96)] (some ⟨[(4,(.one (.int .i64)))],[],[4]++upN 10 20,[(0,(.ob 2)),(1,(.blk [(.k (.obj 0 0 0)),(.k (.sl 2 0)),(.v (.int .i64))])),(2,(.lst 4))]⟩) [] [] .leaf .leaf) .leaf)) .leaf)))) [1,2] pn=(∀rm (m:Mem),∀Q,(pn.body rm m Q)→Fq rm m Q):=by kernel_rfl
theorem Fp:LV Un prog 30 pn:=verify Tryz.func30 aa (tb:= [(79,lM),(81,eh),(80,j9)]) ⟨zN,nf,vC,trivial⟩ (by kernel_rfl) (Ft.mpr fun rm m Q h f1=>(by have hS:=f1.2.1;exact aj (by rfl) fun s2 gv=>allEq<| ⟨fun m1 p1 s0 R4 A2 c2 l2=>(m1=((m.S:Int) - p1).toNat)∧(0≤p1∧p1≤(m.S:Int))∧(s0=m.cH p1.toNat)∧(R4=0)∧(l2=List.replicate p1.toNat Ent.free),⟨_,rfl,(by omega),(by rfl),(by rfl),(by rfl)⟩,fun m1 _ p1 s0 R4 A2 c2 l2 ⟨hm,hi,hs,hy,hl⟩=>(by(have hsS:s0.S=m.S:=by rw [hs,Mem.l8]);exact fun f3=>ar (fun c1 m3 Ol f4 NZ l Rl=>aj (by rw [Rl,hl];simp;omega) fun s5 A c l1 PF=>allEq<| ⟨_,(by rw [aq (x:=p1+1) (by omega)];omega),rfl,(by rw [aq (x:=p1+1) (by omega)];omega),(by rw [Ol,hs,Mem.qR _ (by omega)]),(hy),(by rw [PF,Rl,hl,aq (x:=p1+1) (by omega),show(p1+1).toNat=p1.toNat+1 by omega,List.replicate_succ'])⟩) fun c1=>(by(have Wk:List.replicate m.S Ent.free=l2:=by rw [hl,show p1.toNat=m.S by omega]);(have hm3:m.cH m.S=s0:=by rw [hs,show p1.toNat=m.S by omega]);exact ao (h gv A2 c2) rfl (ab (uO2 ‹_›) rfl) (ab (congrArg (fun l=>Res.blk (U:=Un) _ l _) (ab rfl (ab (by grind) (ab (aE (by omega)) rfl)))) (ab (congrArg (Res.lst (U:=Un) 4 true 96 _ _) ‹_›) rfl))))⟩))
end
section
set_option maxRecDepth 100000
set_option maxHeartbeats 1000000
attribute [local irreducible] Vc2 VcD
theorem DB.yx(m:Mem):(DB.new m).pd.aJ=List.replicate m.S Ent.free:=by
 show(List.range (DB.new m).S).map (fun _=>Ent.free)=_
 rw [DB.yy,List.map_const',List.length_range]
theorem DB.Lr {m:Mem}(h:1≤m.S)(hS:m.S≤64):(DB.new m).pd.Ok:=⟨(DB.kA m h).ent,(DB.kA m h).aF,by show(DB.new m).S≤64;rw [DB.yy];exact hS⟩
def tg:Ctr Un:=⟨[.one (.obj 0 0)],[],[.ob 2 []],[0],fun rm m K=>1≤m.S∧∀(rN:Nat→Nat),K ⟨(.pointer (some (Addr.mk (rN 0) 0 none))),(some (.p (.obj 1 0 0))),[.ob 2 (m.cH m.S)],[(.ob 3 rN ((DB.new m).pd))],[(.l 1 1,.p (.obj 0 0 0))]⟩⟩
theorem Ih:LV Un prog 30 tg:=by
 show ∀(rm:Nat→Nat)(m:Mem),∀Q:Ou Un→Prop,(1≤m.S∧∀(rN:Nat→Nat),Q ⟨(.pointer (some (Addr.mk (rN 0) 0 none))),(some (.p (.obj 1 0 0))),[.ob 2 (m.cH m.S)],[(.ob 3 rN ((DB.new m).pd))],[(.l 1 1,.p (.obj 0 0 0))]⟩)→∀(X:Nat→Nat→Prop)(w:World),Sat (U:=Un) [(.ob 2 rm m)] X w→aC (U:=Un) [(.ob 2 rm m)] fr0 []→Calls prog 30 #[(.pointer (some (Addr.mk (rm 0) 0 none)))] w (aM (U:=Un) [(.ob 2 rm m)] [0] X w Q)
 intro rm m Q hQ X w hs hl
 obtain⟨hS,hQ⟩:=hQ
 have hwf:Mem.Wf m:=H4 (t:=2) (r:=rm) (s:=m) (hs.res 0 _ rfl)
 have h1:=Fp rm m (fun o=>∃(g:Nat)(A1:Option Addr)(c1:Nat),o=⟨(.pointer (some (Addr.mk g 0 none))),(some (.p (.loc 1 0))),[.ob 2 (m.cH m.S)],[(.blk g [(.pointer (some (Addr.mk (rm 0) 0 none))),(.slice A1 ((List.replicate m.S Ent.free).length) c1),(.int .i64 0)] 101),(.lst 4 true 96 A1 c1 (List.replicate m.S Ent.free))],[(.c 1 0,.p (.obj 0 0 0)),(.c 1 1,.p (.sl 2 0))]⟩) (fun g A1 c1=>⟨g,A1,c1,rfl⟩) X w hs hl
 refine h1.mono ?_
 rintro e w' ⟨out,rs',X',rfl,⟨g,A1,c1,rfl⟩,Oo,hp⟩
 change bx [Res.ob 2 rm m] [0] [.ob 2 (m.cH m.S)]=some rs' at Oo
 have UU: [Res.ob (U:=Un) 2 rm (m.cH m.S)]=rs':=by simpa [bx,dz,nth,cJ]using Oo
 subst UU
 have Ws:RS (U:=Un) (X' 1) w' (.blk g [.pointer (some (Addr.mk (rm 0) 0 none)),.slice A1 (DB.new m).pd.aJ.length c1,.int .i64 (DB.new m).pd.aF] 101):=by rw [DB.yx];exact hp.sat.res 1 _ rfl
 have Tl:RS (U:=Un) (X' 2) w' (.lst 4 true 96 A1 c1 (DB.new m).pd.aJ):=by rw [DB.yx];exact hp.sat.res 2 _ rfl
 obtain⟨e,hob,hZ⟩:=Ld (E:=(DB.new m).pd) Ws Tl (hp.sat.dis 1 2 (by simp) (by simp) (by omega)) (by show 1≤(DB.new m).S;rw [DB.yy];exact hS) (DB.Lr hS hwf.2.1)
 exact aM.pack (k':=some (.p (.obj 1 0 0))) (kc':= [(.l 1 1,.p (.obj 0 0 0))]) Oo hp hob (fun k hk=>hk.elim (fun e=>.inl (e▸Ws.1)) (fun e=>.inr (e▸hZ))) (hQ (fun i=>if i=0 then g else if i=1 then rm 0 else if i=2 then e else c1)) rfl (r9 ⟨_,_,_,rfl,rfl⟩)
end
section
set_option maxRecDepth 100000
set_option maxHeartbeats 1000000
attribute [local irreducible] Vc2 VcD
attribute [local grind=] Pd.dQ Pd.cT Pd.kz Pd.nS Pd.bk Pd.jd Pd.fJ Pd.iI Pd.nH Pd.Bn
attribute [local grind .] Pd.Ok.ent
attribute [local grind→] Pd.Ok.er
def lW:Ctr Un:=⟨[.one (.obj 0 0),.enc 5],[(2,5)],[.ob 1 [(1,1,0)],.ob 0 [],.ob 5 []],[0,1],fun o r E rm m rk kk K=>E.n=m.S∧LOp.Ok o∧K ⟨(.int .i64 ((E.on m).cO o)),none,[.ob 1 ((DB.call kk (E.on m) o).pd),.ob 0 ((DB.call kk (E.on m) o).mem)],[],[]⟩⟩
def Ax(o:LOp)(r:Nat→Nat)(E:Pd)(rm:Nat→Nat)(m:Mem)(rk:Nat→Nat)(kk:List Int)(Q:Ou Un→Prop):Prop:=
 Pd.Ok E→
 Mem.Wf m→
 ∀(gv:Nat),
 ∀x7:Bool,x7=((o.k:Int)==1)→
 split x7 (
  E.n=m.S∧
  (0≤o.a∧o.a<4294967296)∧
  (0≤o.b∧o.b<4294967296)∧
  ∀(E1:Pd),E1=((E.on m).bt o.a o.b).pd→
  Pd.Ok E1→
  ∀(m1:Mem),m1=((E.on m).bt o.a o.b).mem→
  Mem.Wf m1→
  Q ⟨(.int .i64 (i64.wrap ((E.on m).cU o.a o.b))),none,[.ob 1 E1,.ob 0 m1],[],[]⟩) (
  ∀OJ:Bool,OJ=((o.k:Int)==2)→
  split OJ (
   E.n=m.S∧
   (0≤o.a∧o.a<4294967296)∧
   (0≤o.b∧o.b<4294967296)∧
   (0≤o.c∧o.c<4294967296)∧
   ∀(E1:Pd),E1=(DB.bg kk (E.on m) o.a o.b o.c).pd→
   Pd.Ok E1→
   ∀(m1:Mem),m1=(DB.bg kk (E.on m) o.a o.b o.c).mem→
   Mem.Wf m1→
   Q ⟨(.int .i64 (i64.wrap ((E.on m).bS o.a o.b))),none,[.ob 1 E1,.ob 0 m1],[],[]⟩) (
   ∀SB:Bool,SB=((o.k:Int)==3)→
   split SB (
    E.n=m.S∧
    (0≤o.a∧o.a<4294967296)∧
    (0≤o.b∧o.b<4294967296)∧
    (0≤o.c∧o.c<4294967296)∧
    ∀(E1:Pd),E1=(DB.bP kk (E.on m) o.a o.b o.c).pd→
    Pd.Ok E1→
    ∀(m1:Mem),m1=(DB.bP kk (E.on m) o.a o.b o.c).mem→
    Mem.Wf m1→
    Q ⟨(.int .i64 (i64.wrap ((E.on m).eB o.a o.b o.c))),none,[.ob 1 E1,.ob 0 m1],[],[]⟩) (
    ∀x38:Bool,x38=((o.k:Int)==4)→
    split x38 (
     E.n=m.S∧
     (0≤o.a∧o.a<4294967296)∧
     (0≤o.b∧o.b<4294967296)∧
     (0≤o.c∧o.c<4294967296)∧
     (0≤o.d∧o.d<4294967296)∧
     ∀(E1:Pd),E1=(DB.cB kk (E.on m) o.a o.b o.c o.d).pd→
     Pd.Ok E1→
     ∀(m1:Mem),m1=(DB.cB kk (E.on m) o.a o.b o.c o.d).mem→
     Mem.Wf m1→
     Q ⟨(.int .i64 (i64.wrap ((E.on m).fw o.a o.b o.c o.d))),none,[.ob 1 E1,.ob 0 m1],[],[]⟩) (
     E.n=m.S∧
     (0≤o.a∧o.a<4294967296)∧
     (0≤o.b∧o.b<4294967296)∧
     (0≤o.c∧o.c<4294967296)∧
     ∀(E1:Pd),E1=(DB.bV kk (E.on m) o.a o.b o.c).pd→
     Pd.Ok E1→
     ∀(m1:Mem),m1=(DB.bV kk (E.on m) o.a o.b o.c).mem→
     Mem.Wf m1→
     Q ⟨(.int .i64 (i64.wrap ((E.on m).fh o.a o.b o.c))),none,[.ob 1 E1,.ob 0 m1],[],[]⟩))))
theorem Ay:Vc2 Un prog (aR [(31,gH),(32,fR),(34,kj),(35,l7),(36,km)]) [7,16,27,38] Tryz.f9 .leaf [] lW=(∀(o:LOp) r (E:Pd) rm (m:Mem) rk (kk:List Int),∀Q,(lW.body o r E rm m rk kk Q)→Ax o r E rm m rk kk Q):=by kernel_rfl
theorem Aw:LV Un prog 9 lW:=verify Tryz.func9 aa (tb:= [(31,gH),(32,fR),(34,kj),(35,l7),(36,km)]) ⟨vS,tP,Gf,I3,Gk,trivial⟩ (by kernel_rfl) (Ay.mpr fun o r E rm m rk kk Q h=>by
 obtain⟨NK,Oj,h⟩:=h
 exact fun f1 f2=>(by obtain⟨ho1,Rq,ho3,ho4⟩:=Oj;have hsm:=DB.JW (E.on m) o;(have UG:i64.wrap ((E.on m).cO o)=(E.on m).cO o:=aq (by omega));unfold DB.cO at UG;exact fun gv=>allEq<| aG (fun c1=>aj ‹_› fun s3=>aj ‹_› fun s4=>aj ‹_› fun s5 E1 Oc f6 m1 N5 f7=>ao h (aE (by unfold DB.cO;rw [if_pos ‹_›]at UG ⊢;exact UG.symm)) (ab (uO1 (by(rw [DB.call,if_pos ‹_›];subst_vars;rfl))) (ab (uO0 (by(rw [DB.call,if_pos ‹_›];subst_vars;rfl))) rfl)) rfl) fun c1=>allEq<| aG (fun c2=>aj ‹_› fun s8=>aj ‹_› fun s9=>aj ‹_› fun Td=>aj ‹_› fun Ov E1 Oc f12 m1 N5 f13=>ao h (aE (by unfold DB.cO;rw [if_neg ‹_›,if_pos ‹_›]at UG ⊢;exact UG.symm)) (ab (uO1 (by(rw [DB.call,if_neg ‹_›,if_pos ‹_›];subst_vars;rfl))) (ab (uO0 (by(rw [DB.call,if_neg ‹_›,if_pos ‹_›];subst_vars;rfl))) rfl)) rfl) fun c2=>allEq<| aG (fun c3=>aj ‹_› fun XJ=>aj ‹_› fun UA=>aj ‹_› fun VA=>aj ‹_› fun U5 E1 Oc f18 m1 N5 f19=>ao h (aE (by unfold DB.cO;rw [if_neg ‹_›,if_neg ‹_›,if_pos ‹_›]at UG ⊢;exact UG.symm)) (ab (uO1 (by(rw [DB.call,if_neg ‹_›,if_neg ‹_›,if_pos ‹_›];subst_vars;rfl))) (ab (uO0 (by(rw [DB.call,if_neg ‹_›,if_neg ‹_›,if_pos ‹_›];subst_vars;rfl))) rfl)) rfl) fun c3=>allEq<| aG (fun c4=>aj ‹_› fun s20=>aj ‹_› fun s21=>aj ‹_› fun s22=>aj ‹_› fun s23=>aj ‹_› fun s24 E1 Oc f25 m1 N5 f26=>ao h (aE (by unfold DB.cO;rw [if_neg ‹_›,if_neg ‹_›,if_neg ‹_›,if_pos ‹_›]at UG ⊢;exact UG.symm)) (ab (uO1 (by(rw [DB.call,if_neg ‹_›,if_neg ‹_›,if_neg ‹_›,if_pos ‹_›];subst_vars;rfl))) (ab (uO0 (by(rw [DB.call,if_neg ‹_›,if_neg ‹_›,if_neg ‹_›,if_pos ‹_›];subst_vars;rfl))) rfl)) rfl) fun c4=>aj ‹_› fun s27=>aj ‹_› fun s28=>aj ‹_› fun s29=>aj ‹_› fun s30 E1 Oc f31 m1 N5 f32=>ao h (aE (by unfold DB.cO;rw [if_neg ‹_›,if_neg ‹_›,if_neg ‹_›,if_neg ‹_›]at UG ⊢;exact UG.symm)) (ab (uO1 (by(rw [DB.call,if_neg ‹_›,if_neg ‹_›,if_neg ‹_›,if_neg ‹_›];subst_vars;rfl))) (ab (uO0 (by(rw [DB.call,if_neg ‹_›,if_neg ‹_›,if_neg ‹_›,if_neg ‹_›];subst_vars;rfl))) rfl)) rfl))
def fE:Ctr Un:=⟨[.one (.obj 0 0),.enc 5],[(2,6)],[.ob 3 [(1,1,0)],.ob 2 [],.ob 6 []],[0,1],fun o r E rm m rk kk K=>E.n=m.S∧LOp.Ok o∧((∀s,(E.on m).aW s=0→Dg.ay (m.dgW s)=0))∧K ⟨(.int .i64 ((E.on m).cO o)),none,[.ob 3 ((DB.call kk (E.on m) o).pd),.ob 2 ((DB.call kk (E.on m) o).mem)],[],[]⟩⟩
def uF(o:LOp)(r:Nat→Nat)(E:Pd)(rm:Nat→Nat)(m:Mem)(rk:Nat→Nat)(kk:List Int)(Q:Ou Un→Prop):Prop:=
 Pd.Ok E→
 Mem.Wf m→
 ∀(gv:Nat),
 ∀x7:Bool,x7=((o.k:Int)==1)→
 split x7 (
  E.n=m.S∧
  (0≤o.a∧o.a<4294967296)∧
  (0≤o.b∧o.b<4294967296)∧
  ∀(E1:Pd),E1=((E.on m).bt o.a o.b).pd→
  Pd.Ok E1→
  ∀(m1:Mem),m1=((E.on m).bt o.a o.b).mem→
  Mem.Wf m1→
  Q ⟨(.int .i64 ((E.on m).cU o.a o.b)),none,[.ob 3 E1,.ob 2 m1],[],[]⟩) (
  ∀PQ:Bool,PQ=((o.k:Int)==2)→
  split PQ (
   E.n=m.S∧
   (0≤o.a∧o.a<4294967296)∧
   (0≤o.b∧o.b<4294967296)∧
   (0≤o.c∧o.c<4294967296)∧
   (((E.on m).aW o.a=0→Dg.ay (m.dgW o.a)=0))∧
   ∀(E1:Pd),E1=(DB.bg kk (E.on m) o.a o.b o.c).pd→
   Pd.Ok E1→
   ∀(m1:Mem),m1=(DB.bg kk (E.on m) o.a o.b o.c).mem→
   Mem.Wf m1→
   Q ⟨(.int .i64 ((E.on m).bS o.a o.b)),none,[.ob 3 E1,.ob 2 m1],[],[]⟩) (
   ∀PJ:Bool,PJ=((o.k:Int)==3)→
   split PJ (
    E.n=m.S∧
    (0≤o.a∧o.a<4294967296)∧
    (0≤o.b∧o.b<4294967296)∧
    (0≤o.c∧o.c<4294967296)∧
    (((E.on m).aW o.a=0→Dg.ay (m.dgW o.a)=0))∧
    ∀(E1:Pd),E1=(DB.bP kk (E.on m) o.a o.b o.c).pd→
    Pd.Ok E1→
    ∀(m1:Mem),m1=(DB.bP kk (E.on m) o.a o.b o.c).mem→
    Mem.Wf m1→
    Q ⟨(.int .i64 ((E.on m).eB o.a o.b o.c)),none,[.ob 3 E1,.ob 2 m1],[],[]⟩) (
    ∀P8:Bool,P8=((o.k:Int)==4)→
    split P8 (
     E.n=m.S∧
     (0≤o.a∧o.a<4294967296)∧
     (0≤o.b∧o.b<4294967296)∧
     (0≤o.c∧o.c<4294967296)∧
     (0≤o.d∧o.d<4294967296)∧
     (((E.on m).aW o.a=0→Dg.ay (m.dgW o.a)=0))∧
     ∀(E1:Pd),E1=(DB.cB kk (E.on m) o.a o.b o.c o.d).pd→
     Pd.Ok E1→
     ∀(m1:Mem),m1=(DB.cB kk (E.on m) o.a o.b o.c o.d).mem→
     Mem.Wf m1→
     Q ⟨(.int .i64 ((E.on m).fw o.a o.b o.c o.d)),none,[.ob 3 E1,.ob 2 m1],[],[]⟩) (
     E.n=m.S∧
     (0≤o.a∧o.a<4294967296)∧
     (0≤o.b∧o.b<4294967296)∧
     (0≤o.c∧o.c<4294967296)∧
     (((E.on m).aW o.a=0→Dg.ay (m.dgW o.a)=0))∧
     ∀(E1:Pd),E1=(DB.bV kk (E.on m) o.a o.b o.c).pd→
     Pd.Ok E1→
     ∀(m1:Mem),m1=(DB.bV kk (E.on m) o.a o.b o.c).mem→
     Mem.Wf m1→
     Q ⟨(.int .i64 ((E.on m).fh o.a o.b o.c)),none,[.ob 3 E1,.ob 2 m1],[],[]⟩))))
theorem uG:Vc2 Un prog (aR [(37,eT),(38,eu),(39,eS),(40,fA),(41,eU)]) [7,15,25,35] Tryz.f10 .leaf [] fE=(∀(o:LOp) r (E:Pd) rm (m:Mem) rk (kk:List Int),∀Q,(fE.body o r E rm m rk kk Q)→uF o r E rm m rk kk Q):=by kernel_rfl
theorem uE:LV Un prog 10 fE:=verify Tryz.func10 aa (tb:= [(37,eT),(38,eu),(39,eS),(40,fA),(41,eU)]) ⟨sP,qp,sM,uc,sU,trivial⟩ (by kernel_rfl) (uG.mpr fun o r E rm m rk kk Q h=>by
 obtain⟨NK,Oj,Om,h⟩:=h
 exact fun f1 f2=>(by obtain⟨ho1,Rq,ho3,ho4⟩:=Oj;exact fun gv=>allEq<| aG (fun c1=>aj ‹_› fun s3=>aj ‹_› fun s4=>aj ‹_› fun s5 E1 Oc f6 m1 N5 f7=>ao h (aE (by rw [DB.cO,if_pos ‹_›])) (ab (uO3 (by(rw [DB.call,if_pos ‹_›];subst_vars;rfl))) (ab (uO2 (by(rw [DB.call,if_pos ‹_›];subst_vars;rfl))) rfl)) rfl) fun c1=>allEq<| aG (fun c2=>aj ‹_› fun s8=>aj ‹_› fun s9=>aj ‹_› fun Td=>aj ‹_› fun Ov=>aj (Om _) fun U6 E1 Oc f13 m1 N5 f14=>ao h (aE (by rw [DB.cO,if_neg ‹_›,if_pos ‹_›])) (ab (uO3 (by(rw [DB.call,if_neg ‹_›,if_pos ‹_›];subst_vars;rfl))) (ab (uO2 (by(rw [DB.call,if_neg ‹_›,if_pos ‹_›];subst_vars;rfl))) rfl)) rfl) fun c2=>allEq<| aG (fun c3=>aj ‹_› fun UA=>aj ‹_› fun VA=>aj ‹_› fun U5=>aj ‹_› fun WQ=>aj (Om _) fun s19 E1 Oc f20 m1 N5 f21=>ao h (aE (by rw [DB.cO,if_neg ‹_›,if_neg ‹_›,if_pos ‹_›])) (ab (uO3 (by(rw [DB.call,if_neg ‹_›,if_neg ‹_›,if_pos ‹_›];subst_vars;rfl))) (ab (uO2 (by(rw [DB.call,if_neg ‹_›,if_neg ‹_›,if_pos ‹_›];subst_vars;rfl))) rfl)) rfl) fun c3=>allEq<| aG (fun c4=>aj ‹_› fun s22=>aj ‹_› fun s23=>aj ‹_› fun s24=>aj ‹_› fun s25=>aj ‹_› fun s26=>aj (Om _) fun s27 E1 Oc f28 m1 N5 f29=>ao h (aE (by rw [DB.cO,if_neg ‹_›,if_neg ‹_›,if_neg ‹_›,if_pos ‹_›])) (ab (uO3 (by(rw [DB.call,if_neg ‹_›,if_neg ‹_›,if_neg ‹_›,if_pos ‹_›];subst_vars;rfl))) (ab (uO2 (by(rw [DB.call,if_neg ‹_›,if_neg ‹_›,if_neg ‹_›,if_pos ‹_›];subst_vars;rfl))) rfl)) rfl) fun c4=>aj ‹_› fun s30=>aj ‹_› fun s31=>aj ‹_› fun s32=>aj ‹_› fun s33=>aj (Om _) fun s34 E1 Oc f35 m1 N5 f36=>ao h (aE (by rw [DB.cO,if_neg ‹_›,if_neg ‹_›,if_neg ‹_›,if_neg ‹_›])) (ab (uO3 (by(rw [DB.call,if_neg ‹_›,if_neg ‹_›,if_neg ‹_›,if_neg ‹_›];subst_vars;rfl))) (ab (uO2 (by(rw [DB.call,if_neg ‹_›,if_neg ‹_›,if_neg ‹_›,if_neg ‹_›];subst_vars;rfl))) rfl)) rfl))
def kh:Ctr Un:=⟨[.one (.obj 0 0),.one (.int .i64)],[],[.ob 1 [(1,1,0)],.ob 0 []],[],fun p r E rm m K=>E.n=m.S∧K ⟨(.bool ((E.on m).lB p)),none,[],[],[]⟩⟩
def FZ(p:Int)(r:Nat→Nat)(E:Pd)(rm:Nat→Nat)(m:Mem)(Q:Ou Un→Prop):Prop:=
 Pd.Ok E→
 Mem.Wf m→
 E.n=m.S∧
 ∀(gv:Nat),
 E.n=m.S∧
 ∀(NB:Nat),
 ∃J:Bool→Prop,(
  split (((E.on m).aO p)==0) (
   split (((E.on m).aO (((E.on m).entry p).owner))==0) (
    split (((E.on m).entry p).typ !=0) (
     split (((E.on m).entry (((E.on m).entry p).owner)).state==3) (
      split (((E.on m).entry p).typ !=1) (
       J true) (
       J (((E.on m).entry p).refs==0))) (
      J false)) (
     J false)) (
    J false)) (
   J false))∧∀(OW:Nat→Value)(x4:Bool),J x4→
 Q ⟨(.bool x4),none,[],[],[]⟩
theorem F2:Vc2 Un prog (aR [(18,dx)]) [] Tryz.f44 (.r' (.r' (.r' (.two (.node [] (some ⟨[(4,(.one .bool))],[],[4]++upN 22 26,[]⟩) [] [] .leaf .leaf) .leaf)))) [] kh=(∀p r (E:Pd) rm (m:Mem),∀Q,(kh.body p r E rm m Q)→FZ p r E rm m Q):=by kernel_rfl
section
attribute [local grind=] DB.lB DB.entry DB.aO
theorem FY:LV Un prog 44 kh:=verify Tryz.func44 aa (tb:= [(18,dx)]) ⟨jy,trivial⟩ (by kernel_rfl) (F2.mpr fun p r E rm m Q h=>by
 obtain⟨NK,h⟩:=h
 exact fun f1 f2=>aj ‹_› fun s3 gv=>aj ‹_› fun s4 NB=>cN (((((E.on m).aO p):Int)==0) && (((((E.on m).aO (((E.on m).entry p).owner)):Int)==0) && (((((E.on m).entry p).typ:Int) !=0) && (((((E.on m).entry (((E.on m).entry p).owner)).state:Int)==3) && (((((E.on m).entry p).typ:Int) !=1) || ((((E.on m).entry p).refs:Int)==0)))))) (af (fun c1=>af (fun c2=>af (fun c3=>af (fun c4=>af (fun c5=>(by grind)) fun c5=>(by grind)) fun c4=>(by grind)) fun c3=>(by grind)) fun c2=>(by grind)) fun c1=>(by grind))<| gZ h (by grind))
end
def lX:Ctr Un:=⟨[.one (.obj 0 0),.enc 5],[],[.ob 1 [(1,1,0)],.ob 0 []],[0,1],fun o r E rm m K=>E.n=m.S∧LOp.Ok o∧K ⟨(.tuple #[]),(some (.t [])),[.ob 1 (((E.on m).beside o).pd),.ob 0 (((E.on m).beside o).mem)],[],[]⟩⟩
def AB(o:LOp)(r:Nat→Nat)(E:Pd)(rm:Nat→Nat)(m:Mem)(Q:Ou Un→Prop):Prop:=
 Pd.Ok E→
 Mem.Wf m→
 ∀(gv:Nat),
 ∀x9:Bool,x9=((o.k:Int)==6)→
 split x9 (
  (0≤o.c∧o.c<4294967296)∧
  ∀(m1:Mem),m1=(m.write false (i64.wrap o.a) (i64.wrap ((o.b:Int).tmod 1024)) o.c)→
  Mem.Wf m1→
  Q ⟨(.tuple #[]),(some (.t [])),[.ob 1 E,.ob 0 m1],[],[]⟩) (
  ∀Qh:Bool,Qh=((o.k:Int)==7)→
  split Qh (
   E.n=m.S∧
   ∀(NB:Nat),
   ∃J:Bool→Prop,(
    split (((E.on m).aO (i64.wrap o.a))==0) (
     split (((E.on m).entry (i64.wrap o.a)).typ==1) (
      J (((E.on m).entry (i64.wrap o.a)).state==1)) (
      J false)) (
     J false))∧∀(OW:Nat→Value)(WI:Bool),J WI→
   split WI (
    ∀i:Int,i=0→
    ∃I:Nat→Int→Mem→Prop,(∃m1,I m1 i m)∧∀(m1:Nat)(QD:Nat→Value)(i1:Int)(s1:Mem),I m1 i1 s1→
    Mem.Wf s1→
    split (decide (i1<26)) (
     (0≤(0:Int)∧(0:Int)<4294967296)∧
     ∀(m3:Mem),m3=(s1.write true (i64.wrap o.a) (i64.wrap (11+i1)) 0)→
     Mem.Wf m3→
     ∀i2:Int,i2=(i64.wrap (i1+1))→
     ∃m2,m2<m1∧I m2 i2 m3) (
     E.n=s1.S∧
     ∀(E1:Pd),E1=((E.on s1).setState (i64.wrap o.a) 2).pd→
     Pd.Ok E1→
     ∀(m3:Mem),m3=((E.on s1).setState (i64.wrap o.a) 2).mem→
     Mem.Wf m3→
     Q ⟨(.tuple #[]),(some (.t [])),[.ob 1 E1,.ob 0 m3],[],[]⟩)) (
    Q ⟨(.tuple #[]),(some (.t [])),[.ob 1 E,.ob 0 m],[],[]⟩)) (
   ∀YJ:Bool,YJ=((o.k:Int)==8)→
   split YJ (
    E.n=m.S∧
    ∀(E1:Pd),E1=((E.on m).setState (i64.wrap o.a) 3).pd→
    Pd.Ok E1→
    ∀(m1:Mem),m1=((E.on m).setState (i64.wrap o.a) 3).mem→
    Mem.Wf m1→
    Q ⟨(.tuple #[]),(some (.t [])),[.ob 1 E1,.ob 0 m1],[],[]⟩) (
    ∀RW:Bool,RW=((o.k:Int)==9)→
    split RW (
     E.n=m.S∧
     split ((E.on m).lB (i64.wrap o.a)) (
      E.n=m.S∧
      ∀(E1:Pd),E1=((E.on m).fu (i64.wrap o.a)).pd→
      Pd.Ok E1→
      ∀(m1:Mem),m1=((E.on m).fu (i64.wrap o.a)).mem→
      Mem.Wf m1→
      Q ⟨(.tuple #[]),(some (.t [])),[.ob 1 E1,.ob 0 m1],[],[]⟩) (
      Q ⟨(.tuple #[]),(some (.t [])),[.ob 1 E,.ob 0 m],[],[]⟩)) (
     Q ⟨(.tuple #[]),(some (.t [])),[.ob 1 E,.ob 0 m],[],[]⟩))))
theorem AD:Vc2 Un prog (aR [(14,br),(42,jt),(18,dx),(43,l0),(44,kh),(45,xH)]) [6,9,24,64,71] Tryz.f11 (.r' (.r' (.two (.r' (.two (.node [] none [] [(3,[2]),(7,[2]),(11,[2])] .leaf .leaf) (.r' (.two (.r' (.two (.node [] (some ⟨[(45,(.one .bool))],[],upN 34 12,[]⟩) [] [] .leaf .leaf) (.two (.two (.r' (.two (.node [] (some ⟨[(6,(.one (.int .i64)))],[],[6]++upN 46 13,[(1,(.ob 0))]⟩) [] [] (.r' (.two (.two (.node [] none [] [(3,[2])] .leaf .leaf) .leaf) .leaf)) .leaf) .leaf)) .leaf) .leaf))) .leaf)))) .leaf))) [] lX=(∀(o:LOp) r (E:Pd) rm (m:Mem),∀Q,(lX.body o r E rm m Q)→AB o r E rm m Q):=by kernel_rfl
theorem Az:LV Un prog 11 lX:=verify Tryz.func11 aa (tb:= [(14,br),(42,jt),(18,dx),(43,l0),(44,kh),(45,xH)]) ⟨dq,tE,jy,AH,FY,KG,trivial⟩ (by kernel_rfl) (AD.mpr fun o r E rm m Q h=>by
 obtain⟨NK,Oj,h⟩:=h
 exact fun f1 f2=>(by obtain⟨ho1,Rq,ho3,ho4⟩:=Oj;(have hwa:i64.wrap o.a=o.a:=aq (by omega));(have hwb:i64.wrap (Int.tmod o.b 1024)=o.b % 1024:=by rw [Int.tmod_eq_emod_of_nonneg Rq.1,aq (by omega)]);simp only [hwa,hwb];exact fun gv=>allEq<| aG (fun c1=>aj ‹_› fun s3 m1 N5 f4=>ao h rfl (ab (uO1 (by rw [DB.beside,if_pos ‹_›];subst_vars;(rw [DB.ep (by simp only [Mem.bI,Mem.fz])];exact Pd.bk _ _ NK))) (ab (uO0 (by rw [DB.beside,if_pos ‹_›];subst_vars;rfl)) rfl)) rfl) fun c1=>allEq<| aG (fun c2=>aj ‹_› fun s5 NB=>⟨fun WI=>(WI=(E.on m).k6 o.a),aG (fun c3=>aG (fun c4=>(by simp_all [DB.k6,DB.entry,DB.aO])) fun c4=>(by simp_all [DB.k6,DB.entry,DB.aO])) fun c3=>(by simp_all [DB.k6,DB.entry,DB.aO]),fun _ WI hx=>af (fun c5=>allEq<| ⟨fun m1 i1 s1=>(m1=(26 - i1).toNat)∧(0≤i1∧i1≤26)∧(s1=m.wrs o.a 11 ((List.replicate 26 (0:Int)).take i1.toNat)),⟨_,rfl,(by omega),(by rfl)⟩,fun m1 _ i1 s1 ⟨hm,h1,h2⟩=>fun f6=>ar (fun c6=>aj (by omega) fun s7 m3 Ol f8=>allEq<| ⟨_,(by rw [aq (by omega)];omega),rfl,(by rw [aq (by omega)];omega),(by rw [yg (by omega),← h2];assumption)⟩) fun c6=>aj (by rw [h2,Mem.fz];exact NK) fun s9 E1 Oc f10 m3 Ol f11=>ao h rfl (ab (uO1 (by rw [DB.beside,if_neg ‹_›,if_pos ‹_›,if_pos (by rw [← hx];assumption)];(have h9:s1=m.wrs o.a 11 (List.replicate 26 0):=by rw [h2,List.take_of_length_le];show 26≤i1.toNat;omega);subst h9;subst_vars;rfl)) (ab (uO0 (by rw [DB.beside,if_neg ‹_›,if_pos ‹_›,if_pos (by rw [← hx];assumption)];(have h9:s1=m.wrs o.a 11 (List.replicate 26 0):=by rw [h2,List.take_of_length_le];show 26≤i1.toNat;omega);subst h9;subst_vars;rfl)) rfl)) rfl⟩) fun c5=>ao h rfl (ab (uO1 (by rw [DB.beside,if_neg ‹_›,if_pos ‹_›,if_neg (fun e=>Bool.noConfusion ((hx.trans e).symm.trans (by assumption:WI=false)))];subst_vars;exact Pd.bk _ _ NK)) (ab (uO0 (by rw [DB.beside,if_neg ‹_›,if_pos ‹_›,if_neg (fun e=>Bool.noConfusion ((hx.trans e).symm.trans (by assumption:WI=false)))];subst_vars;rfl)) rfl)) rfl⟩) fun c2=>allEq<| aG (fun c7=>aj ‹_› fun U6 E1 Oc f13 m1 N5 f14=>ao h rfl (ab (uO1 (by rw [DB.beside,if_neg ‹_›,if_neg ‹_›,if_pos ‹_›];subst_vars;rfl)) (ab (uO0 (by rw [DB.beside,if_neg ‹_›,if_neg ‹_›,if_pos ‹_›];subst_vars;rfl)) rfl)) rfl) fun c7=>allEq<| aG (fun c8=>aj ‹_› fun UA=>af (fun c9=>aj ‹_› fun VA E1 Oc f17 m1 N5 f18=>ao h rfl (ab (uO1 (by rw [DB.beside,if_neg ‹_›,if_neg ‹_›,if_neg ‹_›,if_pos ‹_›,if_pos ‹_›];subst_vars;rfl)) (ab (uO0 (by rw [DB.beside,if_neg ‹_›,if_neg ‹_›,if_neg ‹_›,if_pos ‹_›,if_pos ‹_›];subst_vars;rfl)) rfl)) rfl) fun c9=>ao h rfl (ab (uO1 (by rw [DB.beside,if_neg ‹_›,if_neg ‹_›,if_neg ‹_›,if_pos ‹_›,if_neg (by simp [*])];subst_vars;exact Pd.bk _ _ NK)) (ab (uO0 (by rw [DB.beside,if_neg ‹_›,if_neg ‹_›,if_neg ‹_›,if_pos ‹_›,if_neg (by simp [*])];subst_vars;rfl)) rfl)) rfl) fun c8=>ao h rfl (ab (uO1 (by rw [DB.beside,if_neg ‹_›,if_neg ‹_›,if_neg ‹_›,if_neg ‹_›];subst_vars;exact Pd.bk _ _ NK)) (ab (uO0 (by rw [DB.beside,if_neg ‹_›,if_neg ‹_›,if_neg ‹_›,if_neg ‹_›];subst_vars;rfl)) rfl)) rfl))
def gy:Ctr Un:=⟨[.one (.obj 0 0),.enc 5],[],[.ob 3 [(1,1,0)],.ob 2 []],[0,1],fun o r E rm m K=>E.n=m.S∧LOp.Ok o∧K ⟨(.tuple #[]),(some (.t [])),[.ob 3 (((E.on m).beside o).pd),.ob 2 (((E.on m).beside o).mem)],[],[]⟩⟩
def xu(o:LOp)(r:Nat→Nat)(E:Pd)(rm:Nat→Nat)(m:Mem)(Q:Ou Un→Prop):Prop:=
 Pd.Ok E→
 Mem.Wf m→
 ∀(gv:Nat),
 ∀a:Int,a=(i64.wrap o.a)→
 E.n=m.S∧
 ∀(NB:Nat),
 ∀PB:Bool,PB=((o.k:Int)==6)→
 split PB (
  (0≤o.c∧o.c<4294967296)∧
  ∀(m1:Mem),m1=(m.write false a (i64.wrap ((o.b:Int).tmod 1024)) o.c)→
  Mem.Wf m1→
  Q ⟨(.tuple #[]),(some (.t [])),[.ob 3 E,.ob 2 m1],[],[]⟩) (
  ∀TY:Bool,TY=((o.k:Int)==7)→
  split TY (
   ∃J:Bool→Prop,(
    split (((E.on m).aO a)==0) (
     split (((E.on m).entry a).typ==1) (
      J (((E.on m).entry a).state==1)) (
      J false)) (
     J false))∧∀(OW:Nat→Value)(U3:Bool),J U3→
   split U3 (
    ∀i:Int,i=0→
    ∃I:Nat→Int→Mem→Prop,(∃m1,I m1 i m)∧∀(m1:Nat)(QD:Nat→Value)(i1:Int)(s1:Mem),I m1 i1 s1→
    Mem.Wf s1→
    split (decide (i1<26)) (
     (0≤(0:Int)∧(0:Int)<4294967296)∧
     ∀(m3:Mem),m3=(s1.write true a (i64.wrap (11+i1)) 0)→
     Mem.Wf m3→
     ∀i2:Int,i2=(i64.wrap (i1+1))→
     ∃m2,m2<m1∧I m2 i2 m3) (
     E.n=s1.S∧
     ∀(E1:Pd),E1=((E.on s1).setState a 2).pd→
     Pd.Ok E1→
     ∀(m3:Mem),m3=((E.on s1).setState a 2).mem→
     Mem.Wf m3→
     Q ⟨(.tuple #[]),(some (.t [])),[.ob 3 E1,.ob 2 m3],[],[]⟩)) (
    Q ⟨(.tuple #[]),(some (.t [])),[.ob 3 E,.ob 2 m],[],[]⟩)) (
   ∀Yy:Bool,Yy=((o.k:Int)==8)→
   split Yy (
    E.n=m.S∧
    ∀(E1:Pd),E1=((E.on m).setState a 3).pd→
    Pd.Ok E1→
    ∀(m1:Mem),m1=((E.on m).setState a 3).mem→
    Mem.Wf m1→
    Q ⟨(.tuple #[]),(some (.t [])),[.ob 3 E1,.ob 2 m1],[],[]⟩) (
    ∀RW:Bool,RW=((o.k:Int)==9)→
    split RW (
     E.n=m.S∧
     ∀(NZ:Nat),
     ∃J:Bool→Prop,(
      split (((E.on m).aO a)==0) (
       split (((E.on m).aO (((E.on m).entry a).owner))==0) (
        split (((E.on m).entry a).typ !=0) (
         split (((E.on m).entry (((E.on m).entry a).owner)).state==3) (
          split (((E.on m).entry a).typ !=1) (
           J true) (
           J (((E.on m).entry a).refs==0))) (
          J false)) (
         J false)) (
        J false)) (
       J false))∧∀(QD:Nat→Value)(QQ:Bool),J QQ→
     split QQ (
      E.n=m.S∧
      ∀(E1:Pd),E1=((E.on m).fu a).pd→
      Pd.Ok E1→
      ∀(m1:Mem),m1=((E.on m).fu a).mem→
      Mem.Wf m1→
      Q ⟨(.tuple #[]),(some (.t [])),[.ob 3 E1,.ob 2 m1],[],[]⟩) (
      Q ⟨(.tuple #[]),(some (.t [])),[.ob 3 E,.ob 2 m],[],[]⟩)) (
     Q ⟨(.tuple #[]),(some (.t [])),[.ob 3 E,.ob 2 m],[],[]⟩))))
theorem xv:Vc2 Un prog (aR [(46,cG),(47,bY),(48,fC),(49,j8)]) [4,7,21,36,66,71] Tryz.f12 (.r' (.r' (.r' (.r' (.two (.r' (.two (.node [] none [] [(3,[0]),(7,[2]),(11,[2])] .leaf .leaf) (.r' (.two (.two (.node [] (some ⟨[(49,(.one .bool))],[],upN 38 12,[]⟩) [] [] .leaf .leaf) (.two (.two (.r' (.two (.node [] (some ⟨[(7,(.one (.int .i64)))],[],[7]++upN 50 13,[(1,(.ob 2))]⟩) [] [] .leaf .leaf) .leaf)) .leaf) .leaf)) (.r' (.r' (.r' (.two (.r' (.two (.node [] (some ⟨[(105,(.one .bool))],[],upN 80 26,[]⟩) [] [] .leaf .leaf) .leaf)) .leaf)))))))) .leaf))))) [] gy=(∀(o:LOp) r (E:Pd) rm (m:Mem),∀Q,(gy.body o r E rm m Q)→xu o r E rm m Q):=by kernel_rfl
theorem xt:LV Un prog 12 gy:=verify Tryz.func12 aa (tb:= [(46,cG),(47,bY),(48,fC),(49,j8)]) ⟨jn,fQ,um,Fu,trivial⟩ (by kernel_rfl) (xv.mpr fun o r E rm m Q h=>by
 obtain⟨NK,Oj,h⟩:=h
 exact fun f1 f2=>(by obtain⟨ho1,Rq,ho3,ho4⟩:=Oj;(have hwa:i64.wrap o.a=o.a:=aq (by omega));(have hwb:i64.wrap (Int.tmod o.b 1024)=o.b % 1024:=by rw [Int.tmod_eq_emod_of_nonneg Rq.1,aq (by omega)]);simp only [hwa,hwb];exact fun gv=>allEq<| aj ‹_› fun s3 NB=>allEq<| aG (fun c1=>aj ‹_› fun s4 m1 N5 f5=>ao h rfl (ab (uO3 (by rw [DB.beside,if_pos ‹_›];subst_vars;(rw [DB.ep (by simp only [Mem.bI,Mem.fz])];exact Pd.bk _ _ NK))) (ab (uO2 (by rw [DB.beside,if_pos ‹_›];subst_vars;rfl)) rfl)) rfl) fun c1=>allEq<| aG (fun c2=>⟨fun U3=>(U3=(E.on m).k6 o.a),aG (fun c3=>aG (fun c4=>(by simp_all [DB.k6,DB.entry,DB.aO])) fun c4=>(by simp_all [DB.k6,DB.entry,DB.aO])) fun c3=>(by simp_all [DB.k6,DB.entry,DB.aO]),fun _ U3 hx=>af (fun c5=>allEq<| ⟨fun m1 i1 s1=>(m1=(26 - i1).toNat)∧(0≤i1∧i1≤26)∧(s1=m.wrs o.a 11 ((List.replicate 26 (0:Int)).take i1.toNat)),⟨_,rfl,(by omega),(by rfl)⟩,fun m1 _ i1 s1 ⟨hm,h1,h2⟩=>fun f6=>ar (fun c6=>aj (by omega) fun s7 m3 Ol f8=>allEq<| ⟨_,(by rw [aq (by omega)];omega),rfl,(by rw [aq (by omega)];omega),(by rw [yg (by omega),← h2];assumption)⟩) fun c6=>aj (by rw [h2,Mem.fz];exact NK) fun s9 E1 Oc f10 m3 Ol f11=>ao h rfl (ab (uO3 (by rw [DB.beside,if_neg ‹_›,if_pos ‹_›,if_pos (by rw [← hx];assumption)];(have h9:s1=m.wrs o.a 11 (List.replicate 26 0):=by rw [h2,List.take_of_length_le];show 26≤i1.toNat;omega);subst h9;subst_vars;rfl)) (ab (uO2 (by rw [DB.beside,if_neg ‹_›,if_pos ‹_›,if_pos (by rw [← hx];assumption)];(have h9:s1=m.wrs o.a 11 (List.replicate 26 0):=by rw [h2,List.take_of_length_le];show 26≤i1.toNat;omega);subst h9;subst_vars;rfl)) rfl)) rfl⟩) fun c5=>ao h rfl (ab (uO3 (by rw [DB.beside,if_neg ‹_›,if_pos ‹_›,if_neg (fun e=>Bool.noConfusion ((hx.trans e).symm.trans (by assumption:U3=false)))];subst_vars;exact Pd.bk _ _ NK)) (ab (uO2 (by rw [DB.beside,if_neg ‹_›,if_pos ‹_›,if_neg (fun e=>Bool.noConfusion ((hx.trans e).symm.trans (by assumption:U3=false)))];subst_vars;rfl)) rfl)) rfl⟩) fun c2=>allEq<| aG (fun c7=>aj ‹_› fun U6 E1 Oc f13 m1 N5 f14=>ao h rfl (ab (uO3 (by rw [DB.beside,if_neg ‹_›,if_neg ‹_›,if_pos ‹_›];subst_vars;rfl)) (ab (uO2 (by rw [DB.beside,if_neg ‹_›,if_neg ‹_›,if_pos ‹_›];subst_vars;rfl)) rfl)) rfl) fun c7=>allEq<| aG (fun c8=>aj ‹_› fun UA NZ=>⟨fun QQ=>(QQ=(E.on m).lB o.a),aG (fun c9=>aG (fun To=>aB (fun RV=>aG (fun Vj=>aB (fun SP=>(by simp_all [DB.lB,DB.entry,DB.aO])) fun SP=>(by simp_all [DB.lB,DB.entry,DB.aO])) fun Vj=>(by simp_all [DB.lB,DB.entry,DB.aO])) fun RV=>(by simp_all [DB.lB,DB.entry,DB.aO])) fun To=>(by simp_all [DB.lB,DB.entry,DB.aO])) fun c9=>(by simp_all [DB.lB,DB.entry,DB.aO]),fun _ QQ hg=>af (fun Vi=>aj ‹_› fun VA E1 Oc f17 m1 N5 f18=>ao h rfl (ab (uO3 (by rw [DB.beside,if_neg ‹_›,if_neg ‹_›,if_neg ‹_›,if_pos ‹_›,if_pos (by rw [← hg];assumption)];subst_vars;rfl)) (ab (uO2 (by rw [DB.beside,if_neg ‹_›,if_neg ‹_›,if_neg ‹_›,if_pos ‹_›,if_pos (by rw [← hg];assumption)];subst_vars;rfl)) rfl)) rfl) fun Vi=>ao h rfl (ab (uO3 (by rw [DB.beside,if_neg ‹_›,if_neg ‹_›,if_neg ‹_›,if_pos ‹_›,if_neg (fun e=>Bool.noConfusion ((hg.trans e).symm.trans (by assumption:QQ=false)))];subst_vars;exact Pd.bk _ _ NK)) (ab (uO2 (by rw [DB.beside,if_neg ‹_›,if_neg ‹_›,if_neg ‹_›,if_pos ‹_›,if_neg (fun e=>Bool.noConfusion ((hg.trans e).symm.trans (by assumption:QQ=false)))];subst_vars;rfl)) rfl)) rfl⟩) fun c8=>ao h rfl (ab (uO3 (by rw [DB.beside,if_neg ‹_›,if_neg ‹_›,if_neg ‹_›,if_neg ‹_›];subst_vars;exact Pd.bk _ _ NK)) (ab (uO2 (by rw [DB.beside,if_neg ‹_›,if_neg ‹_›,if_neg ‹_›,if_neg ‹_›];subst_vars;rfl)) rfl)) rfl))
end
section
set_option maxRecDepth 100000
set_option maxHeartbeats 1000000
attribute [local irreducible] Vc2 VcD
def xj:Ctr Un:=⟨[.one (.int .i64),.one (.int .i64)],[],[],[],fun s i K=>split (okM s i) (∀(rN:Nat→Nat),K ⟨(.tuple #[(.pointer (some (Addr.mk (rN 0) 0 none))),(.int .i64 0)]),(some (.t [(some (.obj 0 0 0)),none])),[],[(.ob 0 rN (Mem.fresh s.toNat i.toNat))],[]⟩) (K ⟨(.tuple #[(.pointer none),(.int .i64 1)]),(some (.t [none,none])),[],[],[]⟩)⟩
theorem Ky:LV Un prog 27 xj:=by
 show ∀(s:Int)(i:Int),∀Q:Ou Un→Prop,(split (okM s i) (∀(rN:Nat→Nat),Q ⟨(.tuple #[(.pointer (some (Addr.mk (rN 0) 0 none))),(.int .i64 0)]),(some (.t [(some (.obj 0 0 0)),none])),[],[(.ob 0 rN (Mem.fresh s.toNat i.toNat))],[]⟩) (Q ⟨(.tuple #[(.pointer none),(.int .i64 1)]),(some (.t [none,none])),[],[],[]⟩))→∀(X:Nat→Nat→Prop)(w:World),Sat (U:=Un) [] X w→aC (U:=Un) [] fr0 []→Calls prog 27 #[(.int .i64 s),(.int .i64 i)] w (aM (U:=Un) [] [] X w Q)
 intro s i Q hQ X w hs hl
 cases hm:okM s i
 ·refine(JE hm).mono ?_
  rintro e w' ⟨rfl,rfl⟩
  exact aM.pu hs (Ch.refl _ _) (bq hQ hm) (KnO.tup _ (by simp))
 ·obtain⟨h1,h2⟩:=qE hm
  exact IF s i Q ⟨⟨h1,h2⟩,fun rN=>bL hQ hm rN⟩ X w hs hl
def pq:Ctr Un:=⟨[.one (.int .i64),.one (.int .i64)],[],[],[],fun s i K=>split (okM s i) (∀(rN:Nat→Nat),K ⟨(.tuple #[(.pointer (some (Addr.mk (rN 0) 0 none))),(.int .i64 0)]),(some (.t [(some (.obj 0 0 0)),none])),[],[(.ob 2 rN (Mem.fresh s.toNat i.toNat))],[]⟩) (K ⟨(.tuple #[(.pointer none),(.int .i64 1)]),(some (.t [none,none])),[],[],[]⟩)⟩
theorem Fz:LV Un prog 28 pq:=by
 show ∀(s:Int)(i:Int),∀Q:Ou Un→Prop,(split (okM s i) (∀(rN:Nat→Nat),Q ⟨(.tuple #[(.pointer (some (Addr.mk (rN 0) 0 none))),(.int .i64 0)]),(some (.t [(some (.obj 0 0 0)),none])),[],[(.ob 2 rN (Mem.fresh s.toNat i.toNat))],[]⟩) (Q ⟨(.tuple #[(.pointer none),(.int .i64 1)]),(some (.t [none,none])),[],[],[]⟩))→∀(X:Nat→Nat→Prop)(w:World),Sat (U:=Un) [] X w→aC (U:=Un) [] fr0 []→Calls prog 28 #[(.int .i64 s),(.int .i64 i)] w (aM (U:=Un) [] [] X w Q)
 intro s i Q hQ X w hs hl
 cases hm:okM s i
 ·refine(El hm).mono ?_
  rintro e w' ⟨rfl,rfl⟩
  exact aM.pu hs (Ch.refl _ _) (bq hQ hm) (KnO.tup _ (by simp))
 ·obtain⟨h1,h2⟩:=qE hm
  exact Ii s i Q ⟨⟨h1,h2⟩,fun rN=>bL hQ hm rN⟩ X w hs hl
def kT:Ctr Un:=⟨[.agg [.int .i64,.int .i64]],[],[],[],fun s i K=>split (okM s i) (∀(g:Nat)(rP:Nat→Nat)(rN:Nat→Nat)(rQ:Nat→Nat)(rM:Nat→Nat),K ⟨(.tuple #[(.pointer (some (Addr.mk g 0 none))),(.bool true),(.bool true)]),(some (.t [(some (.loc 0 0)),none,none])),[],[(.blk g [(.pointer (some (Addr.mk (rN 0) 0 none))),(.pointer (some (Addr.mk (rP 0) 0 none))),(.pointer (some (Addr.mk (rQ 0) 0 none)))] 37),(.ob 1 rP ((DB.new (Mem.fresh s.toNat i.toNat)).pd)),(.ob 0 rN ((Mem.fresh s.toNat i.toNat).cH s.toNat)),(.ob 3 rQ ((DB.new (Mem.fresh s.toNat i.toNat)).pd)),(.ob 2 rM ((Mem.fresh s.toNat i.toNat).cH s.toNat))],[(.c 0 0,.p (.obj 2 0 0)),(.c 0 1,.p (.obj 1 0 0)),(.c 0 2,.p (.obj 3 0 0)),(.l 3 1,.p (.obj 4 0 0)),(.l 1 1,.p (.obj 2 0 0))]⟩) (K ⟨(.tuple #[(.pointer none),(.bool true),(.bool false)]),(some (.t [none,none,none])),[],[],[]⟩)⟩
def xy(s:Int)(i:Int)(Q:Ou Un→Prop):Prop:=
 ∀(gv:Nat),
 split (okM s i) (
  ∀(rN:Nat→Nat),
  ∀(m:Mem),m=(Mem.fresh s.toNat i.toNat)→
  Mem.Wf m→
  split (okM s i) (
   ∀(SD:Nat→Nat),
   ∀(m1:Mem),m1=(Mem.fresh s.toNat i.toNat)→
   Mem.Wf m1→
   ∃J:Bool→Prop,(
    J (!(false==false)))∧∀(Oi:Nat→Value)(P8:Bool),J P8→
   split P8 (
    Q ⟨(.tuple #[(.pointer none),(.bool false),(.bool false)]),(some (.t [none,none,none])),[],[],[]⟩) (
    1≤m.S∧
    ∀(XL:Nat→Nat),
    ∀(m2:Mem),m2=(m.cH m.S)→
    Mem.Wf m2→
    ∀(E:Pd),E=(DB.new m).pd→
    Pd.Ok E→
    1≤m1.S∧
    ∀(XK:Nat→Nat),
    ∀(m3:Mem),m3=(m1.cH m1.S)→
    Mem.Wf m3→
    ∀(E1:Pd),E1=(DB.new m1).pd→
    Pd.Ok E1→
    (some (.pointer (some (Addr.mk (rN 0) 0 none))):Option Value)=some (.pointer (some (Addr.mk (rN 0) 0 none)))∧
    (some (.pointer (some (Addr.mk (XL 0) 0 none))):Option Value)=some (.pointer (some (Addr.mk (XL 0) 0 none)))∧
    (some (.pointer (some (Addr.mk (XK 0) 0 none))):Option Value)=some (.pointer (some (Addr.mk (XK 0) 0 none)))∧
    ∀(NZ:Nat),
    Q ⟨(.tuple #[(.pointer (some (Addr.mk NZ 0 none))),(.bool true),(.bool true)]),(some (.t [(some (.loc 0 0)),none,none])),[],[(.blk NZ [(.pointer (some (Addr.mk (rN 0) 0 none))),(.pointer (some (Addr.mk (XL 0) 0 none))),(.pointer (some (Addr.mk (XK 0) 0 none)))] 37),(.ob 1 XL E),(.ob 0 rN m2),(.ob 3 XK E1),(.ob 2 SD m3)],[(.c 0 0,.p (.obj 2 0 0)),(.c 0 1,.p (.obj 1 0 0)),(.c 0 2,.p (.obj 3 0 0)),(.l 3 1,.p (.obj 4 0 0)),(.l 1 1,.p (.obj 2 0 0))]⟩)) (
   ∃J:Bool→Prop,(
    J true)∧∀(Oi:Nat→Value)(P8:Bool),J P8→
   split P8 (
    Q ⟨(.tuple #[(.pointer none),(.bool false),(.bool false)]),(some (.t [none,none,none])),[],[],[]⟩) (
    Q ⟨(.tuple #[(.pointer none),(.bool true),(.bool false)]),(some (.t [none,none,none])),[],[],[]⟩))) (
  split (okM s i) (
   ∀(rN:Nat→Nat),
   ∀(m:Mem),m=(Mem.fresh s.toNat i.toNat)→
   Mem.Wf m→
   ∃J:Bool→Prop,(
    J true)∧∀(Oi:Nat→Value)(P8:Bool),J P8→
   split P8 (
    Q ⟨(.tuple #[(.pointer none),(.bool false),(.bool false)]),(some (.t [none,none,none])),[],[],[]⟩) (
    False)) (
   ∃J:Bool→Prop,(
    J (!(true==true)))∧∀(Oi:Nat→Value)(P8:Bool),J P8→
   split P8 (
    Q ⟨(.tuple #[(.pointer none),(.bool false),(.bool false)]),(some (.t [none,none,none])),[],[],[]⟩) (
    Q ⟨(.tuple #[(.pointer none),(.bool true),(.bool false)]),(some (.t [none,none,none])),[],[],[]⟩)))
theorem xz:Vc2 Un prog (aR [(27,xj),(28,pq),(29,tK),(30,tg)]) [] Tryz.f7 (.r' (.r' (.r' (.two (.two (.node [] (some ⟨[(35,(.one .bool))],[],upN 26 10,[]⟩) [] [] .leaf .leaf) .leaf) .leaf)))) [1000000,5,3,1,4,2] kT=(∀s i,∀Q,(kT.body s i Q)→xy s i Q):=by kernel_rfl
theorem xx:LV Un prog 7 kT:=verify Tryz.func7 aa (tb:= [(27,xj),(28,pq),(29,tK),(30,tg)]) ⟨Ky,Fz,IT,Ih,trivial⟩ (by kernel_rfl) (xz.mpr fun s i Q h gv=>af (fun c1 rN m Wz f1=>af (fun c2 SD m1 N5 f2=>cN (!(false==false)) ((by grind))<| cD (fun c3=>ao (bq h (by grind)) (congrArg (fun l=>Value.tuple (List.toArray l)) (ab rfl (ab (eQb ‹_›) (ab (eQb (by grind)) rfl)))) rfl rfl) fun c3=>aj (by subst_vars;have:=qE c1;show 1≤s.toNat;omega) fun s3 XL m2 Pc f4 E Xq f5=>aj (by subst_vars;have:=qE c1;show 1≤s.toNat;omega) fun s6 XK m3 Ol f7 E1 Oc f8=>aj (by rfl) fun s9=>aj (by rfl) fun Td=>aj (by rfl) fun Ov NZ=>ao ((bL h ‹_›) NZ XL rN XK SD) rfl rfl (ab (congrArg (fun l=>Res.blk (U:=Un) _ l _) rfl) (ab (rO1 (by subst_vars;rfl)) (ab (rO0 (by subst_vars;rfl)) (ab (rO3 (by subst_vars;rfl)) (ab (rO2 (by subst_vars;rfl)) rfl)))))) fun c2=>cN true ((by grind))<| aU<| ao (bq h ‹_›) (congrArg (fun l=>Value.tuple (List.toArray l)) (ab rfl (ab (eQb (by grind)) (ab (eQb (by grind)) rfl)))) rfl rfl) fun c1=>af (fun c4 rN m Wz f12=>cN true ((by grind))<| aU<| ao (bq h ‹_›) (congrArg (fun l=>Value.tuple (List.toArray l)) (ab rfl (ab (eQb (by grind)) (ab (eQb (by grind)) rfl)))) rfl rfl) fun c4=>cN (!(true==true)) ((by grind))<| cD (fun c5=>ao (bq h ‹_›) (congrArg (fun l=>Value.tuple (List.toArray l)) (ab rfl (ab (eQb ‹_›) (ab (eQb (by grind)) rfl)))) rfl rfl) fun c5=>ao (bq h ‹_›) (congrArg (fun l=>Value.tuple (List.toArray l)) (ab rfl (ab (eQb ‹_›) (ab (eQb (by grind)) rfl)))) rfl rfl)
def lY:Ctr Un:=⟨[.agg [.int .i64,.int .i64]],[],[],[],fun s i K=>split (okM s i) (∀(g:Nat)(r:Nat→Nat)(rQ:Nat→Nat)(rM:Nat→Nat)(s1:Sv),s1.D=(DB.new (Mem.fresh s.toNat i.toNat))→K ⟨(.tuple #[(.pointer (some (Addr.mk g 0 none))),(.bool true),(.bool true)]),(some (.t [(some (.loc 0 0)),none,none])),[],[(.blk g [(.pointer (some (Addr.mk (Sv.pM s1) 0 none))),(.pointer (some (Addr.mk (Sv.pD s1) 0 none))),(.pointer (some (Addr.mk (rQ 0) 0 none)))] 37),(.ob 9 r s1),(.ob 3 rQ ((DB.new (Mem.fresh s.toNat i.toNat)).pd)),(.ob 2 rM ((DB.new (Mem.fresh s.toNat i.toNat)).mem))],[(.c 0 2,.p (.obj 2 0 0)),(.l 2 1,.p (.obj 3 0 0))]⟩) (K ⟨(.tuple #[(.pointer none),(.bool true),(.bool false)]),(some (.t [none,none,none])),[],[],[]⟩)⟩
theorem AE:LV Un prog 7 lY:=by
 show ∀(s:Int)(i:Int),∀Q:Ou Un→Prop,(split (okM s i) (∀(g:Nat)(r:Nat→Nat)(rQ:Nat→Nat)(rM:Nat→Nat)(s1:Sv),s1.D=(DB.new (Mem.fresh s.toNat i.toNat))→Q ⟨(.tuple #[(.pointer (some (Addr.mk g 0 none))),(.bool true),(.bool true)]),(some (.t [(some (.loc 0 0)),none,none])),[],[(.blk g [(.pointer (some (Addr.mk (Sv.pM s1) 0 none))),(.pointer (some (Addr.mk (Sv.pD s1) 0 none))),(.pointer (some (Addr.mk (rQ 0) 0 none)))] 37),(.ob 9 r s1),(.ob 3 rQ ((DB.new (Mem.fresh s.toNat i.toNat)).pd)),(.ob 2 rM ((DB.new (Mem.fresh s.toNat i.toNat)).mem))],[(.c 0 2,.p (.obj 2 0 0)),(.l 2 1,.p (.obj 3 0 0))]⟩) (Q ⟨(.tuple #[(.pointer none),(.bool true),(.bool false)]),(some (.t [none,none,none])),[],[],[]⟩))→∀(X:Nat→Nat→Prop)(w:World),Sat (U:=Un) [] X w→aC (U:=Un) [] fr0 []→Calls prog 7 #[(.agg #[(.int .i64 s),(.int .i64 i)])] w (aM (U:=Un) [] [] X w Q)
 intro s i Q hQ X w hs hl
 refine(xx s i (fun o=>(okM s i=true∧∃(g:Nat)(rP rN rQ rM:Nat→Nat),o=⟨(.tuple #[(.pointer (some (Addr.mk g 0 none))),(.bool true),(.bool true)]),(some (.t [(some (.loc 0 0)),none,none])),[],[(.blk g [(.pointer (some (Addr.mk (rN 0) 0 none))),(.pointer (some (Addr.mk (rP 0) 0 none))),(.pointer (some (Addr.mk (rQ 0) 0 none)))] 37),(.ob 1 rP ((DB.new (Mem.fresh s.toNat i.toNat)).pd)),(.ob 0 rN ((Mem.fresh s.toNat i.toNat).cH s.toNat)),(.ob 3 rQ ((DB.new (Mem.fresh s.toNat i.toNat)).pd)),(.ob 2 rM ((Mem.fresh s.toNat i.toNat).cH s.toNat))],[(.c 0 0,.p (.obj 2 0 0)),(.c 0 1,.p (.obj 1 0 0)),(.c 0 2,.p (.obj 3 0 0)),(.l 3 1,.p (.obj 4 0 0)),(.l 1 1,.p (.obj 2 0 0))]⟩)∨(okM s i=false∧o=⟨(.tuple #[(.pointer none),(.bool true),(.bool false)]),(some (.t [none,none,none])),[],[],[]⟩)) (af (fun h g rP rN rQ rM=>.inl ⟨h,g,rP,rN,rQ,rM,rfl⟩) (fun h=>.inr ⟨h,rfl⟩)) X w hs hl).mono ?_
 rintro e w' ⟨out,rs',X',rfl,⟨hm,g,rP,rN,rQ,rM,rfl⟩ | ⟨hm,rfl⟩,Oo,hp⟩
 ·obtain rfl: []=rs':=Option.some.inj Oo
  have l1:rP 1=rN 0:=by
   obtain⟨t,r,s',h1,h2⟩:=hp.kc (.l 1 1) (.p (.obj 2 0 0)) (by simp) (by simp)
   have h1:some (Res.ob (U:=Un) 1 rP (DB.new (Mem.fresh s.toNat i.toNat)).pd)=some (.ob t r s'):=h1
   cases h1
   have h2:some (Value.pointer (some ⟨rN 0,0,none⟩))=some (.pointer (some ⟨rP 1,0,none⟩)):=h2
   simpa using h2.symm
  have hQ:=bL hQ hm g (fun _=>0) rQ rM ⟨DB.new (Mem.fresh s.toNat i.toNat),rP 0,rN 0⟩ rfl
  refine K9 hp l1 rfl rfl hQ ⟨_,rfl,fun j q hj=>?_⟩ (fun key k hk=>?_)
  ·match j,hj with
   | 0,hj=>simp only [nth,Option.some.injEq]at hj;subst hj;exact⟨_,rfl,rfl⟩
   | 1,hj | 2,hj=>simp [nth]at hj
   | j+3,hj=>simp [nth]at hj
  ·simp only [List.mem_cons,Prod.mk.injEq,List.not_mem_nil,or_false]at hk
   rcases hk with⟨rfl,rfl⟩ | ⟨rfl,rfl⟩
   ·exact⟨g,_,_,_,rfl,rfl,rfl⟩
   ·obtain⟨t,r,s',h1,h2⟩:=hp.kc (.l 3 1) (.p (.obj 4 0 0)) (by simp) (by simp)
    have h1:some (Res.ob (U:=Un) 3 rQ (DB.new (Mem.fresh s.toNat i.toNat)).pd)=some (.ob t r s'):=h1
    cases h1
    have h2:some (Value.pointer (some ⟨rM 0,0,none⟩))=some (.pointer (some ⟨rQ 1,0,none⟩)):=h2
    exact⟨_,_,_,rfl,h2⟩
 ·exact⟨_,_,_,rfl,bq hQ hm,Oo,hp⟩
end
section
set_option maxRecDepth 100000
set_option maxHeartbeats 1000000
attribute [local irreducible] Vc2 VcD
def ju:Ctr Un:=⟨[.one (.obj 0 0)],[],[.ob 0 []],[],fun rm m K=>∀(rN:Nat→Nat),K ⟨(.pointer (some (Addr.mk (rN 0) 0 none))),(some (.p (.obj 1 0 0))),[],[(.ob 0 rN m)],[]⟩⟩
theorem tI:LV Un prog 51 ju:=by
 show ∀(rm:Nat→Nat)(m:Mem),∀Q:Ou Un→Prop,(∀(rN:Nat→Nat),Q ⟨(.pointer (some (Addr.mk (rN 0) 0 none))),(some (.p (.obj 1 0 0))),[],[(.ob 0 rN m)],[]⟩)→∀(X:Nat→Nat→Prop)(w:World),Sat (U:=Un) [(.ob 0 rm m)] X w→aC (U:=Un) [(.ob 0 rm m)] fr0 []→Calls prog 51 #[(.pointer (some (Addr.mk (rm 0) 0 none)))] w (aM (U:=Un) [(.ob 0 rm m)] [] X w Q)
 intro rm m Q hQ X w hs hl
 obtain⟨L,hg,hM,hX⟩:=lv hs
 rw [hg]
 refine(Bt hM).mono ?_
 rintro e w' ⟨u,rfl,L',rfl,hM',hz,q⟩
 exact aM.rZ (Z:=L'.X) hs q (show RS (U:=Un) L'.X w' (.ob 0 (fun _=>L'.g) m)from(⟨L',rfl,fun _=>Iff.rfl,hM'⟩:bJ 0 (fun _=>L'.g) m L'.X w')) hz (hQ (fun _=>L'.g)) rfl (fun _ _ h=>by cases h)
def jx:Ctr Un:=⟨[.one (.obj 0 0),.one (.sl 1)],[(2,1)],[.ob 0 [],.lst 1 false 29,.ob 1 []],[],fun rm m A c l r E K=>l=(E.on m).words.map U32.mk∧E.n=m.S∧∀(rN:Nat→Nat),K ⟨(.tuple #[(.pointer (some (Addr.mk (rN 0) 0 none))),(.int .i64 0)]),(some (.t [(some (.obj 3 0 0)),none])),[],[(.ob 1 rN E)],[(.l 3 1,.p (.obj 0 0 0))]⟩⟩
theorem tL:LV Un prog 50 jx:=by
 show ∀(rm:Nat→Nat)(m:Mem)(A:Option Addr)(c:Nat)(l:List U32)(r:Nat→Nat)(E:Pd),∀Q:Ou Un→Prop,(l=(E.on m).words.map U32.mk∧E.n=m.S∧∀(rN:Nat→Nat),Q ⟨(.tuple #[(.pointer (some (Addr.mk (rN 0) 0 none))),(.int .i64 0)]),(some (.t [(some (.obj 3 0 0)),none])),[],[(.ob 1 rN E)],[(.l 3 1,.p (.obj 0 0 0))]⟩)→∀(X:Nat→Nat→Prop)(w:World),Sat (U:=Un) [(.ob 0 rm m),(.lst 1 false 29 A c l),(.ob 1 r E)] X w→aC (U:=Un) [(.ob 0 rm m),(.lst 1 false 29 A c l),(.ob 1 r E)] fr0 []→Calls prog 50 #[(.pointer (some (Addr.mk (rm 0) 0 none))),(.slice A l.length c)] w (aM (U:=Un) [(.ob 0 rm m),(.lst 1 false 29 A c l),(.ob 1 r E)] [] X w Q)
 intro rm m A c l r E Q hQ X w hs hl
 obtain⟨hl0,hn,hQ⟩:=hQ
 obtain⟨L,hg,hX,hM⟩:=(hs.res 0 _ rfl:bJ 0 rm m (X 0) w)
 have hr:Rd w (X 1) A l.length c l:=hs.res 1 _ rfl
 have hE:E.Ok:=H4 (t:=1) (r:=r) (s:=E) (hs.res 2 _ rfl)
 have hj:∀p,p<(E.on m).S→p<E.n:=fun p hp=>by rw [hn];exact hp
 have hD:(E.on m).Ok:=⟨fun p hp=>⟨(hE.ent p (hj p hp)).1,by have h8:=(hE.ent p (hj p hp)).2;rw [hn]at h8;exact h8⟩,hE.aF⟩
 have hw:fi l:=by rw [hl0];exact DB.DY hD
 rw [hg]
 refine(MN hM hr hw).mono ?_
 rintro e w' ⟨u,rfl,p,rfl,OZ,hbad,q⟩
 have hlw:=DB.Bu hD
 rw [← hl0]at hlw
 obtain⟨he,hb,VJ⟩:=hlw
 obtain⟨g,a,rfl,hDB,Wp,ha1⟩:=OZ he
 have W4:PdP w' g a L.g E:=PdP.congr hDB.pd hn hb.symm (fun p hp=>(VJ p hp).symm)
 have he:DB.ay m l=0:=he
 rw [he]
 exact aM.rZ (Z:=fun k=>k=g∨k=a) hs q (show RS (U:=Un) (fun k=>k=g∨k=a) w' (.ob 1 (fun i=>if i=0 then g else L.g) E)from(⟨a,fun k=>Iff.rfl,W4⟩:bJ 1 (fun i=>if i=0 then g else L.g) E (fun k=>k=g∨k=a) w')) (fun k hk=>by rcases hk with rfl | rfl;exact Wp;exact ha1) (hQ (fun i=>if i=0 then g else L.g)) (KnO.pair rfl) (r9 ⟨_,_,_,rfl,show some (Value.pointer (some ⟨rm 0,0,none⟩))=some (.pointer (some ⟨L.g,0,none⟩))by rw [hg]⟩)
def lV:Ctr Un:=⟨[.one (.obj 0 0),.enc 5],[],[.ob 1 [(1,1,0)],.ob 0 []],[],fun o r E rm m K=>E.n=m.S∧o.k=10∧∀(rN:Nat→Nat)(rM:Nat→Nat),K ⟨(.pointer (some (Addr.mk (rN 0) 0 none))),(some (.p (.obj 2 0 0))),[],[(.ob 1 rN E),(.ob 0 rM m)],[(.l 2 1,.p (.obj 3 0 0))]⟩⟩
def Au(o:LOp)(r:Nat→Nat)(E:Pd)(rm:Nat→Nat)(m:Mem)(Q:Ou Un→Prop):Prop:=
 Pd.Ok E→
 Mem.Wf m→
 ∀(gv:Nat),
 ∀x9:Bool,x9=((o.k:Int)==10)→
 split x9 (
  E.n=m.S∧
  ∀(rN:Nat→Nat)(rM:Nat→Nat),
  ∀(E1:Pd),E1=E→
  Pd.Ok E1→
  ∀(m1:Mem),m1=m→
  Mem.Wf m1→
  Q ⟨(.pointer (some (Addr.mk (rN 0) 0 none))),(some (.p (.obj 2 0 0))),[],[(.ob 1 rN E1),(.ob 0 rM m1)],[(.l 2 1,.p (.obj 3 0 0))]⟩) (
  ∀P7:Bool,P7=((o.k:Int)==11)→
  split P7 (
   ∀(rN:Nat→Nat),
   ∀(m1:Mem),m1=m→
   Mem.Wf m1→
   E.n=m.S∧
   ∀(A:Option Addr)(c:Nat),
   ∀(l:List U32),l=(E.on m).words.map U32.mk→
   l=(E.on m1).words.map U32.mk∧
   E.n=m1.S∧
   ∀(SD:Nat→Nat),
   ∀(E1:Pd),E1=E→
   Pd.Ok E1→
   ∃J:Bool→Prop,(
    J true)∧∀(Oi:Nat→Value)(QO:Bool),J QO→
   split QO (
    Q ⟨(.pointer (some (Addr.mk (SD 0) 0 none))),none,[],[(.ob 0 rN m1),(.lst 1 true 29 A c l)],[]⟩) (
    Q ⟨(.pointer (some (Addr.mk (r 0) 0 none))),(some (.p (.obj 0 0 0))),[],[],[]⟩)) (
   Q ⟨(.pointer (some (Addr.mk (r 0) 0 none))),(some (.p (.obj 0 0 0))),[],[],[]⟩))
theorem Av:Vc2 Un prog (aR [(17,jz),(14,br),(51,ju),(52,jw),(50,jx)]) [9,13] Tryz.f13 (.r' (.two (.r' (.two (.r' (.r' (.r' (.two (.r' (.two (.node [] (some ⟨[(29,(.one .bool))],[],upN 24 6,[]⟩) [] [] .leaf .leaf) .leaf)) .leaf)))) .leaf)) .leaf)) [1000000,3,4] lV=(∀(o:LOp) r (E:Pd) rm (m:Mem),∀Q,(lV.body o r E rm m Q)→Au o r E rm m Q):=by kernel_rfl
theorem At:LV Un prog 13 lV:=verify Tryz.func13 aa (tb:= [(17,jz),(14,br),(51,ju),(52,jw),(50,jx)]) ⟨tO,dq,tI,oC,tL,trivial⟩ (by kernel_rfl) (Av.mpr fun o r E rm m Q h=>by
 obtain⟨NK,Oj,h⟩:=h
 exact fun f1 f2 gv=>allEq<| aG (fun c1=>aj ‹_› fun s3 rN rM E1 Oc f4 m1 N5 f5=>ao (h rN rM) rfl rfl (ab (rO1 (by grind)) (ab (rO0 (by grind)) rfl))) fun c1=>(by exfalso;exact c1 Oj))
def lU:Ctr Un:=⟨[.one (.obj 0 0),.enc 5],[],[.ob 1 [(1,1,0)],.ob 0 []],[],fun o r E rm m K=>E.n=m.S∧o.k=11∧∀(rN:Nat→Nat)(rM:Nat→Nat),K ⟨(.pointer (some (Addr.mk (rN 0) 0 none))),(some (.p (.obj 2 0 0))),[],[(.ob 1 rN E),(.ob 0 rM m)],[(.l 2 1,.p (.obj 3 0 0))]⟩⟩
def Aq(o:LOp)(r:Nat→Nat)(E:Pd)(rm:Nat→Nat)(m:Mem)(Q:Ou Un→Prop):Prop:=
 Pd.Ok E→
 Mem.Wf m→
 ∀(gv:Nat),
 ∀x9:Bool,x9=((o.k:Int)==10)→
 split x9 (
  E.n=m.S∧
  ∀(rN:Nat→Nat)(rM:Nat→Nat),
  ∀(E1:Pd),E1=E→
  Pd.Ok E1→
  ∀(m1:Mem),m1=m→
  Mem.Wf m1→
  False) (
  ∀P7:Bool,P7=((o.k:Int)==11)→
  split P7 (
   ∀(rN:Nat→Nat),
   ∀(m1:Mem),m1=m→
   Mem.Wf m1→
   E.n=m.S∧
   ∀(A:Option Addr)(c:Nat),
   ∀(l:List U32),l=(E.on m).words.map U32.mk→
   l=(E.on m1).words.map U32.mk∧
   E.n=m1.S∧
   ∀(SD:Nat→Nat),
   ∀(E1:Pd),E1=E→
   Pd.Ok E1→
   ∃J:Bool→Prop,(
    J true)∧∀(Oi:Nat→Value)(QO:Bool),J QO→
   split QO (
    Q ⟨(.pointer (some (Addr.mk (SD 0) 0 none))),(some (.p (.obj 2 0 0))),[],[(.ob 1 SD E1),(.ob 0 rN m1)],[(.l 2 1,.p (.obj 3 0 0))]⟩) (
    Q ⟨(.pointer (some (Addr.mk (r 0) 0 none))),(some (.p (.obj 0 0 0))),[],[],[]⟩)) (
   Q ⟨(.pointer (some (Addr.mk (r 0) 0 none))),(some (.p (.obj 0 0 0))),[],[],[]⟩))
theorem Ar:Vc2 Un prog (aR [(17,jz),(14,br),(51,ju),(52,jw),(50,jx)]) [9,13] Tryz.f13 (.r' (.two (.r' (.two (.r' (.r' (.r' (.two (.r' (.two (.node [] (some ⟨[(29,(.one .bool))],[],upN 24 6,[]⟩) [] [] .leaf .leaf) .leaf)) .leaf)))) .leaf)) .leaf)) [1000000,5,3] lU=(∀(o:LOp) r (E:Pd) rm (m:Mem),∀Q,(lU.body o r E rm m Q)→Aq o r E rm m Q):=by kernel_rfl
theorem Ap:LV Un prog 13 lU:=verify Tryz.func13 aa (tb:= [(17,jz),(14,br),(51,ju),(52,jw),(50,jx)]) ⟨tO,dq,tI,oC,tL,trivial⟩ (by kernel_rfl) (Ar.mpr fun o r E rm m Q h=>by
 obtain⟨NK,Oj,h⟩:=h
 exact fun f1 f2 gv=>allEq<| aG (fun c1=>(by exfalso;omega)) fun c1=>allEq<| aG (fun c2 rN m1 N5 f3=>aj (by subst_vars;assumption) fun s4 A c l Rl=>aj (by subst_vars;rfl) fun s5=>aj (by subst_vars;assumption) fun s6 SD E1 Oc f7=>cN true ((by grind))<| aU<| ao (h SD rN) rfl rfl (ab (rO1 (by subst_vars;rfl)) (ab (rO0 (by subst_vars;rfl)) rfl))) fun c2=>(by exfalso;exact c2 Oj))
def lT:Ctr Un:=⟨[.one (.obj 0 0),.enc 5],[],[.ob 1 [(1,1,0)],.ob 0 []],[],fun o r E rm m K=>E.n=m.S∧(¬o.k=10∧¬o.k=11)∧K ⟨(.pointer (some (Addr.mk (r 0) 0 none))),(some (.p (.obj 0 0 0))),[],[],[]⟩⟩
def Am(o:LOp)(r:Nat→Nat)(E:Pd)(rm:Nat→Nat)(m:Mem)(Q:Ou Un→Prop):Prop:=
 Pd.Ok E→
 Mem.Wf m→
 ∀(gv:Nat),
 ∀x9:Bool,x9=((o.k:Int)==10)→
 split x9 (
  E.n=m.S∧
  ∀(rN:Nat→Nat)(rM:Nat→Nat),
  ∀(E1:Pd),E1=E→
  Pd.Ok E1→
  ∀(m1:Mem),m1=m→
  Mem.Wf m1→
  Q ⟨(.pointer (some (Addr.mk (rN 0) 0 none))),none,[],[],[]⟩) (
  ∀P7:Bool,P7=((o.k:Int)==11)→
  split P7 (
   ∀(rN:Nat→Nat),
   ∀(m1:Mem),m1=m→
   Mem.Wf m1→
   E.n=m.S∧
   ∀(A:Option Addr)(c:Nat),
   ∀(l:List U32),l=(E.on m).words.map U32.mk→
   l=(E.on m1).words.map U32.mk∧
   E.n=m1.S∧
   ∀(SD:Nat→Nat),
   ∀(E1:Pd),E1=E→
   Pd.Ok E1→
   ∃J:Bool→Prop,(
    J true)∧∀(Oi:Nat→Value)(QO:Bool),J QO→
   split QO (
    Q ⟨(.pointer (some (Addr.mk (SD 0) 0 none))),none,[],[],[]⟩) (
    Q ⟨(.pointer (some (Addr.mk (r 0) 0 none))),(some (.p (.obj 0 0 0))),[],[],[]⟩)) (
   Q ⟨(.pointer (some (Addr.mk (r 0) 0 none))),(some (.p (.obj 0 0 0))),[],[],[]⟩))
theorem Ao:Vc2 Un prog (aR [(17,jz),(14,br),(51,ju),(52,jw),(50,jx)]) [9,13] Tryz.f13 (.r' (.two (.r' (.two (.r' (.r' (.r' (.two (.r' (.two (.node [] (some ⟨[(29,(.one .bool))],[],upN 24 6,[]⟩) [] [] .leaf .leaf) .leaf)) .leaf)))) .leaf)) .leaf)) [] lT=(∀(o:LOp) r (E:Pd) rm (m:Mem),∀Q,(lT.body o r E rm m Q)→Am o r E rm m Q):=by kernel_rfl
theorem Al:LV Un prog 13 lT:=verify Tryz.func13 aa (tb:= [(17,jz),(14,br),(51,ju),(52,jw),(50,jx)]) ⟨tO,dq,tI,oC,tL,trivial⟩ (by kernel_rfl) (Ao.mpr fun o r E rm m Q h=>by
 obtain⟨NK,Oj,h⟩:=h
 exact fun f1 f2 gv=>allEq<| aG (fun c1=>(by exfalso;exact Oj.1 c1)) fun c1=>allEq<| aG (fun c2=>(by exfalso;exact Oj.2 c2)) fun c2=>h)
def nq:Ctr Un:=⟨[.one (.any)],[(0,9)],[.ob 9 []],[],fun pv r s K=>Value.pointer (some (Addr.mk (Sv.pD s) 0 none))=pv∧K ⟨(.pointer (some (Addr.mk (Sv.pM s) 0 none))),none,[],[],[]⟩⟩
theorem CL:LV Un prog 14 nq:=by
 show ∀(pv:Value)(r:Nat→Nat)(s:Sv),∀Q:Ou Un→Prop,(Value.pointer (some (Addr.mk (Sv.pD s) 0 none))=pv∧Q ⟨(.pointer (some (Addr.mk (Sv.pM s) 0 none))),none,[],[],[]⟩)→∀(X:Nat→Nat→Prop)(w:World),Sat (U:=Un) [(.ob 9 r s)] X w→aC (U:=Un) [(.ob 9 r s)] fr0 []→Calls prog 14 #[pv] w (aM (U:=Un) [(.ob 9 r s)] [] X w Q)
 intro pv r s Q hQ X w hs hl
 obtain⟨Sj,hQ⟩:=hQ
 subst Sj
 refine svP (rest:= []) (k1:=some (.p (.obj 1 0 0))) rfl hs (fun r1 rm X1 O2 Qi e=>?_) hQ trivial
 rw [e.1,e.2];exact dq r1 s.D.pd rm s.D.mem (fun o=>o=_) rfl X1 w O2 Qi
def tG:Ctr Un:=⟨[.one (.any),.agg [.bool,.int .i64],.one (.int .i64)],[(0,9)],[.ob 9 []],[],fun pv fa fb off r s K=>Value.pointer (some (Addr.mk (Sv.pM s) 0 none))=pv∧K ⟨(.int .u32 (s.D.mem.bD fa fb off)),none,[],[],[]⟩⟩
theorem ID:LV Un prog 33 tG:=by
 show ∀(pv:Value)(fa:Bool)(fb:Int)(off:Int)(r:Nat→Nat)(s:Sv),∀Q:Ou Un→Prop,(Value.pointer (some (Addr.mk (Sv.pM s) 0 none))=pv∧Q ⟨(.int .u32 (s.D.mem.bD fa fb off)),none,[],[],[]⟩)→∀(X:Nat→Nat→Prop)(w:World),Sat (U:=Un) [(.ob 9 r s)] X w→aC (U:=Un) [(.ob 9 r s)] fr0 []→Calls prog 33 #[pv,(.agg #[(.bool fa),(.int .i64 fb)]),(.int .i64 off)] w (aM (U:=Un) [(.ob 9 r s)] [] X w Q)
 intro pv fa fb off r s Q hQ X w hs hl
 obtain⟨Sj,hQ⟩:=hQ
 subst Sj
 refine svM (k1:=none) rfl hs (fun rm X1 O2 e1=>?_) hQ trivial
 rw [e1];exact DS fa fb off rm s.D.mem (fun o=>o=_) rfl X1 w O2 (fun _ _ h=>by cases h)
def np:Ctr Un:=⟨[.one (.any)],[(0,9)],[.ob 9 []],[],fun pv r s K=>Value.pointer (some (Addr.mk (Sv.pM s) 0 none))=pv∧K ⟨(.int .i64 (s.D.mem.S:Int)),none,[],[],[]⟩⟩
theorem CH:LV Un prog 54 np:=by
 show ∀(pv:Value)(r:Nat→Nat)(s:Sv),∀Q:Ou Un→Prop,(Value.pointer (some (Addr.mk (Sv.pM s) 0 none))=pv∧Q ⟨(.int .i64 (s.D.mem.S:Int)),none,[],[],[]⟩)→∀(X:Nat→Nat→Prop)(w:World),Sat (U:=Un) [(.ob 9 r s)] X w→aC (U:=Un) [(.ob 9 r s)] fr0 []→Calls prog 54 #[pv] w (aM (U:=Un) [(.ob 9 r s)] [] X w Q)
 intro pv r s Q hQ X w hs hl
 obtain⟨Sj,hQ⟩:=hQ
 subst Sj
 refine svM (k1:=none) rfl hs (fun rm X1 O2 e1=>?_) hQ trivial
 rw [e1];exact FP rm s.D.mem (fun o=>o=_) rfl X1 w O2 (fun _ _ h=>by cases h)
def kP:Ctr Un:=⟨[.one (.any)],[(0,9)],[.ob 9 []],[],fun pv r s K=>Value.pointer (some (Addr.mk (Sv.pM s) 0 none))=pv∧K ⟨(.int .i64 (s.D.mem.I:Int)),none,[],[],[]⟩⟩
theorem xl:LV Un prog 55 kP:=by
 show ∀(pv:Value)(r:Nat→Nat)(s:Sv),∀Q:Ou Un→Prop,(Value.pointer (some (Addr.mk (Sv.pM s) 0 none))=pv∧Q ⟨(.int .i64 (s.D.mem.I:Int)),none,[],[],[]⟩)→∀(X:Nat→Nat→Prop)(w:World),Sat (U:=Un) [(.ob 9 r s)] X w→aC (U:=Un) [(.ob 9 r s)] fr0 []→Calls prog 55 #[pv] w (aM (U:=Un) [(.ob 9 r s)] [] X w Q)
 intro pv r s Q hQ X w hs hl
 obtain⟨Sj,hQ⟩:=hQ
 subst Sj
 refine svM (k1:=none) rfl hs (fun rm X1 O2 e1=>?_) hQ trivial
 rw [e1];exact qg rm s.D.mem (fun o=>o=_) rfl X1 w O2 (fun _ _ h=>by cases h)
def px:Ctr Un:=⟨[.one (.any)],[(0,9)],[.ob 9 []],[],fun pv r s K=>Value.pointer (some (Addr.mk (Sv.pD s) 0 none))=pv∧∀(A:Option Addr)(c:Nat),K ⟨(.slice A ((s.D.words.map U32.mk).length) c),(some (.p (.sl 1 0))),[],[(.lst 1 true 29 A c (s.D.words.map U32.mk))],[]⟩⟩
theorem F9:LV Un prog 52 px:=by
 show ∀(pv:Value)(r:Nat→Nat)(s:Sv),∀Q:Ou Un→Prop,(Value.pointer (some (Addr.mk (Sv.pD s) 0 none))=pv∧∀(A:Option Addr)(c:Nat),Q ⟨(.slice A ((s.D.words.map U32.mk).length) c),(some (.p (.sl 1 0))),[],[(.lst 1 true 29 A c (s.D.words.map U32.mk))],[]⟩)→∀(X:Nat→Nat→Prop)(w:World),Sat (U:=Un) [(.ob 9 r s)] X w→aC (U:=Un) [(.ob 9 r s)] fr0 []→Calls prog 52 #[pv] w (aM (U:=Un) [(.ob 9 r s)] [] X w Q)
 intro pv r s Q hQ X w hs hl
 obtain⟨Sj,hQ⟩:=hQ
 subst Sj
 refine svL (t:=1) (T:=29) (l:=(s.D.words.map U32.mk)) hs (fun r1 rm X1 O2 Qi e=>?_) hQ
 rw [e.1];exact oC r1 s.D.pd rm s.D.mem (fun o=>∃A c,o=_) ⟨rfl,fun A c=>⟨A,c,rfl⟩⟩ X1 w O2 Qi
def kQ:Ctr Un:=⟨[.one (.any),.enc 5],[(0,9),(1,5)],[.ob 9 [],.ob 5 []],[0],fun pv o r s rk kk K=>Value.pointer (some (Addr.mk (Sv.pD s) 0 none))=pv∧LOp.Ok o∧K ⟨(.int .i64 (s.D.cO o)),none,[.ob 9 ({s with D:=DB.call kk s.D o})],[],[]⟩⟩
theorem xr:LV Un prog 9 kQ:=by
 show ∀(pv:Value)(o:LOp)(r:Nat→Nat)(s:Sv)(rk:Nat→Nat)(kk:List Int),∀Q:Ou Un→Prop,(Value.pointer (some (Addr.mk (Sv.pD s) 0 none))=pv∧LOp.Ok o∧Q ⟨(.int .i64 (s.D.cO o)),none,[.ob 9 ({s with D:=DB.call kk s.D o})],[],[]⟩)→∀(X:Nat→Nat→Prop)(w:World),Sat (U:=Un) [(.ob 9 r s),(.ob 5 rk kk)] X w→aC (U:=Un) [(.ob 9 r s),(.ob 5 rk kk)] fr0 []→Calls prog 9 #[pv,(.agg #[(.int .i64 o.k),(.int .u32 o.a),(.int .u32 o.b),(.int .u32 o.c),(.int .u32 o.d)])] w (aM (U:=Un) [(.ob 9 r s),(.ob 5 rk kk)] [0] X w Q)
 intro pv o r s rk kk Q hQ X w hs hl
 obtain⟨Sj,ho,hQ⟩:=hQ
 subst Sj
 refine svD (rest:= [.ob 5 rk kk]) (k1:=none) rfl (DB.call kk s.D o) [0,1] [.ob 1 (DB.call kk s.D o).pd,.ob 0 (DB.call kk s.D o).mem] (by simp) hs rfl (fun _ _=>rfl) (fun r1 rm X1 O2 Qi e=>?_) hQ trivial
 rw [e.1];exact Aw o r1 s.D.pd rm s.D.mem rk kk (fun o=>o=_) ⟨rfl,ho,rfl⟩ X1 w O2 Qi
def kS:Ctr Un:=⟨[.one (.any),.enc 5],[(0,9)],[.ob 9 []],[0],fun pv o r s K=>Value.pointer (some (Addr.mk (Sv.pD s) 0 none))=pv∧LOp.Ok o∧K ⟨(.tuple #[]),(some (.t [])),[.ob 9 ({s with D:=s.D.beside o})],[],[]⟩⟩
theorem xw:LV Un prog 11 kS:=by
 show ∀(pv:Value)(o:LOp)(r:Nat→Nat)(s:Sv),∀Q:Ou Un→Prop,(Value.pointer (some (Addr.mk (Sv.pD s) 0 none))=pv∧LOp.Ok o∧Q ⟨(.tuple #[]),(some (.t [])),[.ob 9 ({s with D:=s.D.beside o})],[],[]⟩)→∀(X:Nat→Nat→Prop)(w:World),Sat (U:=Un) [(.ob 9 r s)] X w→aC (U:=Un) [(.ob 9 r s)] fr0 []→Calls prog 11 #[pv,(.agg #[(.int .i64 o.k),(.int .u32 o.a),(.int .u32 o.b),(.int .u32 o.c),(.int .u32 o.d)])] w (aM (U:=Un) [(.ob 9 r s)] [0] X w Q)
 intro pv o r s Q hQ X w hs hl
 obtain⟨Sj,ho,hQ⟩:=hQ
 subst Sj
 refine svD (rest:= []) (k1:=some (.t [])) rfl (s.D.beside o) [0,1] [.ob 1 (s.D.beside o).pd,.ob 0 (s.D.beside o).mem] (by simp) hs rfl (fun _ _=>rfl) (fun r1 rm X1 O2 Qi e=>?_) hQ (KnO.tup _ (by simp))
 rw [e.1];exact Az o r1 s.D.pd rm s.D.mem (fun o=>o=_) ⟨rfl,ho,rfl⟩ X1 w O2 Qi
def lS:Ctr Un:=⟨[.one (.any),.enc 5],[(0,9)],[.ob 9 []],[0],fun pv o r s K=>Value.pointer (some (Addr.mk (Sv.pD s) 0 none))=pv∧∀(s1:Sv),s1.D=s.D→K ⟨(.pointer (some (Addr.mk (Sv.pD s1) 0 none))),none,[.ob 9 s1],[],[]⟩⟩
theorem Ak:LV Un prog 13 lS:=by
 show ∀(pv:Value)(o:LOp)(r:Nat→Nat)(s:Sv),∀Q:Ou Un→Prop,(Value.pointer (some (Addr.mk (Sv.pD s) 0 none))=pv∧∀(s1:Sv),s1.D=s.D→Q ⟨(.pointer (some (Addr.mk (Sv.pD s1) 0 none))),none,[.ob 9 s1],[],[]⟩)→∀(X:Nat→Nat→Prop)(w:World),Sat (U:=Un) [(.ob 9 r s)] X w→aC (U:=Un) [(.ob 9 r s)] fr0 []→Calls prog 13 #[pv,(.agg #[(.int .i64 o.k),(.int .u32 o.a),(.int .u32 o.b),(.int .u32 o.c),(.int .u32 o.d)])] w (aM (U:=Un) [(.ob 9 r s)] [0] X w Q)
 intro pv o r s Q hQ X w hs hl
 obtain⟨Sj,hQ⟩:=hQ
 subst Sj
 by_cases h10:o.k=10
 ·obtain⟨r1,rm,X1,O2,Qi,e,_,_⟩:=mi hs
  rw [e.1]
  have hk:=h10
  refine(At o r1 s.D.pd rm s.D.mem (fun out=>∃(rN rM:Nat→Nat),out=⟨(.pointer (some (Addr.mk (rN 0) 0 none))),(some (.p (.obj 2 0 0))),[],[(.ob 1 rN s.D.pd),(.ob 0 rM s.D.mem)],[(.l 2 1,.p (.obj 3 0 0))]⟩) ⟨rfl,hk,fun rN rM=>⟨rN,rM,rfl⟩⟩ X1 w O2 Qi).mono ?_
  rintro e w' ⟨out,rs',X',he,⟨rN,rM,rfl⟩,Oo,hp⟩
  obtain rfl:svO r1 rm s.D.pd s.D.mem []=rs':=Option.some.inj Oo
  have Vd:rN 1=rM 0:=by
   obtain⟨t,r,s',h1,h2⟩:=hp.kc (.l 2 1) (.p (.obj 3 0 0)) (by simp) (by simp)
   have h1:some (Res.ob (U:=Un) 1 rN s.D.pd)=some (.ob t r s'):=h1
   cases h1
   have h2:some (Value.pointer (some ⟨rM 0,0,none⟩))=some (.pointer (some ⟨rN 1,0,none⟩)):=h2
   simpa using h2.symm
  exact svN (k1:=some (.p (.obj 2 0 0))) rfl hs rfl hp Vd he (hQ ⟨s.D,rN 0,rM 0⟩ rfl) trivial
 by_cases h11:o.k=11
 ·obtain⟨r1,rm,X1,O2,Qi,e,_,_⟩:=mi hs
  rw [e.1]
  have hk:=h11
  refine(Ap o r1 s.D.pd rm s.D.mem (fun out=>∃(rN rM:Nat→Nat),out=⟨(.pointer (some (Addr.mk (rN 0) 0 none))),(some (.p (.obj 2 0 0))),[],[(.ob 1 rN s.D.pd),(.ob 0 rM s.D.mem)],[(.l 2 1,.p (.obj 3 0 0))]⟩) ⟨rfl,hk,fun rN rM=>⟨rN,rM,rfl⟩⟩ X1 w O2 Qi).mono ?_
  rintro e w' ⟨out,rs',X',he,⟨rN,rM,rfl⟩,Oo,hp⟩
  obtain rfl:svO r1 rm s.D.pd s.D.mem []=rs':=Option.some.inj Oo
  have Vd:rN 1=rM 0:=by
   obtain⟨t,r,s',h1,h2⟩:=hp.kc (.l 2 1) (.p (.obj 3 0 0)) (by simp) (by simp)
   have h1:some (Res.ob (U:=Un) 1 rN s.D.pd)=some (.ob t r s'):=h1
   cases h1
   have h2:some (Value.pointer (some ⟨rM 0,0,none⟩))=some (.pointer (some ⟨rN 1,0,none⟩)):=h2
   simpa using h2.symm
  exact svN (k1:=some (.p (.obj 2 0 0))) rfl hs rfl hp Vd he (hQ ⟨s.D,rN 0,rM 0⟩ rfl) trivial
 refine svD (rest:= []) (k1:=some (.p (.obj 0 0 0))) rfl s.D [] [] (by simp) hs rfl (fun _ _=>rfl) (fun r1 rm X1 O2 Qi e=>?_) (hQ s rfl) trivial
 rw [e.1];exact Al o r1 s.D.pd rm s.D.mem (fun o=>o=_) ⟨rfl,⟨h10,h11⟩,rfl⟩ X1 w O2 Qi
end
end Go.Proofs.YtinhphjfnedhgaaGreatDoor
namespace Go.Proofs.YtinhphjfnedhgaaGreatDoor
open Go.Proofs.Tryz (prog)
open Go Go.RowKit V
open Go.IntKind (i64 u32 u64)
section
namespace Mem
theorem Js {m m':Mem} {s:Bool} {p:Int}(hh:m'.has s p=m.has s p)(h:m.has s p=true→m'.pg s p.toNat=m.pg s p.toNat)(o:Int):m'.bD s p o=m.bD s p o:=by
 unfold bD
 rw [hh]
 cases hs:m.has s p
 ·rfl
 ·rw [h hs]
theorem rL {m:Mem} {p o v x:Int}(hp:m.has true p=true)(ho:dC o=true):(m.write true p o v).bD true p x=if x=o then v else m.bD true p x:=by
 have hh:(m.write true p o v).has true p=true:=by rw [DB.dP];exact hp
 have hw:m.write true p o v=(m.put true p.toNat o.toNat v).tick 1:=by
  unfold write
  exact if_pos (show(m.has true p && dC o)=true by rw [hp,ho];rfl)
 unfold bD
 rw [hh,hp]
 simp only [Bool.true_and]
 by_cases hx:dC x=true
 ·have h1:=fX hx
  have h2:=fX ho
  rw [if_pos hx,if_pos hx,hw]
  show(if true=true∧p.toNat=p.toNat then(if x.toNat=o.toNat then v else m.pg true p.toNat x.toNat)else _)=_
  rw [if_pos ⟨rfl,rfl⟩]
  by_cases e:x=o
  ·subst e
   rw [if_pos rfl,if_pos rfl]
  ·rw [if_neg (by omega),if_neg e]
 ·rw [if_neg hx,if_neg hx,if_neg (by rintro rfl;exact hx ho)]
theorem wB(p:Int)(b:Bool)(q:Int):∀(l:List Int)(m:Mem)(o:Int),(m.wrs p o l).has b q=m.has b q
 | [],_,_=>rfl
 | x::l,m,o=>by rw [wrs,wB p b q l,DB.dP]
theorem yo {p:Int}:∀(l:List Int)(m:Mem)(o:Int),m.has true p=true→0≤o→o+l.length≤1024→∀x,(m.wrs p o l).bD true p x=if o≤x∧x<o+l.length then l.getD (x - o).toNat 0 else m.bD true p x
 | [],m,o,_,_,_,x=>by
  rw [if_neg (by simp only [List.length_nil];omega)];rfl
 | y::l,m,o,hp,h0,hl,x=>by
  simp only [List.length_cons]at hl ⊢
  rw [wrs,yo l (m.write true p o y) (o+1) (by rw [DB.dP];exact hp) (by omega) (by omega),rL hp (by simp [dC];omega)]
  by_cases e:x=o
  ·subst e
   rw [if_neg (by omega),if_pos rfl,if_pos (by omega),show(x - x).toNat=0 by omega];rfl
  ·by_cases h1:o+1≤x∧x<o+1+l.length
   ·rw [if_pos h1,if_pos (by omega),show(x - o).toNat=(x - (o+1)).toNat+1 by omega];rfl
   ·rw [if_neg h1,if_neg e,if_neg (by omega)]
theorem yS {m:Mem} {p:Int} {l:List Int}(hp:m.has true p=true)(hl:l.length=26):(m.wrs p 11 l).dgW p=l.map U32.mk:=by
 apply List.ext_getElem?
 intro i
 by_cases hi:i<26
 ·rw [wG hi,yo l m 11 hp (by omega) (by omega),if_pos (by omega),List.getElem?_map,show(11+(i:Int) - 11).toNat=i by omega,List.getD_eq_getElem?_getD,List.getElem?_eq_getElem (by omega)];rfl
 ·rw [List.getElem?_eq_none (by rw [dZ];omega),List.getElem?_eq_none (by rw [List.length_map];omega)]
theorem qK {p x:Int}(h:p≠x):∀(l:List Int)(m:Mem)(o:Int),(m.wrs p o l).dgW x=m.dgW x
 | [],_,_=>rfl
 | y::l,m,o=>by rw [wrs,qK h l,gb h]
theorem JP {m:Mem} {p o v x:Int}:(m.write false p o v).dgW x=m.dgW x:=
 wF (bI ..) fun _=>nQ (by rintro⟨h,_⟩;cases h)
theorem JO {kk:List Int} {m:Mem} {p x k a:Int} {l:List U32}(h:p≠x):(m.msd kk p k a l).dgW x=m.dgW x:=by
 unfold msd
 split
 ·exact qK h _ _ _
 ·rfl
theorem Hw {m:Mem} {p x:Int}(h:p≠x):(m.zero true p).dgW x=m.dgW x:=by
 refine wF (sD ..) fun hs=>?_
 unfold zero
 split
 ·rename_i hp
  have h1:=bh hs
  have h2:=bh hp
  funext o
  show(if true=true∧x.toNat=p.toNat then _ else _)=_
  rw [if_neg (by omega)]
 ·rfl
theorem G6 {kk:List Int} {m:Mem} {p k a:Int} {l:List U32}(hw:m.Wf)(hp:m.has true p=true)(h:Dg.ay (m.dgW p)=0)(ha:0≤a∧a<4294967296)(hk:k=1∨k=2∨k=3∨k=4)(hl:fi l):Dg.ay ((m.msd kk p k a l).dgW p)=0∧(m.msd kk p k a l).dgW p=((Dg.load (m.dgW p)).add kk (opW k a l)).save.map U32.mk:=by
 have F:=Dg.lI (K:=kk) (l:=opW k a l) (Dg.fe (iM hw p) h) (rT ha hk hl)
 have e:(m.msd kk p k a l).dgW p=((Dg.load (m.dgW p)).add kk (opW k a l)).save.map U32.mk:=by
  unfold msd
  rw [if_pos h,yS hp (Dg.ek F.1)]
 exact⟨by rw [e];exact(Dg.uT F).1,e⟩
end Mem
theorem n5 {α:Type} {l:List α} {i:Nat} {d:α}(h:i<l.length):l.getD i d∈l:=by
 rw [List.getD_eq_getElem?_getD,List.getElem?_eq_getElem h]
 exact List.getElem_mem ..
namespace DB
def Inv(d:DB):Prop:=∀x,d.aW x=0→Dg.ay (d.mem.dgW x)=0
theorem fp {d:DB} {x:Int}:d.aW x=0↔d.has x=true∧(d.at_ x).typ=1∧(d.at_ x).state=1:=by
 constructor
 ·intro h;exact kH (by omega)
 ·rintro⟨h1,h2,h3⟩
  unfold aW
  simp [h1,h2,h3]
theorem Inv.mono {d d':DB}(h:d.Inv)(hb:∀x,d'.aW x=0→(d.aW x=0∧d'.mem.dgW x=d.mem.dgW x)∨Dg.ay (d'.mem.dgW x)=0):d'.Inv:=fun x hx=>by
 rcases hb x hx with⟨h1,h2⟩ | h1
 ·rw [h2];exact h x h1
 ·exact h1
theorem Jz(m:Mem):(DB.new m).Inv:=fun x hx=>by
 have:=(fp.1 hx).2.1
 cases this
theorem Jc {d:DB} {p t s q:Int}(ht:t≠1)(hq:0≤q)(hs:d.has s=true)(h:((d.take p t s).at_ q).typ=1):(d.take p t s).has q=d.has q∧(d.at_ q).typ=1∧((d.take p t s).at_ q).state=(d.at_ q).state:=by
 unfold take at h ⊢
 split
 ·rename_i he
  rw [if_pos he]at h
  have hp:d.has p=true:=by
   cases hp:d.has p
   ·unfold cZ at he;simp [hp]at he
   ·rfl
  have h1:=bh hp
  have h2:=bh hs
  unfold eG more at h ⊢
  rw [dR h2.1 hq,dR h1.1 h2.1,dR h1.1 hq]at h
  rw [dR h2.1 hq,dR h1.1 h2.1,dR h1.1 hq]
  by_cases e1:q=s
  ·subst e1
   rw [if_pos rfl]at h ⊢
   by_cases e2:q=p
   ·rw [if_pos e2]at h;exact absurd h ht
   ·rw [if_neg e2]at h ⊢;exact⟨rfl,h,rfl⟩
  ·rw [if_neg e1]at h ⊢
   by_cases e2:q=p
   ·rw [if_pos e2]at h;exact absurd h ht
   ·rw [if_neg e2]at h ⊢;exact⟨rfl,h,rfl⟩
 ·rename_i he
  rw [if_neg he]at h
  exact⟨rfl,h,rfl⟩
theorem v5 {d:DB} {p t s q:Int}(ht:t≠1)(hs:d.has s=true)(h:(d.take p t s).aW q=0):d.aW q=0:=by
 obtain⟨h1,h2,h3⟩:=fp.1 h
 obtain⟨a,b,c⟩:=Jc ht (bh h1).1 hs h2
 exact fp.2 ⟨a▸h1,b,c▸h3⟩
theorem BM {d:DB} {m:Mem}(hm:m.S=d.mem.S)(x:Int):(d.bf m).aW x=d.aW x:=by
 unfold aW has
 rw [show(d.bf m).S=d.S from hm];rfl
theorem LS(d:DB)(s i q:Int):∃m,d.add s i q=d.bf m∧m.S=d.mem.S:=by
 unfold add
 split
 ·exact⟨_,rfl,Mem.bI ..⟩
 ·exact⟨d.mem,rfl,rfl⟩
theorem Lm(d:DB)(s va:Int)(M:Mp):∃m,d.put s va M=d.bf m∧m.S=d.mem.S:=by
 unfold put
 split
 ·exact⟨_,rfl,Mem.bI ..⟩
 ·exact⟨d.mem,rfl,rfl⟩
theorem gX {d:DB} {f:Mem→Mem}(h:(f d.mem).S=d.mem.S)(x:Int):(d.cp f).aW x=d.aW x:=BM h x
theorem LU(d:DB)(s i q x:Int):(d.add s i q).aW x=d.aW x:=by
 obtain⟨m,h1,h2⟩:=LS d s i q
 rw [h1];exact BM h2 x
theorem GR(d:DB)(s va:Int)(M:Mp)(x:Int):(d.put s va M).aW x=d.aW x:=by
 obtain⟨m,h1,h2⟩:=Lm d s va M
 rw [h1];exact BM h2 x
theorem qT:fi []:=fun x hx=>by cases hx
theorem qZ {m:Mem} {s:Bool} {p o v:Int}(h:m.Wf)(hv:0≤v∧v<4294967296):(m.write s p o v).Wf:=by
 unfold Mem.write
 split
 ·refine⟨fun s' i o'=>?_,h.2⟩
  show 0≤(if s'=s∧i=p.toNat then(if o'=o.toNat then v else m.pg s p.toNat o')else m.pg s' i o')∧(if s'=s∧i=p.toNat then(if o'=o.toNat then v else m.pg s p.toNat o')else m.pg s' i o')<4294967296
  split
  ·split
   ·exact hv
   ·exact h.1 _ _ _
  ·exact h.1 _ _ _
 ·exact h
theorem I8 {m:Mem} {s s':Bool} {p p':Int}(h:m.Wf):(m.copy s p s' p').Wf:=by
 unfold Mem.copy
 split
 ·refine⟨fun b i o'=>?_,h.2⟩
  show 0≤(if b=s∧i=p.toNat then m.pg s' p'.toNat o' else m.pg b i o')∧(if b=s∧i=p.toNat then m.pg s' p'.toNat o' else m.pg b i o')<4294967296
  split<;>exact h.1 _ _ _
 ·exact h
theorem Gs {d:DB} {s va:Int} {M:Mp}(h:d.mem.Wf):(d.put s va M).mem.Wf:=by
 unfold put
 split
 ·exact qZ h (wj _)
 ·exact h
theorem K4 {d:DB} {s i q:Int}(h:d.mem.Wf):(d.add s i q).mem.Wf:=by
 unfold add
 split
 ·exact qZ h (mW _)
 ·exact h
structure Kept(d D:DB)(s:Int):Prop where
 wf:D.mem.Wf
 bd:∀x,D.aW x=0→d.aW x=0∧D.mem.dgW x=d.mem.dgW x
theorem Kept.inv {kk:List Int} {d D:DB} {s k a:Int} {l:List U32}(h:Kept d D s)(hI:d.Inv)(ha:0≤a∧a<4294967296)(hk:k=1∨k=2∨k=3∨k=4)(hl:fi l):(D.cp (fun m=>m.msd kk s k a l)).Inv:=by
 intro x hx
 rw [gX (f:=fun m=>Mem.msd kk m s k a l) (Mem.iD ..) x]at hx
 obtain⟨h1,h2⟩:=h.bd x hx
 show Dg.ay ((D.mem.msd kk s k a l).dgW x)=0
 by_cases e:s=x
 ·subst e
  exact(Mem.G6 h.wf (fp.1 hx).1 (by rw [h2];exact hI s h1) ha hk hl).1
 ·rw [Mem.JO e,h2];exact hI x h1
theorem yH {d:DB} {s p b:Int}(hw:d.mem.Wf)(hb:0≤b∧b<4294967296)(h1:¬d.aW s≠0)(h2:¬d.bo p≠0)(h3:¬d.bz p≠0):Kept d ((d.take p 2 s).cp (·.write true p 0 b)) s:=by
 have b1:=kH h1
 have f1:=iG (iq h2) h3
 refine⟨qZ (by rw [cQ];exact hw) hb,fun x hx=>?_⟩
 rw [gX (f:=fun m=>m.write true p 0 b) (Mem.bI ..)]at hx
 have hx:=v5 (by omega) b1.1 hx
 have b2:=fp.1 hx
 refine⟨hx,?_⟩
 show((d.take p 2 s).mem.write true p 0 b).dgW x=_
 rw [Mem.gb (by rintro rfl;omega),cQ]
theorem Bx {d:DB} {s p i:Int}(hw:d.mem.Wf)(h1:¬d.aW s≠0)(h2:¬d.bo p≠0)(h3:¬d.bz p≠0):Kept d ((d.take p 4 s).add s i p) s:=by
 have b1:=kH h1
 have f1:=iG (iq h2) h3
 refine⟨K4 (by rw [cQ];exact hw),fun x hx=>?_⟩
 rw [LU]at hx
 have hx:=v5 (by omega) b1.1 hx
 have b2:=fp.1 hx
 refine⟨hx,?_⟩
 rw [DE,cQ]
 rw [nC (bh b2.1).1 b1.1 (by rintro rfl;omega)];omega
theorem EA {d:DB} {s p w n:Int}(hw:d.mem.Wf)(h1:¬d.aW s≠0)(h2:¬d.bo p≠0)(h3:¬d.bz p≠0):Kept d (d.cX s p w n) s:=by
 have b1:=kH h1
 have f1:=iG (iq h2) h3
 refine⟨Gs (I8 (by rw [cQ];exact hw)),fun x hx=>?_⟩
 rw [cX,GR,gX (f:=fun m=>m.copy true p false n) (Mem.ph ..)]at hx
 have hx:=v5 (by omega) b1.1 hx
 have b2:=fp.1 hx
 have e:x≠p:=by rintro rfl;omega
 refine⟨hx,?_⟩
 rw [cX,qL]
 ·show((d.take p 5 s).mem.copy true p false n).dgW x=_
  rw [Mem.yU e.symm,cQ]
 ·show((d.take p 5 s).at_ x).typ≠4
  rw [nC (bh b2.1).1 b1.1 e];omega
theorem By {d:DB} {s va:Int} {M:Mp}(hw:d.mem.Wf):Kept d (d.put s va M) s:=by
 refine⟨Gs hw,fun x hx=>?_⟩
 rw [GR]at hx
 have b2:=fp.1 hx
 exact⟨hx,by rw [qL];omega⟩
theorem D8 {d:DB} {s f:Int}(hI:d.Inv):(d.bt s f).Inv:=by
 unfold bt
 split
 ·rename_i he
  unfold cU at he
  have h1:¬d.bo s≠0:=by grind
  have h2:¬d.bo f≠0:=by grind
  have h3:¬s=f:=by grind
  have h4:¬d.bz s≠0:=by grind
  have h5:¬d.bz f≠0:=by grind
  have h6:¬d.aF≥64:=by grind
  have hs:=iq h1
  have hf:=iq h2
  have r1:=bh hs
  have r2:=bh hf
  have ht:d.aT s f=0:=by rw [jH h1 h2 h3 h4 h5,if_neg h6]
  intro x hx
  rw [gX (f:=fun m=>m.wrs s 11 Dg.new.save) (Mem.fz ..)]at hx
  unfold aS at hx ⊢
  rw [if_pos ht]at hx ⊢
  obtain⟨x1,x2,x3⟩:=fp.1 hx
  show Dg.ay (((((d.mem.write true s 0 f).write true s 1 d.aF).write true s 2 0).wrs s 11 Dg.new.save).dgW x)=0
  by_cases e:x=s
  ·subst e
   rw [Mem.yS (by rw [DB.dP,DB.dP,DB.dP];exact hs) (Dg.ek Dg.kA)]
   exact(Dg.uT Dg.G4).1
  ·have x1:d.has x=true:=by
    have:(((d.mem.write true s 0 f).write true s 1 d.aF).write true s 2 0).has true x=true:=x1
    rw [DB.dP,DB.dP,DB.dP]at this;exact this
   have x0:=bh x1
   have ea:(d.bM s f).at_ x=((d.set s ⟨1,s,1,1,false⟩).set f ⟨3,s,0,0,false⟩).at_ x:=rfl
   rw [ea,dR r2.1 x0.1,dR r1.1 x0.1,if_neg e]at x2 x3
   by_cases ef:x=f
   ·rw [if_pos ef]at x2;cases x2
   ·rw [if_neg ef]at x2 x3
    rw [Mem.qK (Ne.symm e),Mem.gb (Ne.symm e),Mem.gb (Ne.symm e),Mem.gb (Ne.symm e)]
    exact hI x (fp.2 ⟨x1,x2,x3⟩)
 ·exact hI
theorem HE {kk:List Int} {d:DB} {o:LOp}(ho:o.Ok)(hI:d.Inv)(hw:d.mem.Wf):(d.call kk o).Inv:=by
 obtain⟨ha,hb,hc,hd⟩:=ho
 unfold call
 split
 ·exact D8 hI
 split
 ·unfold bg
  split
  ·rename_i he
   unfold bS at he
   exact(yH hw hc (by grind) (by grind) (by grind)).inv hI hc (by omega) qT
  ·exact hI
 split
 ·unfold bP
  split
  ·rename_i he
   unfold eB at he
   exact(Bx hw (by grind) (by grind) (by grind)).inv hI hc (by omega) qT
  ·exact hI
 split
 ·unfold cB
  split
  ·rename_i he
   unfold fw at he
   have K:Kept d (d.cX o.a o.b o.c o.d) o.a:=EA hw (by grind) (by grind) (by grind)
   have e:(d.cX o.a o.b o.c o.d).cp (fun m=>m.msd kk o.a 3 o.c (m.words true o.b.toNat))=(d.cX o.a o.b o.c o.d).cp (fun m=>m.msd kk o.a 3 o.c ((d.cX o.a o.b o.c o.d).mem.words true o.b.toNat)):=by
    unfold cp;rfl
   rw [e]
   exact K.inv hI hc (by omega) (Mem.qW K.wf true o.b.toNat)
  ·exact hI
 ·unfold bV
  split
  ·exact(By hw).inv hI hb (by omega) qT
  ·exact hI
theorem pB {d:DB} {p s q:Int}(hs:s≠1)(h:(d.setState p s).aW q=0):d.aW q=0:=by
 obtain⟨h1,h2,h3⟩:=fp.1 h
 unfold setState at h1 h2 h3
 split at h1
 ·rename_i he
  have hp:d.has p=true:=by
   cases hp:d.has p
   ·unfold bN at he;simp [hp]at he
   ·rfl
  have q0:=bh h1
  rw [if_pos he,dR (bh hp).1 q0.1]at h2 h3
  by_cases e:q=p
  ·rw [if_pos e]at h3;exact absurd h3 hs
  ·rw [if_neg e]at h2 h3;exact fp.2 ⟨h1,h2,h3⟩
 ·rename_i he
  rw [if_neg he]at h2 h3
  exact fp.2 ⟨h1,h2,h3⟩
theorem nI(d:DB)(p s:Int):(d.setState p s).mem=d.mem:=by unfold setState;split<;>rfl
theorem tS {d:DB} {p:Int}(hp:d.k6 p=true):¬(d.setState p 2).aW p=0:=by
 intro h
 unfold k6 at hp
 simp only [Bool.and_eq_true,beq_iff_eq]at hp
 obtain⟨h1,h2,h3⟩:=fp.1 h
 unfold setState at h3
 rw [if_pos (by unfold bN;simp [hp.1,hp.2.1,hp.2.2]),dR (bh hp.1).1 (bh hp.1).1,if_pos rfl]at h3
 cases h3
theorem Ho {d:DB} {p:Int}(hI:d.Inv):(d.fu p).Inv:=by
 unfold fu
 split
 ·rename_i he
  have hp:d.has p=true:=by
   cases hp:d.has p
   ·unfold dy at he;simp [hp]at he
   ·rfl
  have p0:=bh hp
  intro x hx
  unfold fK at hx ⊢
  rw [gX (f:=fun m=>m.zero true p) (Mem.sD ..)]at hx
  obtain⟨h1,h2,h3⟩:=fp.1 hx
  have hx1:d.has x=true:=by revert h1;split<;>exact id
  have x0:=bh hx1
  have key:x≠p∧(d.at_ x).typ=1∧(d.at_ x).state=1:=by
   split at h2
   ·rename_i hc
    rw [if_pos hc]at h3
    simp only [Bool.and_eq_true,fg,fF]at hc
    have o0:=bh hc.2.1.1
    unfold more at h2 h3
    rw [dR o0.1 x0.1]at h2 h3
    by_cases e:x=(d.at_ p).owner
    ·rw [if_pos e]at h2 h3
     have h2:((d.set p .free).at_ (d.at_ p).owner).typ=1:=h2
     have h3:((d.set p .free).at_ (d.at_ p).owner).state=1:=h3
     rw [dR p0.1 o0.1]at h2 h3
     rw [← e]at h2 h3
     by_cases e2:x=p
     ·rw [if_pos e2]at h2;cases h2
     ·rw [if_neg e2]at h2 h3;exact⟨e2,h2,h3⟩
    ·rw [if_neg e,dR p0.1 x0.1]at h2 h3
     by_cases e2:x=p
     ·rw [if_pos e2]at h2;cases h2
     ·rw [if_neg e2]at h2 h3;exact⟨e2,h2,h3⟩
   ·rename_i hc
    rw [if_neg hc]at h3
    rw [dR p0.1 x0.1]at h2 h3
    by_cases e2:x=p
    ·rw [if_pos e2]at h2;cases h2
    ·rw [if_neg e2]at h2 h3;exact⟨e2,h2,h3⟩
  have hm:∀c:Bool,(cp (if c then(d.set p .free).more (d.at_ p).owner (-1)else d.set p .free) (·.zero true p)).mem=d.mem.zero true p:=by intro c;cases c<;>rfl
  rw [hm,Mem.Hw (Ne.symm key.1)]
  exact hI x (fp.2 ⟨hx1,key.2.1,key.2.2⟩)
 ·exact hI
theorem BL {d:DB} {o:LOp}(hI:d.Inv):(d.beside o).Inv:=by
 unfold beside
 split
 ·intro x hx
  rw [gX (f:=fun m=>m.write false o.a (o.b % 1024) o.c) (Mem.bI ..)]at hx
  show Dg.ay ((d.mem.write false o.a (o.b % 1024) o.c).dgW x)=0
  rw [Mem.JP];exact hI x hx
 split
 ·split
  ·rename_i hb
   intro x hx
   have XR:=pB (by omega) hx
   rw [gX (f:=fun m=>m.wrs o.a 11 (List.replicate 26 0)) (Mem.fz ..)]at XR
   by_cases e:x=o.a
   ·refine absurd (e▸hx) (tS ?_)
    unfold k6 at hb ⊢
    have:(d.cp fun m=>m.wrs o.a 11 (List.replicate 26 0)).has o.a=d.has o.a:=Mem.wB o.a true o.a (List.replicate 26 0) d.mem 11
    rw [this];exact hb
   ·rw [nI]
    show Dg.ay ((d.mem.wrs o.a 11 (List.replicate 26 0)).dgW x)=0
    rw [Mem.qK (Ne.symm e)];exact hI x XR
  ·exact hI
 split
 ·intro x hx
  rw [nI]
  exact hI x (pB (by omega) hx)
 split
 ·split
  ·exact Ho hI
  ·exact hI
 ·exact hI
theorem pdS(d:DB):d.pd.n=d.mem.S:=rfl
set_option maxRecDepth 100000
def hd0:DB:=(DB.new (Mem.fresh 3 1)).pd.on ((Mem.fresh 3 1).cH 3)
def hd1:DB:=hd0.bt 0 1
theorem Ly:hd0.cU 0 3=1:=by decide
theorem Nn:hd0.cU 0 1=0:=by decide
theorem MI:hd1.bS 0 2=0:=by decide
theorem MH(kk:List Int):DB.bg kk hd1 0 2 7=(hd1.take 2 2 0).cp (fun m=>(m.write true 2 0 7).msd kk 0 1 7 []):=by
 unfold bg;rw [if_pos MI]
theorem MG(kk:List Int):(DB.bg kk hd1 0 2 7).bS 1 2=3:=by
 have h:(DB.bg kk hd1 0 2 7).aW 1=3:=by
  rw [MH,gX (f:=fun m=>(m.write true 2 0 7).msd kk 0 1 7 []) (by rw [Mem.iD,Mem.bI])]
  decide
 unfold bS
 rw [if_pos (by rw [h];decide),h]
theorem BJ {kk:List Int} {d:DB} {s p b:Int}(h:d.bS s p≠0):DB.bg kk d s p b=d:=if_neg h
theorem Nl(kk:List Int):DB.bg kk (DB.bg kk hd1 0 2 7) 1 2 7=DB.bg kk hd1 0 2 7:=BJ (by rw [MG];decide)
theorem MF {d:DB} {kk:List Int}(h2:d.mem.has true 2=true):(d.cp (fun m=>(m.write true 2 0 7).msd kk 0 1 7 [])).mem.bD true 2 0=7:=by
 have hp:∀(l:List Int)(m:Mem)(o:Int),(m.wrs 0 o l).pg true 2=m.pg true 2:=by
  intro l
  induction l with
  | nil=>intro m o;rfl
  | cons x l ih=>intro m o;rw [Mem.wrs,ih,Mem.nQ (by decide)]
 show((d.mem.write true 2 0 7).msd kk 0 1 7 []).bD true 2 0=7
 have e:((d.mem.write true 2 0 7).msd kk 0 1 7 []).bD true 2 0=(d.mem.write true 2 0 7).bD true 2 0:=by
  unfold Mem.msd
  split
  ·exact Mem.Js (Mem.wB ..) (fun _=>hp _ _ _) 0
  ·rfl
 rw [e,Mem.rL h2 (by decide),if_pos rfl]
theorem Nm(kk:List Int):(DB.bg kk hd1 0 2 7).mem.bD true 2 0=7:=by
 rw [MH]
 exact MF (by rw [cQ];decide)
end DB
end
end Go.Proofs.YtinhphjfnedhgaaGreatDoor
namespace Go.Proofs.YtinhphjfnedhgaaGreatDoor
open Go.Proofs.Tryz (prog)
open Go Go.RowKit V
open Go.IntKind (i64 u32 u64)
section
set_option maxRecDepth 100000
set_option maxHeartbeats 1000000
attribute [local irreducible] Vc2 VcD
def gx:Ctr Un:=⟨[.one (.ptr 0)],[(1,9)],[.blk [.any,.any,.obj 2 0] 37,.ob 9 [],.ob 3 [(1,3,0)],.ob 2 []],[],fun g vM vD r s r2 F rm2 m2 K=>Value.pointer (some (Addr.mk (Sv.pM s) 0 none))=vM∧Value.pointer (some (Addr.mk (Sv.pD s) 0 none))=vD∧s.D=F.on m2∧F.n=m2.S∧K ⟨(.bool true),none,[],[],[]⟩⟩
def xp(g:Nat)(vM:Value)(vD:Value)(r:Nat→Nat)(s:Sv)(r2:Nat→Nat)(F:Pd)(rm2:Nat→Nat)(m2:Mem)(Q:Ou Un→Prop):Prop:=
 Sv.Ok s→
 Pd.Ok F→
 Mem.Wf m2→
 Value.pointer (some (Addr.mk (Sv.pD s) 0 none))=vD∧
 ∀(A:Option Addr)(c:Nat),
 ∀(l:List U32),l=(s.D.words.map U32.mk)→
 F.n=m2.S∧
 ∀(A1:Option Addr)(c1:Nat),
 ∀(l1:List U32),l1=(F.on m2).words.map U32.mk→
 split ((((s.D.words.map U32.mk).length):Int) !=((((F.on m2).words.map U32.mk).length):Int)) (
  Q ⟨(.bool false),none,[],[],[]⟩) (
  ∀i:Int,i=0→
  ∃I:Nat→Int→Prop,(∃m,I m i)∧∀(m:Nat)(PO:Nat→Value)(i1:Int),I m i1→
  split (decide (i1<(((s.D.words.map U32.mk).length):Int))) (
   (0≤i1∧i1<(l.length:Int))∧
   (0≤i1∧i1<(l1.length:Int))∧
   split ((l.getD i1.toNat (U32.mk 0)).v !=((l1.getD i1.toNat (U32.mk 0)).v)) (
    Q ⟨(.bool false),none,[],[],[]⟩) (
    ∀i2:Int,i2=(i64.wrap (i1+1))→
    ∃m1,m1<m∧I m1 i2)) (
   ∀p:Int,p=0→
   ∃I1:Nat→Int→Prop,(∃m3,I1 m3 p)∧∀(m3:Nat)(Oi:Nat→Value)(p1:Int),I1 m3 p1→
   Value.pointer (some (Addr.mk (Sv.pM s) 0 none))=vM∧
   Value.pointer (some (Addr.mk (Sv.pM s) 0 none))=vM∧
   split (decide (p1<(i64.wrap (s.D.mem.S+s.D.mem.I)))) (
    Value.pointer (some (Addr.mk (Sv.pM s) 0 none))=vM∧
    ∀(NZ:Nat),
    ∃J:Bool→Int→Prop,(
     split (!(decide (p1<s.D.mem.S))) (
      Value.pointer (some (Addr.mk (Sv.pM s) 0 none))=vM∧
      J (decide (p1<s.D.mem.S)) (i64.wrap (p1 - s.D.mem.S))) (
      J (decide (p1<s.D.mem.S)) p1))∧∀(QD:Nat→Value)(Yc:Bool) Yb,J Yc Yb→
    ∀(Xt:Nat),
    ∀i2:Int,i2=0→
    ∃I2:Nat→Int→Prop,(∃m5,I2 m5 i2)∧∀(m5:Nat)(XE:Nat→Value)(i3:Int),I2 m5 i3→
    split (decide (i3<1024)) (
     Value.pointer (some (Addr.mk (Sv.pM s) 0 none))=vM∧
     split ((s.D.mem.bD Yc Yb i3) !=(m2.bD Yc Yb i3)) (
      Q ⟨(.bool false),none,[],[],[]⟩) (
      ∀i4:Int,i4=(i64.wrap (i3+1))→
      ∃m6,m6<m5∧I2 m6 i4)) (
     ∀p2:Int,p2=(i64.wrap (p1+1))→
     ∃m4,m4<m3∧I1 m4 p2)) (
    Q ⟨(.bool true),none,[],[],[]⟩)))
theorem xq:Vc2 Un prog (aR [(52,px),(53,nd),(54,np),(55,kP),(33,tG),(56,cj)]) [5,6,9] Tryz.f15 (.r' (.r' (.r' (.r' (.two (.r' (.two (.node [] (some ⟨[(5,(.one (.int .i64)))],[],[2,5]++upN 25 15,[]⟩) [] [] .leaf .leaf) .leaf)) (.two (.r' (.two (.node [] (some ⟨[(6,(.one (.int .i64)))],[],[2,6,7,8,9]++upN 40 62,[]⟩) [] [] (.two (.two (.node [] none [] [(4,[0]),(9,[0])] .leaf .leaf) .leaf) (.two (.two (.r' (.two (.r' (.node [] (some ⟨[],[],upN 67 8,[(6,(.blk [(.v .bool),(.v (.int .i64))]))]⟩) [] [] .leaf .leaf)) (.r' (.r' (.two (.node [] (some ⟨[(9,(.one (.int .i64)))],[],[2,9]++upN 80 22,[]⟩) [] [] (.r' (.two (.two (.two (.node [] none [] [(3,[0]),(4,[6]),(10,[0]),(13,[2]),(14,[7])] .leaf .leaf) .leaf) .leaf) .leaf)) .leaf) .leaf))))) .leaf) .leaf)) .leaf) .leaf)) .leaf)))))) [] gx=(∀g vM vD r (s:Sv) r2 (F:Pd) rm2 (m2:Mem),∀Q,(gx.body g vM vD r s r2 F rm2 m2 Q)→xp g vM vD r s r2 F rm2 m2 Q):=by kernel_rfl
theorem xo:LV Un prog 15 gx:=verify Tryz.func15 aa (tb:= [(52,px),(53,nd),(54,np),(55,kP),(33,tG),(56,cj)]) ⟨F9,B8,CH,xl,ID,gh,trivial⟩ (by kernel_rfl) (xq.mpr fun g vM vD r s r2 F rm2 m2 Q h=>by
 obtain⟨NK,Oj,Om,Rh,h⟩:=h
 exact fun f1 f2 f3=>aj ‹_› fun s4 A c=>(by(have hS:s.D.mem.S≤64∧s.D.mem.I≤64:=by rw [Om];exact f3.2);have hwd:s.D.words=(F.on m2).words:=congrArg DB.words Om;(have Sg:((s.D.words.map U32.mk).length:Int)=1+2*s.D.mem.S:=by rw [List.length_map,DB.cS];show((1+2*s.D.mem.S:Nat):Int)=_;omega);have S6:s.D.mem=m2:=congrArg DB.mem Om;exact fun l Rl=>aj (Rh) fun s5 A1 c1 l1 PF=>aB (fun c1=>gZ h (by exfalso;simp [hwd]at c1)) fun c1=>allEq<| ⟨fun m i1=>(m=(((s.D.words.map U32.mk).length:Int) - i1).toNat)∧(0≤i1),⟨_,rfl,(by omega)⟩,fun m _ i1 ⟨hm,h1⟩=>ar (fun c2=>aj (by subst_vars;exact⟨h1,by assumption⟩) fun s6=>aj (by subst_vars;(rw [← Om];exact⟨h1,by assumption⟩)) fun s7=>aB (fun c3=>gZ h (by exfalso;subst_vars;simp [hwd]at c3)) fun c3=>allEq<| ⟨_,(by rw [aq (by omega)];omega),rfl,(by rw [aq (by omega)];omega)⟩) fun c2=>allEq<| ⟨fun m3 p1=>(m3=((s.D.mem.S:Int)+s.D.mem.I - p1).toNat)∧(0≤p1),⟨_,rfl,(by omega)⟩,fun m3 _ p1 ⟨hm,h3⟩=>aj ‹_› fun s8=>aj ‹_› fun s9=>ar (fun c4=>aj ‹_› fun Td NZ=>⟨fun Yc Yb=>True,Bb (fun c5=>aj ‹_› fun Ov=>(by trivial)) fun c5=>(by trivial),fun _ Yc Yb hj Xt=>allEq<| ⟨fun m5 i3=>(m5=(1024 - i3).toNat)∧(0≤i3),⟨_,rfl,(by omega)⟩,fun m5 _ i3 ⟨hm,h5⟩=>ar (fun c6=>aj ‹_› fun U6=>aB (fun c7=>gZ h (by exfalso;simp [S6]at c7)) fun c7=>allEq<| ⟨_,(by rw [aq (by omega)];omega),rfl,(by rw [aq (by omega)];omega)⟩) fun c6=>allEq<| (by(rw [aq (by omega)]at c4);exact⟨_,(by rw [aq (by omega)];omega),rfl,(by rw [aq (by omega)];omega)⟩)⟩⟩) fun c4=>gZ h (by grind)⟩⟩))
def xi:Ctr Un:=⟨[.one (.int .i64),.one (.int .i64)],[],[],[],fun s i K=>((1≤(s:Int)∧(s:Int)≤64)∧(1≤(i:Int)∧(i:Int)≤64))∧∀(rN:Nat→Nat),K ⟨(.tuple #[(.pointer (some (Addr.mk (rN 0) 0 none))),(.int .i64 0)]),(some (.t [(some (.obj 0 0 0)),none])),[],[(.ob 0 rN (Mem.fresh s.toNat i.toNat))],[]⟩⟩
theorem Kx:LV Un prog 27 xi:=by
 show ∀(s:Int)(i:Int),∀Q:Ou Un→Prop,(((1≤(s:Int)∧(s:Int)≤64)∧(1≤(i:Int)∧(i:Int)≤64))∧∀(rN:Nat→Nat),Q ⟨(.tuple #[(.pointer (some (Addr.mk (rN 0) 0 none))),(.int .i64 0)]),(some (.t [(some (.obj 0 0 0)),none])),[],[(.ob 0 rN (Mem.fresh s.toNat i.toNat))],[]⟩)→∀(X:Nat→Nat→Prop)(w:World),Sat (U:=Un) [] X w→aC (U:=Un) [] fr0 []→Calls prog 27 #[(.int .i64 s),(.int .i64 i)] w (aM (U:=Un) [] [] X w Q)
 intro s i Q hQ X w hs hl
 exact IF s i Q hQ X w hs hl
def kg:Ctr Un:=⟨[],[(0,5)],[.ob 5 []],[],fun rk kk K=>K ⟨(.bool true),none,[],[],[]⟩⟩
def FW(rk:Nat→Nat)(kk:List Int)(Q:Ou Un→Prop):Prop:=
 ((1≤(3:Int)∧(3:Int)≤64)∧(1≤(1:Int)∧(1:Int)≤64))∧
 ∀(rN:Nat→Nat),
 ∀(m:Mem),m=(Mem.fresh (Int.toNat 3) (Int.toNat 1))→
 Mem.Wf m→
 ∃J:Bool→Prop,(
  J false)∧∀(PO:Nat→Value)(P7:Bool),J P7→
 split P7 (
  Q ⟨(.bool false),none,[],[],[]⟩) (
  1≤m.S∧
  ∀(SD:Nat→Nat),
  ∀(m1:Mem),m1=(m.cH m.S)→
  Mem.Wf m1→
  ∀(E:Pd),E=(DB.new m).pd→
  Pd.Ok E→
  ∃J1:Bool→Mem→Pd→Prop,(
   E.n=m1.S∧
   (0≤(0:Int)∧(0:Int)<4294967296)∧
   (0≤(3:Int)∧(3:Int)<4294967296)∧
   ∀(E1:Pd),E1=((E.on m1).bt 0 3).pd→
   Pd.Ok E1→
   ∀(m2:Mem),m2=((E.on m1).bt 0 3).mem→
   Mem.Wf m2→
   split ((i64.wrap ((E.on m1).cU 0 3))==1) (
    E1.n=m2.S∧
    (0≤(0:Int)∧(0:Int)<4294967296)∧
    (0≤(1:Int)∧(1:Int)<4294967296)∧
    ∀(E2:Pd),E2=((E1.on m2).bt 0 1).pd→
    Pd.Ok E2→
    ∀(m3:Mem),m3=((E1.on m2).bt 0 1).mem→
    Mem.Wf m3→
    split ((i64.wrap ((E1.on m2).cU 0 1))==0) (
     E2.n=m3.S∧
     (0≤(0:Int)∧(0:Int)<4294967296)∧
     (0≤(2:Int)∧(2:Int)<4294967296)∧
     (0≤(7:Int)∧(7:Int)<4294967296)∧
     ∀(E3:Pd),E3=(DB.bg kk (E2.on m3) 0 2 7).pd→
     Pd.Ok E3→
     ∀(m4:Mem),m4=(DB.bg kk (E2.on m3) 0 2 7).mem→
     Mem.Wf m4→
     split ((i64.wrap ((E2.on m3).bS 0 2))==0) (
      E3.n=m4.S∧
      (0≤(1:Int)∧(1:Int)<4294967296)∧
      (0≤(2:Int)∧(2:Int)<4294967296)∧
      (0≤(7:Int)∧(7:Int)<4294967296)∧
      ∀(E4:Pd),E4=(DB.bg kk (E3.on m4) 1 2 7).pd→
      Pd.Ok E4→
      ∀(m5:Mem),m5=(DB.bg kk (E3.on m4) 1 2 7).mem→
      Mem.Wf m5→
      split ((i64.wrap ((E3.on m4).bS 1 2))==3) (
       J1 ((m5.bD true 2 0)==7) m5 E4) (
       J1 false m5 E4)) (
      J1 false m4 E3)) (
     J1 false m3 E2)) (
    J1 false m2 E1))∧∀(Oi:Nat→Value)(x0:Bool)(s1:Mem)(s2:Pd),J1 x0 s1 s2→
  Mem.Wf s1→
  Pd.Ok s2→
  Q ⟨(.bool x0),none,[],[],[]⟩)
theorem FX:Vc2 Un prog (aR [(27,xi),(29,tK),(31,gH),(32,fR),(33,xg)]) [] Tryz.f8 (.r' (.r' (.two (.two (.node [] (some ⟨[(13,(.one .bool))],[],upN 8 6,[]⟩) [] [] .leaf .leaf) .leaf) (.r' (.two (.node [] (some ⟨[(0,(.one .bool))],[],[0]++upN 16 32,[(1,(.ob 0)),(2,(.ob 1))]⟩) [] [] .leaf .leaf) .leaf))))) [] kg=(∀rk (kk:List Int),∀Q,(kg.body rk kk Q)→FW rk kk Q):=by kernel_rfl
theorem FU:LV Un prog 8 kg:=verify Tryz.func8 aa (tb:= [(27,xi),(29,tK),(31,gH),(32,fR),(33,xg)]) ⟨Kx,IT,vS,tP,DS,trivial⟩ (by kernel_rfl) (FX.mpr fun rk kk Q h=>aj (by omega) fun s1 rN m Wz f2=>⟨fun P7=>(P7=false),(by rfl),fun _ P7 hx=>af (fun c1=>(by exfalso;have hx:P7=false:=hx;rw [hx]at c1;cases c1)) fun c1=>aj (by subst_vars;decide) fun s3 SD m1 N5 f4 E Xq f5=>⟨fun x0 s1 s2=>(x0=true),aj (by(rw [Xq,N5,Wz];rfl)) fun s6=>aj (by omega) fun s7=>aj (by omega) fun s8 E1 Oc f9 m2 Pc f10=>aG (fun c2=>(by(have h0:=(by rw [Xq,N5,Wz];rfl:E.on m1=DB.hd0));exact aj (by(rw [Oc,Pc];exact DB.pdS _)) fun Ov=>aj ‹_› fun U6=>aj (by omega) fun V9 E2 P4 f14 m3 Ol f15=>aG (fun c3=>(by(have h1:=(by rw [Oc,Pc,h0];show DB.hd0.bt 0 3=DB.hd0;unfold DB.bt;rw [if_neg (by rw [DB.Ly];decide)]:E1.on m2=DB.hd0));exact aj (by(rw [P4,Ol];exact DB.pdS _)) fun VA=>aj ‹_› fun U5=>aj (by omega) fun WQ=>aj (by omega) fun s19 E3 UX f20 m4 Ta f21=>aG (fun c4=>(by(have h2:=(by rw [P4,Ol,h1];unfold DB.hd1;exact DB.rO _:E2.on m3=DB.hd1));exact aj (by(rw [UX,Ta];exact DB.pdS _)) fun s22=>aj ‹_› fun s23=>aj ‹_› fun s24=>aj ‹_› fun s25 E4 h_E4 f26 m5 VL f27=>aG (fun c5=>(by(have h3:=(by rw [UX,Ta,h2];exact DB.rO _:E3.on m4=DB.bg kk DB.hd1 0 2 7));exact(by have h4:m5=(DB.bg kk DB.hd1 0 2 7).mem:=(by rw [VL,h3];exact congrArg DB.mem (DB.Nl kk));rw [h4,DB.Nm];rfl))) fun c5=>(by exfalso;have h3:=(by rw [UX,Ta,h2];exact DB.rO _:E3.on m4=DB.bg kk DB.hd1 0 2 7);exact c5 (by rw [h3,DB.MG];decide)))) fun c4=>(by exfalso;have h2:=(by rw [P4,Ol,h1];unfold DB.hd1;exact DB.rO _:E2.on m3=DB.hd1);exact c4 (by rw [h2,DB.MI];decide)))) fun c3=>(by exfalso;have h1:=(by rw [Oc,Pc,h0];show DB.hd0.bt 0 3=DB.hd0;unfold DB.bt;rw [if_neg (by rw [DB.Ly];decide)]:E1.on m2=DB.hd0);exact c3 (by rw [h1,DB.Nn];decide)))) fun c2=>(by exfalso;have h0:=(by rw [Xq,N5,Wz];rfl:E.on m1=DB.hd0);exact c2 (by rw [h0,DB.Ly];decide)),fun _ x0 s1 s2 hy f28 f29=>gZ h (hy.symm)⟩⟩)
def mM:Ctr Un:=⟨[.agg [.int .i64,.int .i64],.one (.sl 0)],[(1,5),(2,6)],[.lst 5 false 31,.ob 5 [],.ob 6 []],[],fun s i A c l rk kk rk2 Wb K=>((∀o∈l,LOp.Ok o))∧Wb=kk∧l.length≤140737488355328∧K ⟨(.bool true),none,[],[],[]⟩⟩
def uC(s:Int)(i:Int)(A:Option Addr)(c:Nat)(l:List LOp)(rk:Nat→Nat)(kk:List Int)(rk2:Nat→Nat)(Wb:List Int)(Q:Ou Un→Prop):Prop:=
 ∀(gv:Nat),
 split (okM s i) (
  ∀(NB:Nat)(r:Nat→Nat)(rQ:Nat→Nat)(rM:Nat→Nat)(s1:Sv),
  s1.D=(DB.new (Mem.fresh s.toNat i.toNat))→
  ∀(s2:Sv),s2=s1→
  Sv.Ok s2→
  ∀(E:Pd),E=(DB.new (Mem.fresh s.toNat i.toNat)).pd→
  Pd.Ok E→
  ∀(m:Mem),m=(DB.new (Mem.fresh s.toNat i.toNat)).mem→
  Mem.Wf m→
  ∃J:Bool→Prop,(
   J false)∧∀(OW:Nat→Value)(O1:Bool),J O1→
  split O1 (
   Q ⟨(.bool false),none,[],[],[]⟩) (
   ∀i1:Int,i1=0→
   ∃I:Nat→Int→Option Addr→Option Addr→Sv→Pd→Mem→Prop,(∃m1,I m1 i1 (some (Addr.mk (Sv.pM s1) 0 none)) (some (Addr.mk (Sv.pD s1) 0 none)) s2 E m)∧∀(m1:Nat)(QD:Nat→Value)(i2:Int)(XG:Option Addr)(Vk:Option Addr)(s5:Sv)(s6:Pd)(s7:Mem),I m1 i2 XG Vk s5 s6 s7→
   Sv.Ok s5→
   Pd.Ok s6→
   Mem.Wf s7→
   split (decide (i2<(l.length:Int))) (
    (0≤i2∧i2<(l.length:Int))∧
    ∀(Xt:Nat),
    ∃J1:Bool→Prop,(
     split (decide ((l.getD i2.toNat (LOp.mk 0 0 0 0 0)).k≥1)) (
      J1 (decide ((l.getD i2.toNat (LOp.mk 0 0 0 0 0)).k≤5))) (
      J1 false))∧∀(XE:Nat→Value)(Q3:Bool),J1 Q3→
    split Q3 (
     Value.pointer (some (Addr.mk (Sv.pD s5) 0 none))=(.pointer Vk)∧
     LOp.Ok (l.getD i2.toNat (LOp.mk 0 0 0 0 0))∧
     ∀(s3:Sv),s3= {s5 with D:=DB.call kk s5.D (l.getD i2.toNat (LOp.mk 0 0 0 0 0))}→
     Sv.Ok s3→
     s6.n=s7.S∧
     LOp.Ok (l.getD i2.toNat (LOp.mk 0 0 0 0 0))∧
     ((∀s,(s6.on s7).aW s=0→Dg.ay (s7.dgW s)=0))∧
     ∀(E1:Pd),E1=(DB.call Wb (s6.on s7) (l.getD i2.toNat (LOp.mk 0 0 0 0 0))).pd→
     Pd.Ok E1→
     ∀(m3:Mem),m3=(DB.call Wb (s6.on s7) (l.getD i2.toNat (LOp.mk 0 0 0 0 0))).mem→
     Mem.Wf m3→
     split ((s5.D.cO (l.getD i2.toNat (LOp.mk 0 0 0 0 0))) !=((s6.on s7).cO (l.getD i2.toNat (LOp.mk 0 0 0 0 0)))) (
      Q ⟨(.bool false),none,[],[],[]⟩) (
      ∀i3:Int,i3=(i64.wrap (i2+1))→
      ∃m2,m2<m1∧I m2 i3 XG Vk s3 E1 m3)) (
     Value.pointer (some (Addr.mk (Sv.pD s5) 0 none))=(.pointer Vk)∧
     LOp.Ok (l.getD i2.toNat (LOp.mk 0 0 0 0 0))∧
     ∀(s3:Sv),s3= {s5 with D:=s5.D.beside (l.getD i2.toNat (LOp.mk 0 0 0 0 0))}→
     Sv.Ok s3→
     s6.n=s7.S∧
     LOp.Ok (l.getD i2.toNat (LOp.mk 0 0 0 0 0))∧
     ∀(E1:Pd),E1=((s6.on s7).beside (l.getD i2.toNat (LOp.mk 0 0 0 0 0))).pd→
     Pd.Ok E1→
     ∀(m3:Mem),m3=((s6.on s7).beside (l.getD i2.toNat (LOp.mk 0 0 0 0 0))).mem→
     Mem.Wf m3→
     Value.pointer (some (Addr.mk (Sv.pD s3) 0 none))=(.pointer Vk)∧
     ∀(Ov:Sv),
     Ov.D=s3.D→
     ∀(s4:Sv),s4=Ov→
     Sv.Ok s4→
     Value.pointer (some (Addr.mk (Sv.pD s4) 0 none))=(.pointer (some (Addr.mk (Sv.pD Ov) 0 none)))∧
     ∀i3:Int,i3=(i64.wrap (i2+1))→
     ∃m2,m2<m1∧I m2 i3 (some (Addr.mk (Sv.pM s4) 0 none)) (some (Addr.mk (Sv.pD Ov) 0 none)) s4 E1 m3)) (
    Value.pointer (some (Addr.mk (Sv.pM s5) 0 none))=(.pointer XG)∧
    Value.pointer (some (Addr.mk (Sv.pD s5) 0 none))=(.pointer Vk)∧
    s5.D=s6.on s7∧
    s6.n=s7.S∧
    Q ⟨(.bool true),none,[],[],[]⟩))) (
  ∃J:Bool→Prop,(
   J false)∧∀(Oi:Nat→Value)(O1:Bool),J O1→
  split O1 (
   Q ⟨(.bool false),none,[],[],[]⟩) (
   Q ⟨(.bool true),none,[],[],[]⟩))
theorem uD:Vc2 Un prog (aR [(7,lY),(8,kg),(9,kQ),(10,fE),(11,kS),(12,gy),(13,lS),(14,nq),(15,gx)]) [8] Tryz.f3 (.r' (.r' (.two (.two (.node [] (some ⟨[(22,(.one .bool))],[],upN 17 6,[]⟩) [] [] .leaf .leaf) .leaf) (.r' (.two (.r' (.two (.node [] (some ⟨[(8,(.one (.int .i64)))],[],[4,8,9,10]++upN 25 61,[(4,(.blk [(.v .ptr),(.v .ptr),(.k (.obj 6 0 0))])),(5,(.ob 9)),(6,(.ob 3)),(7,(.ob 2))]⟩) [] [] (.r' (.two (.two (.r' (.two (.node [] (some ⟨[(42,(.one .bool))],[],upN 35 8,[]⟩) [] [] .leaf .leaf) (.two (.two (.node [] none [] [(3,[4]),(4,[8])] .leaf .leaf) (.two (.node [] none [] [(4,[4]),(5,[8])] .leaf .leaf) .leaf)) (.two (.node [] none [] [(3,[4]),(4,[8])] .leaf .leaf) (.two (.node [] none [] [(3,[4]),(4,[8])] .leaf .leaf) (.two (.node [] none [] [(4,[4]),(5,[8])] .leaf .leaf) .leaf)))))) .leaf) .leaf)) .leaf) .leaf)) .leaf))))) [] mM=(∀s i A c (l:List LOp) rk (kk:List Int) rk2 (Wb:List Int),∀Q,(((∀o∈l,LOp.Ok o))∧Wb=kk∧l.length≤140737488355328∧Q ⟨(.bool true),none,[],[],[]⟩)→uC s i A c l rk kk rk2 Wb Q):=by kernel_rfl
theorem uB:LV Un prog 3 mM:=verify Tryz.func3 aa (tb:= [(7,lY),(8,kg),(9,kQ),(10,fE),(11,kS),(12,gy),(13,lS),(14,nq),(15,gx)]) ⟨AE,FU,xr,uE,xw,xt,Ak,CL,xo,trivial⟩ (by kernel_rfl) (uD.mpr fun s i A c l rk kk rk2 Wb Q h=>by
 obtain⟨NK,Oj,Om,h⟩:=h
 exact fun gv=>af (fun c1 NB r rQ rM s1 f1 s2 OE f2 E Xq f3 m Wz f4=>⟨fun O1=>(O1=false),(by rfl),fun _ O1 hx=>af (fun c2=>gZ h (by(exfalso;have h9:O1=false:=hx;rw [h9]at c2;cases c2))) fun c2=>allEq<| ⟨fun m1 i2 XG Vk s5 s6 s7=>(m1=((l.length:Int) - i2).toNat)∧(0≤i2∧i2≤(l.length:Int))∧(XG=some (Addr.mk (Sv.pM s5) 0 none))∧(Vk=some (Addr.mk (Sv.pD s5) 0 none))∧(s5.D=s6.on s7)∧(DB.Inv s5.D)∧(s6.n=s7.S),⟨_,rfl,(by omega),(by rw [OE]),(by rw [OE]),(by rw [OE,Xq,Wz,DB.rO];assumption),(by rw [OE,‹s1.D=_›];exact DB.Jz _),(by rw [Xq,Wz];exact DB.pdS _)⟩,fun m1 _ i2 XG Vk s5 s6 s7 ⟨hm,hi,hA,hB,hD,hI,hn⟩=>fun f5 f6 f7=>ar (fun c3=>aj (by omega) fun s8 Xt=>⟨fun Q3=>True,ar (fun c4=>(by trivial)) fun c4=>(by trivial),fun _ Q3 hj=>af (fun c5=>aj (by rw [hB]) fun s9=>aj (NK _ (n5 (by omega))) fun Td s3 PE f11=>aj (hn) fun U6=>aj (NK _ (n5 (by omega))) fun V9=>aj (by intro x hx;have h9:=hI x (by rw [hD];exact hx);rw [hD]at h9;exact h9) fun XJ E1 Oc f15 m3 Ol f16=>aB (fun c6=>gZ h (by(exfalso;simp [hD]at c6;done))) fun c6=>allEq<| ⟨_,(by rw [aq (by omega)];omega),rfl,(by rw [aq (by omega)];omega),(by(rw [PE];exact hA)),(by(rw [PE];exact hB)),(by(rw [PE,Oc,Ol,Oj,← hD,DB.rO];done)),(by(rw [PE];exact DB.HE (NK _ (n5 (by omega))) hI (by rw [hD];exact ‹Mem.Wf s7›))),(by rw [Oc,Ol];exact DB.pdS _)⟩) fun c5=>aj (by rw [hB]) fun U5=>aj (NK _ (n5 (by omega))) fun WQ s3 PE f19=>aj (hn) fun s20=>aj (NK _ (n5 (by omega))) fun s21 E1 Oc f22 m3 Ol f23=>aj (by rw [hB,PE]) fun s24 Ov f25 s4 S9 f26=>aj (by rw [S9]) fun s27=>allEq<| ⟨_,(by rw [aq (by omega)];omega),rfl,(by rw [aq (by omega)];omega),(by rfl),(by(rw [S9];done)),(by(rw [S9,‹Ov.D=s3.D›,PE,Oc,Ol,← hD,DB.rO];done)),(by(rw [S9,‹Ov.D=s3.D›,PE];exact DB.BL hI)),(by rw [Oc,Ol];exact DB.pdS _)⟩⟩) fun c3=>aj (by rw [hA]) fun s28=>aj (by rw [hB]) fun s29=>aj (hD) fun s30=>aj (hn) fun s31=>gZ h (by rfl)⟩⟩) fun c1=>⟨fun O1=>(O1=false),(by rfl),fun _ O1 hx=>af (fun c7=>gZ h (by(exfalso;have h9:O1=false:=hx;rw [h9]at c7;cases c7))) fun c7=>gZ h (by rfl)⟩)
end
end Go.Proofs.YtinhphjfnedhgaaGreatDoor
namespace Go.Proofs.YtinhphjfnedhgaaGreatDoor
open Go.Proofs.Tryz (prog)
open Go Go.RowKit V Go.ChangeShapes Go.WideShapes Go.ChangeAt
open Go.IntKind (i64 u32 u64)
open Enc (enc)
theorem JG:ownKnob prog.godebug=none:=by kernel_rfl
theorem pO:laidOutB prog=true:=by kernel_rfl
theorem JH:prog.bytesOf 31=24:=by kernel_rfl
theorem Lx:prog.cellsOf 31=5:=by kernel_rfl
theorem Bw:prog.cellsOf 3=1:=by kernel_rfl
theorem oU:prog.cellsOf 29=1:=by kernel_rfl
def Nh:DataW Unit→List Int
 | .agg l=>l.filterMap fun d=>match d with
  | .lit (.int _ x)=>some x
  | _=>none
 | _=>[]
def kR:List Int:=Nh Rows.laid_warden_sha_rounds
theorem JJ:Rows.laid_warden_sha_rounds (H:=Unit)= .agg (kR.map fun x=>.lit (.int .u32 x)):=by kernel_rfl
theorem Hh:Rows.laid_warden_wardenref02_K (H:=Unit)= .agg (kR.map fun x=>.lit (.int .u32 x)):=by kernel_rfl
theorem Bz:kR.length=64:=by kernel_rfl
theorem Dz:prog.globalNamed "warden/sha.rounds" =some 0:=by kernel_rfl
theorem gK:prog.globalNamed "warden/wardenref02.K" =some 1:=by kernel_rfl
theorem Jw {W:World}(h:laidMetH prog Rows.buildAllRow.laid W):iP W 0 kR∧iP W 1 kR:=by
 rw [MakeChecks.laidMetH_plain _ _ _ (by kernel_rfl)]at h
 obtain⟨ps,⟨g0,t0,XD,f0,p0,q0,hg0,ht0,hv0,hd0,⟨g1,t1,Ya,f1,p1,q1,Wp,ht1,hv1,hd1,hq1,e1⟩,e0⟩,_,hc⟩:=h
 obtain rfl:=Option.some.inj (Dz.symm.trans hg0)
 obtain rfl:=Option.some.inj (gK.symm.trans Wp)
 obtain rfl:=Option.some.inj ((show(prog.globals[0]?).map (·.type)=some 287 by kernel_rfl).symm.trans ht0)
 obtain rfl:=Option.some.inj ((show(prog.globals[1]?).map (·.type)=some 287 by kernel_rfl).symm.trans ht1)
 rw [JJ]at hd0
 rw [Hh]at hd1
 have c0:=uZ Tryz.underlying287 Tryz.underlying29 oU hd0 (by kernel_rfl)
 have c1:=uZ Tryz.underlying287 Tryz.underlying29 oU hd1 (by kernel_rfl)
 obtain⟨XD⟩:=XD
 obtain⟨Ya⟩:=Ya
 simp only at c0 c1
 subst c0 c1
 have s0:∀x:Nat,MemPlace.row ⟨0,0,none⟩ (kR.map (Value.int .u32)).toArray.size ⊆ ps:=fun _=>by rw [e0];intro y hy;simp only [List.mem_append];exact .inl (.inl hy)
 have s1:MemPlace.row ⟨1,0,none⟩ (kR.map (Value.int .u32)).toArray.size ⊆ ps:=by rw [e0,e1];intro y hy;simp only [List.mem_append];exact .inr (.inl (.inl hy))
 have z0:0<(kR.map (Value.int .u32)).toArray.size:=by simp [Bz]
 exact⟨⟨Bz,yr Dz hv0 z0 (s0 0) hc⟩,⟨Bz,yr gK hv1 z0 s1 hc⟩⟩
theorem Hu(os:Os)(args:Array Value):laidMetH prog Rows.buildAllRow.laid ((World.doorLaid prog 400 os).forCall (fun _ _=>0) ⟨#[],args,[]⟩).memory:=
 laidMetH_of_parts3 (fuel:=8) (laidMet_of_run' 8 (by kernel_rfl) (by kernel_rfl)) (by kernel_rfl) (by kernel_rfl)
set_option maxRecDepth 100000 in
theorem Bv(os:Os)(started:os.Started)(H:Type)(enc:TypeId×Value→H):
 ReturnsInHanded {} Tryz.checked os 3 .any (fun w args=>(Rows.buildAllSpec.pre enc prog Tryz.f3 [] false w args∧laidMetH prog Rows.buildAllRow.laid w)∧sizedMet enc prog Tryz.f3 (OpenSpec.ofChange Rows.buildAllSpec) false w args)
  (Rows.buildAllSpec.post enc prog Tryz.f3 false true false false):=by
 refine returnsInHanded_of_change_and (C:=Tryz.checked) (X:=fun w _=>laidMetH prog Rows.buildAllRow.laid w) (fun _ _ _ hh h=>h.of_heap hh) JG started (by kernel_rfl) Tryz.func3
  (ChangeSpec.witness_shaped (enc:=enc) (C:=Tryz.checked) (os:=os) (X:=fun w _=>laidMetH prog Rows.buildAllRow.laid w) false (World.doorLaid prog 400 os) #[.agg #[.int .i64 1,.int .i64 1],.slice none 0 0] 8 rfl (World.shaped_of_RefB (by kernel_rfl) (by kernel_rfl)) (by kernel_rfl) (by kernel_rfl) (by kernel_rfl) (Hu os _)) ?_
 intro W base args ds gs before We hW _ abH hL _
 have On:(DataW.weightsEach prog (Tryz.f3.params.toList++Rows.buildAllSpec.plain.varTypes prog) (ds++gs)).all (· ≤reachBytes)=true:=abH
 clear abH
 have WZ:∀(j:Nat) t v,Tryz.f3.params[j]? =some t→args[j]? =some v→Value.okWide prog W .any base t v:=We
 have hW':=hW
 obtain⟨p,q,hA0,hV,rfl,_,_⟩:=hW
 have hA:DataW.TrodAll enc prog W 0 (fun _=>true) true Tryz.f3.params.toList args.toList ds p:=hA0
 rw [Tryz.params3]at hA WZ On
 obtain⟨v0,v1,d0,d1,p0,p1,rfl,rfl,rfl,h0,h1⟩:=trodAll_two hA
 obtain⟨rfl,rfl⟩:=trodVars_none hV
 obtain⟨x0,x1,rfl⟩:=GY Tryz.underlying23 ⟨rfl,rfl⟩ ⟨Bw,Bw⟩ Tryz.underlying3 Tryz.underlying3 (by kernel_rfl) (WZ 0 23 v0 rfl rfl) h0
 obtain⟨A,n,c,l,rfl,hr,hw,aei,hs⟩:=GZ Tryz.underlying24 Tryz.underlying31 Lx ⟨rfl,rfl,rfl,rfl,rfl⟩ ⟨Bw,oU,oU,oU,oU⟩ Tryz.underlying3 Tryz.underlying29 Tryz.underlying29 Tryz.underlying29 Tryz.underlying29 (WZ 1 24 v1 rfl rfl) h1
 clear hA0 We
 simp only [List.append_nil]at hW'
 have Ow:∀x∈p0++p1,x.block<W.heap.size:=fun x hx=>by simpa using hW'.lt x hx
 have W6:=hr.len
 subst W6
 have b0:c*24≤140737488351232:=by
  rcases hs with rfl | ⟨el,sp,rfl,hlen⟩
  ·omega
  ·have:=sized_slice On (j:=1) (t:=24) (e:=31) rfl rfl Tryz.underlying24
   rw [JH,hlen]at this
   simpa [reachBytes]using this
 obtain⟨hR1,hR2⟩:=Jw hL
 have ne:∀g cs T,(∀v∈cs.toList,∀x,v≠ .int .i64 x)→Blk W g cs T→¬(0<l.length∧∃p,A=some p∧g=p.block):=fun g cs T O0 hb ⟨h0,p,hp,hg⟩=>by
  obtain⟨x,hx⟩:=aei p hp h0
  exact O0 _ (cell_of hb (by rw [V.block_add];exact hg.symm) hx) x rfl
 have n1:∀g,(∃T,Blk W g (aY kR) T)→¬(0<l.length∧∃p,A=some p∧g=p.block):=fun g ⟨T,hb⟩=>ne g _ T (fun v hv x e=>by
  subst e
  have hv:Value.int .i64 x∈kR.map (Value.int .u32):=hv
  obtain⟨y,_,hy⟩:=List.mem_map.1 hv
  cases hy) hb
 let X:Nat→Nat→Prop:=fun i=>if i=0 then fun k=>0<l.length∧∃p,A=some p∧k=p.block else if i=1 then fun k=>k=0 else fun k=>k=1
 have hsat:Sat (U:=Un) [.lst 5 false 31 A c l,.ob 5 (fun _=>0) kR,.ob 6 (fun _=>0) kR] X W:=⟨fun i r QK=>by
  match i with
  | 0=>simp only [nth,Option.some.injEq]at QK;subst QK;exact hr
  | 1=>simp only [nth,Option.some.injEq]at QK;subst QK;exact(⟨fun k=>⟨fun h=>h,fun h=>h⟩,hR1⟩:(∀k,k=0↔X 1 k)∧iP W 0 kR)
  | 2=>simp only [nth,Option.some.injEq]at QK;subst QK;exact(⟨fun k=>⟨fun h=>h,fun h=>h⟩,hR2⟩:(∀k,k=1↔X 2 k)∧iP W 1 kR)
  | i+3=>simp [nth]at QK,fun i j hi hj OS k k1 k2=>by
  have hi:i<3:=hi
  have hj:j<3:=hj
  have a0:∀k,X 1 k→k=0:=fun _ h=>h
  have a1:∀k,X 2 k→k=1:=fun _ h=>h
  have m1:¬X 0 0:=n1 _ hR1.blk
  have m2:¬X 0 1:=n1 _ hR2.blk
  match i,hi,j,hj with
  | 0,_,0,_ | 1,_,1,_ | 2,_,2,_=>exact OS rfl
  | 0,_,1,_=>rw [a0 k k2]at k1;exact m1 k1
  | 0,_,2,_=>rw [a1 k k2]at k1;exact m2 k1
  | 1,_,0,_=>rw [a0 k k1]at k2;exact m1 k2
  | 2,_,0,_=>rw [a1 k k1]at k2;exact m2 k2
  | 1,_,2,_=>have:=a0 k k1;have:=a1 k k2;omega
  | 2,_,1,_=>have:=a1 k k1;have:=a0 k k2;omega⟩
 have Xi:l.length≤c:=hr.cap
 have Vd:l.length≤140737488355328:=by omega
 refine(uB x0 x1 A c l (fun _=>0) kR (fun _=>0) kR (fun o=>o=_) ⟨hw,rfl,Vd,rfl⟩ X W hsat (fun _ _ h=>by cases h)).mono ?_
 rintro e W' ⟨out,rs',X',rfl,rfl,Oo,hp⟩
 have QR:Pu W W':=hp.ch.mono fun k ⟨j,hj,_⟩=>by cases hj
 have hn:Below W.heap.size W W':=⟨QR.kept.os,QR.kept.tape,QR.kept.output,QR.kept.size,fun k hk=>QR.kept.block k ⟨hk,fun h=>h⟩⟩
 refine⟨_,rfl,_,_,_,[],p0++p1,[],hW',trodAll_mk1 (shut_bool Tryz.underlying4 _),?_,rfl,hn.frame _,fun h=>by cases h⟩
 exact trodAll_mk2 (Below.trod pO (by kernel_rfl) (of_decide_eq_true (by kernel_rfl)) h0 hn (fun x hx=>Ow x (List.mem_append_left _ hx)))
  (Below.trod pO (by kernel_rfl) (of_decide_eq_true (by kernel_rfl)) h1 hn (fun x hx=>Ow x (List.mem_append_right _ hx)))
theorem wN:Rows.BuildAllSaid:=
 OpenClaim.holds_of_wide 3 Tryz.f3 rfl rfl rfl rfl rfl rfl rfl ⟨rfl,rfl,rfl,rfl,rfl⟩ rfl rfl rfl rfl rfl (by kernel_rfl) Tryz.func3 (by kernel_rfl)
  (of_decide_eq_true (by kernel_rfl)) (by unfold Func.isWrapper;(rw [if_neg (by decide+kernel)];exact⟨rfl,rfl⟩))
  (fun os started H enc _=>Bv os started H enc)
end Go.Proofs.YtinhphjfnedhgaaGreatDoor
namespace Go.Proofs.YtinhphjfnedhgaaGreatDoor
open Go.Proofs.Tryz (prog)
open Go
theorem buildAll_card:Rows.BuildAllCardSaid:=
 Claim7.holds_tied_plain_at .later [] [.data,.data] true (true, "4005ff82abade87380ae656bae1277cdf77dd5fa8f92b5447bbfc42810012e7b") true
  wN (fun _ h=>by cases h) (by kernel_rfl) (fun _ h=>by cases h) buildAll_row_tie rfl ⟨rfl,rfl⟩ (by kernel_rfl) rfl
  (fun f fn hf X6=>by
   obtain rfl:f=3:=Option.some.inj ((show prog.funcNamed "warden/wardenlaw17.BuildAll" =some 3 by kernel_rfl).symm.trans hf) |>.symm
   obtain rfl:fn=Tryz.f3:=(Option.some.inj (Tryz.func3.symm.trans X6)).symm
   exact⟨by kernel_rfl,fun j t ht=>by
    rw [Tryz.params3]at ht
    have h3:t=23∨t=24:=by
     rcases j with _ | _ | j
     ·left;simpa using ht.symm
     ·right;simpa using ht.symm
     ·simp at ht
    rcases h3 with rfl | rfl
    ·exact(show prog.wantsStandIn 23=false by kernel_rfl)
    ·exact(show prog.wantsStandIn 24=false by kernel_rfl)⟩)
  (by kernel_rfl)
#print axioms buildAll_card
end Go.Proofs.YtinhphjfnedhgaaGreatDoor
