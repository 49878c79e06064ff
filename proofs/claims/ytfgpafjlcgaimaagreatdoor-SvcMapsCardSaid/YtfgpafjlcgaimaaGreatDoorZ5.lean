/- SvcMaps returns true for every input, and each argument reads behind the call as it read before. -/
import Derived.Test.YtfgpafjlcgaimaaGreatDoorZ4
import Derived.KernelRfl
import Derived.Maps.Own
import Derived.Test.YtfgpafjlcgaimaaGreatDoorRows
import Derived.LaidHandle
import Derived.LaidLaws
import Derived.Carry
import Derived.Test.YtfgpafjlcgaimaaGreatDoorTie
import Derived.Test.YtfgpafjlcgaimaaGreatDoorCards
import Derived.SevenTiedAt
set_option linter.unusedVariables false
set_option linter.unusedSimpArgs false
namespace Go.Proofs.YtfgpafjlcgaimaaGreatDoor
open Go.Proofs.Tryz (prog)
open Go Go.RowKit V
open Go.IntKind (i64 u32 u64)
section
namespace Mem
def rd(m:Mem)(s:Bool)(p o:Int):Mem:=if m.has s p && b9 o then m.tick 1 else m
def copy(m:Mem)(s:Bool)(p:Int)(s':Bool)(p':Int):Mem:=if m.has s p && m.has s' p' then(m.tick 2048).fill s p.toNat (m.pg s' p'.toNat)else m
def words(m:Mem)(s:Bool)(p:Nat):List U32:=(List.range 1024).map fun o=>U32.mk (m.pg s p o)
end Mem
section
variable {w:World} {L:dA} {m:Mem}
theorem HY(h:bH w L m)(s:Bool)(p o:Int):
 Calls prog 136 #[ptr L.g,fr s p,.int .i64 o] w fun e w'=>∃v,e= .returned v∧v= .tuple #[.int .u32 (m.bQ s p o),.int .i64 (m.err s p o)]∧bH w' L (m.rd s p o)∧Ch L.X w w':=by
 refine wi _ s p o ?_
 intro g1 w1 hg hw
 have hM:=made hg hw
 refine⟨_,_,⟨hM.blk.at rfl,hM.blk.at rfl⟩,(Gg (h.pu hM.pu) s p o).mono ?_⟩
 rintro e w2 ⟨_,rfl,⟨hh,rfl,h2,hc⟩ | ⟨hh,rfl,he,hp⟩⟩
 ·refine⟨_,_,rfl,ae (fun hb=>by simp at hb) (fun _=>?_)⟩
  have Oq:Ch L.X w w2:=((Ch.refl _ w).made hM).trans hc
  have Vq:=hh
  simp only [Bool.and_eq_true]at hh
  have hi:=Mem.cy hh.1
  have ho:=Mem.eC hh.2
  obtain⟨T,cs,hr,Js,Kg⟩:=h2.pgs s p.toNat (by simpa using hi)
  refine ai _ rfl ⟨_,hr.cell (Kg _ (by omega)),?_,?_,Oq⟩
  ·simp [Mem.bQ,Mem.err,hh.1,hh.2,Mem.tick]
  ·simpa [Mem.rd,Vq]using h2
 ·refine⟨_,_,rfl,ae (fun _=>⟨?_,?_,(hM.pu.trans hp).mono (by simp)⟩) (fun hb=>absurd (by simpa using hb) he)⟩
  ·simp [Mem.bQ,hh]
  ·simpa [Mem.rd,hh]using (h.pu hM.pu).pu hp
end
end
section
theorem Mem.mf(m:Mem)(s:Bool)(p:Nat):(m.words s p).length=1024:=by rw [Mem.words,List.length_map,List.length_range]
theorem Mem.HP(m:Mem)(s:Bool)(p o:Int):m.rd s p o=m:=by unfold Mem.rd;split<;>rfl
section
variable {w:World} {g:Nat} {L:et} {m:Mem}
end
end
end Go.Proofs.YtfgpafjlcgaimaaGreatDoor
namespace Go.Proofs.YtfgpafjlcgaimaaGreatDoor
open Go.Proofs.Tryz (prog)
open Go Go.RowKit V
open Go.IntKind (i64 u32 u64)
section
set_option maxRecDepth 100000
set_option maxHeartbeats 1000000
attribute [local irreducible] Vc2 VcD
end
section
set_option maxRecDepth 100000
def vW(ca:Option Addr)(cb:Int)(cc:Int)(R:ax)(w:World):Prop:=
 ∀(gv:Nat)(wv:World),gv=w.heap.size→wv=w.alloc (.cells #[(.pointer ca),(.int .i64 cb),(.int .i64 cc)] 189)→
 ∃x7:Option Addr,wv.cell? ((Addr.mk gv 0 none).add 0)=some (.pointer x7)∧
 ∃x9:Int,wv.cell? ((Addr.mk gv 0 none).add 1)=some (.int .i64 x9)∧
 ∃Jy:Int,wv.cell? ((Addr.mk gv 0 none).add 2)=some (.int .i64 Jy)∧
 Calls prog 136 #[(.pointer x7),(.agg #[(.bool true),(.int .i64 x9)]),(.int .i64 Jy)] wv fun e I2=>
 ∃Ku:Int,∃KD:Int,e= .returned (.tuple #[(.int .u32 Ku),(.int .i64 KD)])∧
 R (.int .u32 Ku) I2
def DM:Ann:= .leaf
theorem PRead_eq(ca:Option Addr)(cb:Int)(cc:Int)(R:ax)(w:World):vW ca cb cc R w=vcF prog aJ [] Tryz.f115 DM [(.agg #[(.pointer ca),(.int .i64 cb),(.int .i64 cc)])] R none w:=by kernel_rfl
theorem vX(ca:Option Addr)(cb:Int)(cc:Int) {R:ax} {w:World}(h:vW ca cb cc R w):Calls prog 115 #[(.agg #[(.pointer ca),(.int .i64 cb),(.int .i64 cc)])] w fun e w'=>∃v,e= .returned v∧R v w':=
 aj Tryz.func115 ar aa ((PRead_eq ca cb cc R w).mp h)
def zq(ca:Option Addr)(cb:Int)(cc:Int)(wv:Int)(R:ax)(w:World):Prop:=
 ∀(gv:Nat)(I2:World),gv=w.heap.size→I2=w.alloc (.cells #[(.pointer ca),(.int .i64 cb),(.int .i64 cc)] 189)→
 ∃x5:Option Addr,I2.cell? ((Addr.mk gv 0 none).add 0)=some (.pointer x5)∧
 ∃x7:Int,I2.cell? ((Addr.mk gv 0 none).add 1)=some (.int .i64 x7)∧
 ∃Jz:Int,I2.cell? ((Addr.mk gv 0 none).add 2)=some (.int .i64 Jz)∧
 Calls prog 15 #[(.pointer x5),(.agg #[(.bool true),(.int .i64 x7)]),(.int .i64 Jz),(.int .u32 wv)] I2 fun e I3=>
 ∃Jy:Int,e= .returned (.int .i64 Jy)∧
 R (.tuple #[]) I3
def FP:Ann:= .leaf
theorem PLay_eq(ca:Option Addr)(cb:Int)(cc:Int)(wv:Int)(R:ax)(w:World):zq ca cb cc wv R w=vcF prog aJ [] Tryz.f116 FP [(.agg #[(.pointer ca),(.int .i64 cb),(.int .i64 cc)]),(.int .u32 wv)] R none w:=by kernel_rfl
theorem xV(ca:Option Addr)(cb:Int)(cc:Int)(wv:Int) {R:ax} {w:World}(h:zq ca cb cc wv R w):Calls prog 116 #[(.agg #[(.pointer ca),(.int .i64 cb),(.int .i64 cc)]),(.int .u32 wv)] w fun e w'=>∃v,e= .returned v∧R v w':=
 aj Tryz.func116 ar aa ((PLay_eq ca cb cc wv R w).mp h)
end
end Go.Proofs.YtfgpafjlcgaimaaGreatDoor
namespace Go.Proofs.YtfgpafjlcgaimaaGreatDoor
open Go.Proofs.Tryz (prog)
open Go Go.RowKit V
open Go.IntKind (i64 u32 u64)
section
section
variable {w:World} {L:dA} {m:Mem}
theorem HT(h:bH w L m)(p o:Int):
 Calls prog 115 #[.agg #[ptr L.g,.int .i64 p,.int .i64 o]] w fun e w'=>∃v,e= .returned v∧v= .int .u32 (m.bQ true p o)∧bH w' L m∧Ch L.X w w':=by
 refine vX _ p o ?_
 intro g1 w1 hg hw
 have hM:=made hg hw
 refine⟨_,hM.blk.at rfl,_,hM.blk.at rfl,_,hM.blk.at rfl,(HY (h.pu hM.pu) true p o).mono ?_⟩
 rintro e w2 ⟨_,rfl,rfl,h2,q⟩
 rw [Mem.HP]at h2
 exact⟨_,_,rfl,rfl,h2,((Ch.refl _ w).made hM).trans q⟩
theorem IJ(h:bH w L m)(p o v:Int)(hv:0≤v∧v<4294967296):
 Calls prog 116 #[.agg #[ptr L.g,.int .i64 p,.int .i64 o],.int .u32 v] w fun e w'=>∃u,e= .returned u∧u= .tuple #[]∧bH w' L (m.write true p o v)∧Ch L.X w w':=by
 refine xV _ p o v ?_
 intro g1 w1 hg hw
 have hM:=made hg hw
 refine⟨_,hM.blk.at rfl,_,hM.blk.at rfl,_,hM.blk.at rfl,(xr (h.pu hM.pu) true p o v hv).mono ?_⟩
 rintro e w2 ⟨_,rfl,rfl,h2,q⟩
 exact⟨_,rfl,rfl,h2,((Ch.refl _ w).made hM).trans q⟩
end
end
end Go.Proofs.YtfgpafjlcgaimaaGreatDoor
namespace Go.Proofs.YtfgpafjlcgaimaaGreatDoor
open Go.Proofs.Tryz (prog)
open Go Go.RowKit V
open Go.IntKind (i64 u32 u64)
section
set_option maxRecDepth 100000
set_option maxHeartbeats 1000000
attribute [local irreducible] Vc2 VcD
attribute [local grind=] Pd.cg Pd.bI Pd.gD Pd.gS Pd.eU Pd.dR Pd.ek Pd.eI Pd.j6 Pd.oJ
attribute [local grind .] Pd.Ok.ent
attribute [local grind→] Pd.Ok.cF
def jz:Ctr Un:=⟨[.one (.int .u32)],[],[],[],fun v K=>(0≤(v:Int)∧(v:Int)<4294967296)∧K ⟨(.tuple #[(.int .i64 (vaI v)),(.int .i64 (vaJ v)),(.int .i64 (vaO v)),(.int .i64 (iX v))]),(some (.t [none,none,none,none])),[],[],[]⟩⟩
def Dh(v:Int)(Q:Ou Un→Prop):Prop:=
 ∃J:Bool→Prop,(
  split (decide (v≥1073741824)) (
   J true) (
   J ((v.tmod 4) !=0)))∧∀(JW:Nat→Value)(Jy:Bool),J Jy→
 split Jy (
  Q ⟨(.tuple #[(.int .i64 0),(.int .i64 0),(.int .i64 0),(.int .i64 91)]),(some (.t [none,none,none,none])),[],[],[]⟩) (
  Q ⟨(.tuple #[(.int .i64 (i64.wrap (v.fdiv (2 ^ 22)))),(.int .i64 (i64.wrap (u32.wrap (BitVec.ofInt u32.bits (v.fdiv (2 ^ 12)) &&& BitVec.ofInt u32.bits 1023).toNat))),(.int .i64 (i64.wrap (u32.wrap (BitVec.ofInt u32.bits (v.fdiv (2 ^ 2)) &&& BitVec.ofInt u32.bits 1023).toNat))),(.int .i64 0)]),(some (.t [none,none,none,none])),[],[],[]⟩)
theorem Di:Vc2 Un prog (aQ []) [] Tryz.f56 (.r' (.two (.two (.node [] (some ⟨[(12,(.one .bool))],[],upN 6 7,[]⟩) [] [] .leaf .leaf) .leaf) .leaf)) [] jz=(∀v,∀Q,(jz.body v Q)→Dh v Q):=by kernel_rfl
theorem Df:LV Un prog 56 jz:=verify Tryz.func56 aa (tb:= []) trivial (by kernel_rfl) (Di.mpr fun v Q h=>by
 obtain⟨I6,h⟩:=h
 exact bq ((decide ((v:Int)≥1073741824)) || (((v:Int).tmod 4:Int) !=0)) (ae (fun c1=>(by grind)) fun c1=>(by grind))<| aM (fun c2=>av h (by(have tm:=Int.tmod_eq_emod_of_nonneg (a:=v) (b:=4) I6.1);rw [tm]at c2;(have h:iX v=91:=by grind [iX]);simp [vaI,vaJ,vaO,h]) rfl rfl) fun c2=>av h (by(have tm:=Int.tmod_eq_emod_of_nonneg (a:=v) (b:=4) I6.1);rw [tm]at c2;(have h:iX v=0:=by grind [iX]);rw [ka,ka,ka,C5 (x:=v / 2 ^ 12) (by omega),C5 (x:=v / 2 ^ 2) (by omega),ak (by omega),ak (by omega),ak (by omega)];simp [vaI,vaJ,vaO,h]) rfl rfl)
def l5:Ctr Un:=⟨[.agg [.int .u32,.bool,.bool]],[],[],[],fun va wr ex K=>(0≤(va:Int)∧(va:Int)<4294967296)∧K ⟨(.tuple #[(.int .u32 (mgW va wr ex)),(.int .i64 (dW va))]),(some (.t [none,none])),[],[],[]⟩⟩
def FI(va:Int)(wr:Bool)(ex:Bool)(Q:Ou Un→Prop):Prop:=
 ∀(gv:Nat),
 ∃J:Bool→Prop,(
  split ((va.tmod 4096) !=0) (
   J true) (
   J (decide (va≥1073741824))))∧∀(Ji:Nat→Value)(LD:Bool),J LD→
 split LD (
  Q ⟨(.tuple #[(.int .u32 0),(.int .i64 91)]),(some (.t [none,none])),[],[],[]⟩) (
  ∀wv:Int,wv=(u32.wrap (BitVec.ofInt u32.bits va ||| BitVec.ofInt u32.bits 1).toNat)→
  split wr (
   ∀I2:Int,I2=(u32.wrap (BitVec.ofInt u32.bits wv ||| BitVec.ofInt u32.bits 2).toNat)→
   split ex (
    ∀I3:Int,I3=(u32.wrap (BitVec.ofInt u32.bits I2 ||| BitVec.ofInt u32.bits 4).toNat)→
    Q ⟨(.tuple #[(.int .u32 I3),(.int .i64 0)]),(some (.t [none,none])),[],[],[]⟩) (
    Q ⟨(.tuple #[(.int .u32 I2),(.int .i64 0)]),(some (.t [none,none])),[],[],[]⟩)) (
   split ex (
    ∀I2:Int,I2=(u32.wrap (BitVec.ofInt u32.bits wv ||| BitVec.ofInt u32.bits 4).toNat)→
    Q ⟨(.tuple #[(.int .u32 I2),(.int .i64 0)]),(some (.t [none,none])),[],[],[]⟩) (
    Q ⟨(.tuple #[(.int .u32 wv),(.int .i64 0)]),(some (.t [none,none])),[],[],[]⟩)))
theorem FJ:Vc2 Un prog (aQ []) [4] Tryz.f23 (.r' (.two (.two (.node [] (some ⟨[(13,(.one .bool))],[],upN 5 9,[]⟩) [] [] .leaf .leaf) .leaf) .leaf)) [] l5=(∀va wr ex,∀Q,(l5.body va wr ex Q)→FI va wr ex Q):=by kernel_rfl
theorem FH:LV Un prog 23 l5:=verify Tryz.func23 aa (tb:= []) trivial (by kernel_rfl) (FJ.mpr fun va wr ex Q h=>by
 obtain⟨I6,h⟩:=h
 exact fun gv=>bq ((((va:Int).tmod 4096:Int) !=0) || (decide ((va:Int)≥1073741824))) (ae (fun c1=>(by grind)) fun c1=>(by grind))<| aM (fun c2=>av h (by(have tm:=Int.tmod_eq_emod_of_nonneg (a:=va) (b:=4096) I6.1);rw [tm]at c2;(have h:dW va=91:=by grind [dW]);simp [mgW,h]) rfl rfl) fun c2=>allEq<| ae (fun c3=>allEq<| ae (fun c4=>allEq<| av h (by(have tm:=Int.tmod_eq_emod_of_nonneg (a:=va) (b:=4096) I6.1);rw [tm]at c2;(have h:dW va=0:=by grind [dW]);(have h9:va % 4096=0∧va<1073741824:=by grind [dW]);rw [mZ 0 1 rfl (by decide) I6 (by omega),mZ 1 2 rfl (by decide) (by omega) (by omega),mZ 2 4 rfl (by decide) (by omega) (by omega)];simp [mgW,h,c3,c4]) rfl rfl) fun c4=>av h (by(have tm:=Int.tmod_eq_emod_of_nonneg (a:=va) (b:=4096) I6.1);rw [tm]at c2;(have h:dW va=0:=by grind [dW]);(have h9:va % 4096=0∧va<1073741824:=by grind [dW]);rw [mZ 0 1 rfl (by decide) I6 (by omega),mZ 1 2 rfl (by decide) (by omega) (by omega)];simp [mgW,h,c3,c4]) rfl rfl) fun c3=>ae (fun c5=>allEq<| av h (by(have tm:=Int.tmod_eq_emod_of_nonneg (a:=va) (b:=4096) I6.1);rw [tm]at c2;(have h:dW va=0:=by grind [dW]);(have h9:va % 4096=0∧va<1073741824:=by grind [dW]);rw [mZ 0 1 rfl (by decide) I6 (by omega),mZ 2 4 rfl (by decide) (by omega) (by omega)];simp [mgW,h,c3,c5]) rfl rfl) fun c5=>av h (by(have tm:=Int.tmod_eq_emod_of_nonneg (a:=va) (b:=4096) I6.1);rw [tm]at c2;(have h:dW va=0:=by grind [dW]);(have h9:va % 4096=0∧va<1073741824:=by grind [dW]);rw [mZ 0 1 rfl (by decide) I6 (by omega)];simp [mgW,h,c3,c5]) rfl rfl)
def er:Ctr Un:=⟨[.one (.int .u32)],[],[],[],fun v K=>(0≤(v:Int)∧(v:Int)<4294967296)∧K ⟨(.tuple #[(.agg #[(.int .u32 (aF v)),(.bool (paW v)),(.bool (paX v))]),(.int .i64 (eS v))]),(some (.t [none,none])),[],[],[]⟩⟩
def DN(v:Int)(Q:Ou Un→Prop):Prop:=
 ∀(gv:Nat),
 ∀(I8:Nat),
 (0≤(u32.wrap (BitVec.ofInt u32.bits v &&& ~~~(BitVec.ofInt u32.bits 4095)).toNat)∧(u32.wrap (BitVec.ofInt u32.bits v &&& ~~~(BitVec.ofInt u32.bits 4095)).toNat)<4294967296)∧
 ∃J:Bool→Prop,(
  split ((dW (u32.wrap (BitVec.ofInt u32.bits v &&& ~~~(BitVec.ofInt u32.bits 4095)).toNat)) !=0) (
   J true) (
   J ((mgW (u32.wrap (BitVec.ofInt u32.bits v &&& ~~~(BitVec.ofInt u32.bits 4095)).toNat) ((u32.wrap (BitVec.ofInt u32.bits v &&& BitVec.ofInt u32.bits 2).toNat) !=0) ((u32.wrap (BitVec.ofInt u32.bits v &&& BitVec.ofInt u32.bits 4).toNat) !=0)) !=v)))∧∀(KH:Nat→Value)(M0:Bool),J M0→
 split M0 (
  Q ⟨(.tuple #[(.agg #[(.int .u32 0),(.bool false),(.bool false)]),(.int .i64 142)]),(some (.t [none,none])),[],[],[]⟩) (
  Q ⟨(.tuple #[(.agg #[(.int .u32 (u32.wrap (BitVec.ofInt u32.bits v &&& ~~~(BitVec.ofInt u32.bits 4095)).toNat)),(.bool ((u32.wrap (BitVec.ofInt u32.bits v &&& BitVec.ofInt u32.bits 2).toNat) !=0)),(.bool ((u32.wrap (BitVec.ofInt u32.bits v &&& BitVec.ofInt u32.bits 4).toNat) !=0))]),(.int .i64 0)]),(some (.t [none,none])),[],[],[]⟩)
theorem DO:Vc2 Un prog (aQ [(23,l5)]) [] Tryz.f8 (.r' (.r' (.two (.r' (.two (.node [] (some ⟨[(27,(.one .bool))],[],upN 21 7,[]⟩) [] [] .leaf .leaf) .leaf)) .leaf))) [] er=(∀v,∀Q,(er.body v Q)→DN v Q):=by kernel_rfl
theorem pU:LV Un prog 8 er:=verify Tryz.func8 aa (tb:= [(23,l5)]) ⟨FH,trivial⟩ (by kernel_rfl) (DO.mpr fun v Q h=>by
 obtain⟨I6,h⟩:=h
 exact fun gv I8=>af (gK _) fun s1=>bq ((((dW (u32.wrap (BitVec.ofInt u32.bits v &&& ~~~(BitVec.ofInt u32.bits 4095)).toNat)):Int) !=0) || (((mgW (u32.wrap (BitVec.ofInt u32.bits v &&& ~~~(BitVec.ofInt u32.bits 4095)).toNat) ((u32.wrap (BitVec.ofInt u32.bits v &&& BitVec.ofInt u32.bits 2).toNat:Int) !=0) ((u32.wrap (BitVec.ofInt u32.bits v &&& BitVec.ofInt u32.bits 4).toNat:Int) !=0)):Int) !=v)) (ae (fun c1=>(by grind)) fun c1=>(by grind))<| aM (fun c2=>av h (by rw [zl I6,dz 1 2 (by decide) (by omega) I6,dz 2 4 (by decide) (by omega) I6]at c2;(have h:qm v=false:=by grind [qm]);simp [aF,paW,paX,eS,h]) rfl rfl) fun c2=>av h (by rw [zl I6,dz 1 2 (by decide) (by omega) I6,dz 2 4 (by decide) (by omega) I6]at c2 ⊢;(have h:qm v=true:=by grind [qm]);simp [aF,paW,paX,eS,h]) rfl rfl)
def ep:Ctr Un:=⟨[.agg [.any,.int .i64,.int .i64]],[(0,0)],[.ob 0 []],[0],fun pv ah off rm m K=>pv=Value.pointer (some (Addr.mk (rm 0) 0 none))∧K ⟨(.int .u32 (m.bQ true ah off)),none,[.ob 0 m],[],[]⟩⟩
theorem l7:LV Un prog 115 ep:=by
 show ∀(pv:Value)(ah:Int)(off:Int)(rm:Nat→Nat)(m:Mem),∀Q:Ou Un→Prop,(pv=Value.pointer (some (Addr.mk (rm 0) 0 none))∧Q ⟨(.int .u32 (m.bQ true ah off)),none,[.ob 0 m],[],[]⟩)→∀(X:Nat→Nat→Prop)(w:World),Sat (U:=Un) [(.ob 0 rm m)] X w→aw (U:=Un) [(.ob 0 rm m)] fr0 []→Calls prog 115 #[(.agg #[pv,(.int .i64 ah),(.int .i64 off)])] w (bn (U:=Un) [(.ob 0 rm m)] [0] X w Q)
 intro pv ah off rm m Q hQ X w hs hl
 obtain⟨rfl,hQ⟩:=hQ
 obtain⟨L,hg,hM,hX⟩:=oO hs
 rw [hg]
 refine(HT hM ah off).mono ?_
 rintro e w' ⟨u,rfl,rfl,h2,q⟩
 exact bn.one (Z:=X 0) (q.mono fun k hk=>(hX k).1 hk) (show cT 0 rm _ (X 0) w' from⟨L,hg,hX,h2⟩) (fun k hk=>.inl hk) hQ trivial
def pV:Ctr Un:=⟨[.agg [.any,.int .i64,.int .i64],.one (.int .u32)],[(0,0)],[.ob 0 []],[0],fun pv ah off v rm m K=>pv=Value.pointer (some (Addr.mk (rm 0) 0 none))∧(0≤(v:Int)∧(v:Int)<4294967296)∧K ⟨(.tuple #[]),(some (.t [])),[.ob 0 (m.write true ah off v)],[],[]⟩⟩
theorem DP:LV Un prog 116 pV:=by
 show ∀(pv:Value)(ah:Int)(off:Int)(v:Int)(rm:Nat→Nat)(m:Mem),∀Q:Ou Un→Prop,(pv=Value.pointer (some (Addr.mk (rm 0) 0 none))∧(0≤(v:Int)∧(v:Int)<4294967296)∧Q ⟨(.tuple #[]),(some (.t [])),[.ob 0 (m.write true ah off v)],[],[]⟩)→∀(X:Nat→Nat→Prop)(w:World),Sat (U:=Un) [(.ob 0 rm m)] X w→aw (U:=Un) [(.ob 0 rm m)] fr0 []→Calls prog 116 #[(.agg #[pv,(.int .i64 ah),(.int .i64 off)]),(.int .u32 v)] w (bn (U:=Un) [(.ob 0 rm m)] [0] X w Q)
 intro pv ah off v rm m Q hQ X w hs hl
 obtain⟨rfl,hv,hQ⟩:=hQ
 obtain⟨L,hg,hM,hX⟩:=oO hs
 rw [hg]
 refine(IJ hM ah off v hv).mono ?_
 rintro e w' ⟨u,rfl,rfl,h2,q⟩
 exact bn.one (Z:=X 0) (q.mono fun k hk=>(hX k).1 hk) (show cT 0 rm _ (X 0) w' from⟨L,hg,hX,h2⟩) (fun k hk=>.inl hk) hQ (KnO.tup _ (by simp))
def pX:Ctr Un:=⟨[.one (.obj 0 0),.one (.int .i64),.one (.int .i64)],[],[.ob 1 [(1,1,0)],.ob 0 []],[],fun ah off r E rm m K=>K ⟨(.agg #[(.func (.func 115) #[(.agg #[(.pointer (some (Addr.mk (rm 0) 0 none))),(.int .i64 ah),(.int .i64 off)])] #[]),(.func (.func 116) #[(.agg #[(.pointer (some (Addr.mk (rm 0) 0 none))),(.int .i64 ah),(.int .i64 off)])] #[])]),none,[],[],[]⟩⟩
def Iy(ah:Int)(off:Int)(r:Nat→Nat)(E:Pd)(rm:Nat→Nat)(m:Mem)(Q:Ou Un→Prop):Prop:=
 Pd.Ok E→
 Mem.Wf m→
 ∀(gv:Nat),
 (some (.pointer (some (Addr.mk (rm 0) 0 none))):Option Value)=some (.pointer (some (Addr.mk (rm 0) 0 none)))∧
 ∀(I8:Nat),
 Q ⟨(.agg #[(.func (.func 115) #[(.agg #[(.pointer (some (Addr.mk (rm 0) 0 none))),(.int .i64 ah),(.int .i64 off)])] #[]),(.func (.func 116) #[(.agg #[(.pointer (some (Addr.mk (rm 0) 0 none))),(.int .i64 ah),(.int .i64 off)])] #[])]),none,[],[],[]⟩
theorem Iz:Vc2 Un prog (aQ [(11,cD)]) [] Tryz.f58 .leaf [] pX=(∀ah off r (E:Pd) rm (m:Mem),∀Q,(pX.body ah off r E rm m Q)→Iy ah off r E rm m Q):=by kernel_rfl
theorem Gr:LV Un prog 58 pX:=verify Tryz.func58 aa (tb:= [(11,cD)]) ⟨il,trivial⟩ (by kernel_rfl) (Iz.mpr fun ah off r E rm m Q h f1 f2 gv=>af (by rfl) fun s3 I8=>h)
def iT:Ctr Un:=⟨[.one (.obj 0 0),.one (.int .i64),.one (.int .i64),.one (.int .i64)],[],[.ob 1 [(1,1,0)],.ob 0 []],[],fun s p t r E rm m K=>E.n=m.S∧K ⟨(.bool ((E.on m).of p t s)),none,[],[],[]⟩⟩
def FN(s:Int)(p:Int)(t:Int)(r:Nat→Nat)(E:Pd)(rm:Nat→Nat)(m:Mem)(Q:Ou Un→Prop):Prop:=
 Pd.Ok E→
 Mem.Wf m→
 E.n=m.S∧
 ∀(gv:Nat),
 ∃J:Bool→Prop,(
  split (((E.on m).bb p)==0) (
   split (((E.on m).entry p).typ==t) (
    J (((E.on m).entry p).owner==s)) (
    J false)) (
   J false))∧∀(Ji:Nat→Value)(x8:Bool),J x8→
 Q ⟨(.bool x8),none,[],[],[]⟩
theorem FO:Vc2 Un prog (aQ [(16,cE)]) [] Tryz.f104 (.r' (.r' (.two (.node [] (some ⟨[(8,(.one .bool))],[],[8]++upN 17 14,[]⟩) [] [] .leaf .leaf) .leaf))) [] iT=(∀s p t r (E:Pd) rm (m:Mem),∀Q,(iT.body s p t r E rm m Q)→FN s p t r E rm m Q):=by kernel_rfl
section
attribute [local grind=] DB.entry DB.bb DB.of DB.is
theorem zp:LV Un prog 104 iT:=verify Tryz.func104 aa (tb:= [(16,cE)]) ⟨im,trivial⟩ (by kernel_rfl) (FO.mpr fun s p t r E rm m Q h=>by
 obtain⟨I6,h⟩:=h
 exact fun f1 f2=>af ‹_› fun s3 gv=>bq (((((E.on m).bb p):Int)==0) && (((((E.on m).entry p).typ:Int)==t) && ((((E.on m).entry p).owner:Int)==s))) (ae (fun c1=>ae (fun c2=>(by grind)) fun c2=>(by grind)) fun c1=>(by grind))<| bf h (by grind))
end
def fU:Ctr Un:=⟨[.one (.obj 0 0),.one (.int .i64)],[],[.ob 1 [(1,1,0)],.ob 0 []],[1],fun s r E rm m K=>E.n=m.S∧K ⟨(.tuple #[(.int .i64 ((E.on m).tbl s)),(.int .i64 ((E.on m).eA s))]),(some (.t [none,none])),[.ob 0 m],[],[]⟩⟩
def DK(s:Int)(r:Nat→Nat)(E:Pd)(rm:Nat→Nat)(m:Mem)(Q:Ou Un→Prop):Prop:=
 Pd.Ok E→
 Mem.Wf m→
 E.n=m.S∧
 ∀(gv:Nat),
 ∀JD:Bool,JD=((((E.on m).bb s):Int) !=0)→
 split JD (
  Q ⟨(.tuple #[(.int .i64 0),(.int .i64 5)]),(some (.t [none,none])),[.ob 0 m],[],[]⟩) (
  ∀La:Bool,La=((((E.on m).entry s).typ:Int) !=1)→
  split La (
   Q ⟨(.tuple #[(.int .i64 0),(.int .i64 124)]),(some (.t [none,none])),[.ob 0 m],[],[]⟩) (
   ∀Jo:Bool,Jo=((((E.on m).entry s).state:Int)==3)→
   split Jo (
    Q ⟨(.tuple #[(.int .i64 0),(.int .i64 3)]),(some (.t [none,none])),[.ob 0 m],[],[]⟩) (
    (.pointer (some (Addr.mk (rm 0) 0 none)))=Value.pointer (some (Addr.mk (rm 0) 0 none))∧
    ∀(m1:Mem),m1=m→
    Mem.Wf m1→
    ∃J:Bool→Prop,(
     E.n=m1.S∧
     split (decide ((i64.wrap (m.bQ true s 0))≥(E.on m1).S)) (
      J true) (
      E.n=m1.S∧
      J (!((E.on m1).of (i64.wrap (m.bQ true s 0)) 3 s))))∧∀(Ji:Nat→Value)(KC:Bool),J KC→
    split KC (
     Q ⟨(.tuple #[(.int .i64 0),(.int .i64 124)]),(some (.t [none,none])),[.ob 0 m1],[],[]⟩) (
     Q ⟨(.tuple #[(.int .i64 (i64.wrap (m.bQ true s 0))),(.int .i64 0)]),(some (.t [none,none])),[.ob 0 m1],[],[]⟩))))
theorem DL:Vc2 Un prog (aQ [(16,cE),(58,pX),(115,ep),(62,fY),(104,iT)]) [15,18,22] Tryz.f54 (.r' (.r' (.r' (.r' (.two (.two (.node [] (some ⟨[(43,(.one .bool))],[],upN 31 13,[]⟩) [] [] .leaf .leaf) .leaf) .leaf))))) [] fU=(∀s r (E:Pd) rm (m:Mem),∀Q,(fU.body s r E rm m Q)→DK s r E rm m Q):=by kernel_rfl
section
attribute [local grind=] DB.entry DB.bb DB.of DB.is DB.tbl DB.eA DB.word
theorem vV:LV Un prog 54 fU:=verify Tryz.func54 aa (tb:= [(16,cE),(58,pX),(115,ep),(62,fY),(104,iT)]) ⟨im,Gr,l7,qd,zp,trivial⟩ (by kernel_rfl) (DL.mpr fun s r E rm m Q h=>by
 obtain⟨I6,h⟩:=h
 exact fun f1 f2=>(by(have hwr:=fun(p o:Int)=>eP (E:=E) f2 p o);(have hwi:=fun(p o:Int)=>ak (x:=m.bQ true p o) (by have:=hwr p o;simp only [DB.word,Pd.dR]at this;omega));exact af ‹_› fun s3 gv=>allEq<| aG (fun c1=>av h (congrArg (fun l=>Value.tuple (List.toArray l)) (ab (aW (by grind)) (ab (aW (by grind)) rfl))) rfl rfl) fun c1=>allEq<| aG (fun c2=>av h (congrArg (fun l=>Value.tuple (List.toArray l)) (ab (aW (by grind)) (ab (aW (by grind)) rfl))) rfl rfl) fun c2=>allEq<| aE (fun c3=>av h (congrArg (fun l=>Value.tuple (List.toArray l)) (ab (aW (by grind)) (ab (aW (by grind)) rfl))) rfl rfl) fun c3=>af (by grind) fun s4 m1 I9 f5=>bq ((decide ((i64.wrap (m.bQ true s 0):Int)≥((E.on m1).S:Int))) || (!((E.on m1).of (i64.wrap (m.bQ true s 0)) 3 s))) (af (by grind) fun s6=>ae (fun c4=>(by grind)) fun c4=>af ‹_› fun s7=>(by grind))<| aM (fun c5=>(by subst I9;have hwq:=hwi s 0;exact av h (congrArg (fun l=>Value.tuple (List.toArray l)) (ab (aW (by grind)) (ab (aW (by grind)) rfl))) (ab (uO0 (by grind)) rfl) rfl)) fun c5=>(by subst I9;have hwq:=hwi s 0;exact av h (congrArg (fun l=>Value.tuple (List.toArray l)) (ab (aW (by grind)) (ab (aW (by grind)) rfl))) (ab (uO0 (by grind)) rfl) rfl)))
end
def ib:Ctr Un:=⟨[.one (.obj 0 0),.one (.int .i64),.one (.int .u32)],[],[.ob 1 [(1,1,0)],.ob 0 []],[],fun s v r E rm m K=>E.n=m.S∧(0≤(v:Int)∧(v:Int)<4294967296)∧K ⟨(.tuple #[(.int .i64 (aL v)),(.bool ((E.on m).qQ s v))]),(some (.t [none,none])),[],[],[]⟩⟩
def Bc(s:Int)(v:Int)(r:Nat→Nat)(E:Pd)(rm:Nat→Nat)(m:Mem)(Q:Ou Un→Prop):Prop:=
 Pd.Ok E→
 Mem.Wf m→
 (0≤v∧v<4294967296)∧
 ∃J:Int→Bool→Prop,(
  split ((iZ v)==0) (
   E.n=m.S∧
   J (aL v) ((E.on m).of (aL v) 4 s)) (
   J (aL v) false))∧∀(JW:Nat→Value) x6 (x7:Bool),J x6 x7→
 Q ⟨(.tuple #[(.int .i64 x6),(.bool x7)]),(some (.t [none,none])),[],[],[]⟩
theorem Bd:Vc2 Un prog (aQ [(114,cv),(104,iT)]) [] Tryz.f57 (.r' (.r' (.two (.node [] (some ⟨[(6,(.one (.int .i64))),(7,(.one .bool))],[],[6,7]++upN 15 9,[]⟩) [] [] .leaf .leaf) .leaf))) [] ib=(∀s v r (E:Pd) rm (m:Mem),∀Q,(ib.body s v r E rm m Q)→Bc s v r E rm m Q):=by kernel_rfl
section
attribute [local grind=] DB.entry DB.bb DB.of DB.is DB.qQ
theorem Bb:LV Un prog 57 ib:=verify Tryz.func57 aa (tb:= [(114,cv),(104,iT)]) ⟨kg,zp,trivial⟩ (by kernel_rfl) (Bd.mpr fun s v r E rm m Q h=>by
 obtain⟨I6,Ja,h⟩:=h
 exact fun f1 f2=>af ‹_› fun s3=>dup2<| aE (fun c1=>af ‹_› fun s4=>av h (congrArg (fun l=>Value.tuple (List.toArray l)) (ab rfl (ab (eQb (by grind)) rfl))) rfl rfl) fun c1=>av h (congrArg (fun l=>Value.tuple (List.toArray l)) (ab rfl (ab (eQb (by grind)) rfl))) rfl rfl)
end
section
attribute [local grind=] DB.entry DB.bb DB.of DB.is DB.word DB.Dd DB.add Pd.jn Mem.cV
end
def fy:Ctr Un:=⟨[.one (.obj 0 0),.one (.int .i64),.one (.int .u32)],[],[.ob 1 [(1,1,0)],.ob 0 []],[1],fun s va r E rm m K=>E.n=m.S∧(0≤(va:Int)∧(va:Int)<4294967296)∧split (decide ((E.on m).cG s va=0)) (K ⟨(.tuple #[(.agg #[(.func (.func 115) #[(.agg #[(.pointer (some (Addr.mk (rm 0) 0 none))),(.int .i64 ((E.on m).plP s va)),(.int .i64 (vaJ va))])] #[]),(.func (.func 116) #[(.agg #[(.pointer (some (Addr.mk (rm 0) 0 none))),(.int .i64 ((E.on m).plP s va)),(.int .i64 (vaJ va))])] #[])]),(.int .i64 0)]),(some (.t [none,none])),[.ob 0 m],[],[]⟩) (K ⟨(.tuple #[(.agg #[.nilFunc,.nilFunc]),(.int .i64 ((E.on m).cG s va))]),(some (.t [none,none])),[.ob 0 m],[],[]⟩)⟩
def FT(s:Int)(va:Int)(r:Nat→Nat)(E:Pd)(rm:Nat→Nat)(m:Mem)(Q:Ou Un→Prop):Prop:=
 Pd.Ok E→
 Mem.Wf m→
 ∀(gv:Nat),
 E.n=m.S∧
 ∀(m1:Mem),m1=m→
 Mem.Wf m1→
 split (((E.on m).eA s) !=0) (
  Q ⟨(.tuple #[(.agg #[.nilFunc,.nilFunc]),(.int .i64 ((E.on m).eA s))]),(some (.t [none,none])),[.ob 0 m1],[],[]⟩) (
  (0≤va∧va<4294967296)∧
  split ((iX va) !=0) (
   Q ⟨(.tuple #[(.agg #[.nilFunc,.nilFunc]),(.int .i64 91)]),(some (.t [none,none])),[.ob 0 m1],[],[]⟩) (
   (.pointer (some (Addr.mk (rm 0) 0 none)))=Value.pointer (some (Addr.mk (rm 0) 0 none))∧
   ∀(m2:Mem),m2=m1→
   Mem.Wf m2→
   E.n=m2.S∧
   (0≤(m1.bQ true ((E.on m).tbl s) (vaI va))∧(m1.bQ true ((E.on m).tbl s) (vaI va))<4294967296)∧
   split (!((E.on m2).qQ s (m1.bQ true ((E.on m).tbl s) (vaI va)))) (
    Q ⟨(.tuple #[(.agg #[.nilFunc,.nilFunc]),(.int .i64 141)]),(some (.t [none,none])),[.ob 0 m2],[],[]⟩) (
    Q ⟨(.tuple #[(.agg #[(.func (.func 115) #[(.agg #[(.pointer (some (Addr.mk (rm 0) 0 none))),(.int .i64 (aL (m1.bQ true ((E.on m).tbl s) (vaI va)))),(.int .i64 (vaJ va))])] #[]),(.func (.func 116) #[(.agg #[(.pointer (some (Addr.mk (rm 0) 0 none))),(.int .i64 (aL (m1.bQ true ((E.on m).tbl s) (vaI va)))),(.int .i64 (vaJ va))])] #[])]),(.int .i64 0)]),(some (.t [none,none])),[.ob 0 m2],[],[]⟩)))
theorem FU:Vc2 Un prog (aQ [(54,fU),(56,jz),(58,pX),(115,ep),(57,ib)]) [] Tryz.f25 .leaf [] fy=(∀s va r (E:Pd) rm (m:Mem),∀Q,(fy.body s va r E rm m Q)→FT s va r E rm m Q):=by kernel_rfl
section
attribute [local grind=] DB.entry DB.bb DB.of DB.is DB.word DB.cG DB.plP DB.bx
theorem tv:LV Un prog 25 fy:=verify Tryz.func25 aa (tb:= [(54,fU),(56,jz),(58,pX),(115,ep),(57,ib)]) ⟨vV,Df,Gr,l7,Bb,trivial⟩ (by kernel_rfl) (FU.mpr fun s va r E rm m Q h=>by
 obtain⟨I6,Ja,h⟩:=h
 exact fun f1 f2 gv=>af ‹_› fun s3 m1 I9 f4=>aG (fun c1=>av (fz h (by grind)) (congrArg (fun l=>Value.tuple (List.toArray l)) (ab rfl (ab (aW (by grind)) rfl))) (ab (uO0 (by grind)) rfl) rfl) fun c1=>af ‹_› fun s5=>aG (fun c2=>av (fz h (by grind)) (congrArg (fun l=>Value.tuple (List.toArray l)) (ab rfl (ab (aW (by grind)) rfl))) (ab (uO0 (by grind)) rfl) rfl) fun c2=>af (by grind) fun s6 m2 Ke f7=>af (by grind) fun s8=>af (uq ‹_› _ _ _) fun s9=>aY (fun c3=>av (fz h (by grind)) (congrArg (fun l=>Value.tuple (List.toArray l)) (ab rfl (ab (aW (by grind)) rfl))) (ab (uO0 (by grind)) rfl) rfl) fun c3=>av (ml h (by grind)) (congrArg (fun l=>Value.tuple (List.toArray l)) (ab (congrArg (fun l=>Value.agg (List.toArray l)) (ab (by grind) (ab (by grind) rfl))) (ab rfl rfl))) (ab (uO0 (by grind)) rfl) rfl)
end
def iU:Ctr Un:=⟨[.one (.obj 0 0),.one (.int .i64),.one (.int .u32)],[],[.ob 1 [(1,1,0)],.ob 0 []],[1],fun s va r E rm m K=>E.n=m.S∧(0≤(va:Int)∧(va:Int)<4294967296)∧split (decide ((E.on m).bx s va=0)) (K ⟨(.tuple #[(.agg #[(.func (.func 115) #[(.agg #[(.pointer (some (Addr.mk (rm 0) 0 none))),(.int .i64 ((E.on m).plP s va)),(.int .i64 (vaJ va))])] #[]),(.func (.func 116) #[(.agg #[(.pointer (some (Addr.mk (rm 0) 0 none))),(.int .i64 ((E.on m).plP s va)),(.int .i64 (vaJ va))])] #[])]),(.int .i64 0)]),(some (.t [none,none])),[.ob 0 m],[],[]⟩) (K ⟨(.tuple #[(.agg #[.nilFunc,.nilFunc]),(.int .i64 ((E.on m).bx s va))]),(some (.t [none,none])),[.ob 0 m],[],[]⟩)⟩
def FQ(s:Int)(va:Int)(r:Nat→Nat)(E:Pd)(rm:Nat→Nat)(m:Mem)(Q:Ou Un→Prop):Prop:=
 Pd.Ok E→
 Mem.Wf m→
 ∀(gv:Nat),
 E.n=m.S∧
 (0≤va∧va<4294967296)∧
 split (decide ((E.on m).cG s va=0)) (
  ∀(m1:Mem),m1=m→
  Mem.Wf m1→
  ∀(I8:Nat),
  (.pointer (some (Addr.mk (rm 0) 0 none)))=Value.pointer (some (Addr.mk (rm 0) 0 none))∧
  ∀(m2:Mem),m2=m1→
  Mem.Wf m2→
  split ((m1.bQ true ((E.on m).plP s va) (vaJ va)) !=0) (
   Q ⟨(.tuple #[(.agg #[.nilFunc,.nilFunc]),(.int .i64 140)]),(some (.t [none,none])),[.ob 0 m2],[],[]⟩) (
   Q ⟨(.tuple #[(.agg #[(.func (.func 115) #[(.agg #[(.pointer (some (Addr.mk (rm 0) 0 none))),(.int .i64 ((E.on m).plP s va)),(.int .i64 (vaJ va))])] #[]),(.func (.func 116) #[(.agg #[(.pointer (some (Addr.mk (rm 0) 0 none))),(.int .i64 ((E.on m).plP s va)),(.int .i64 (vaJ va))])] #[])]),(.int .i64 0)]),(some (.t [none,none])),[.ob 0 m2],[],[]⟩)) (
  ∀(m1:Mem),m1=m→
  Mem.Wf m1→
  ∀(I8:Nat),
  split (((E.on m).cG s va) !=0) (
   Q ⟨(.tuple #[(.agg #[.nilFunc,.nilFunc]),(.int .i64 ((E.on m).cG s va))]),(some (.t [none,none])),[.ob 0 m1],[],[]⟩) (
   False))
theorem FR:Vc2 Un prog (aQ [(25,fy),(115,ep)]) [] Tryz.f158 .leaf [] iU=(∀s va r (E:Pd) rm (m:Mem),∀Q,(iU.body s va r E rm m Q)→FQ s va r E rm m Q):=by kernel_rfl
section
attribute [local grind=] DB.entry DB.bb DB.of DB.is DB.word DB.cG DB.plP DB.bx
theorem zr:LV Un prog 158 iU:=verify Tryz.func158 aa (tb:= [(25,fy),(115,ep)]) ⟨tv,l7,trivial⟩ (by kernel_rfl) (FR.mpr fun s va r E rm m Q h=>by
 obtain⟨I6,Ja,h⟩:=h
 exact fun f1 f2 gv=>af ‹_› fun s3=>af ‹_› fun s4=>aB (fun c1 m1 I9 f5 I8=>af (by grind) fun s6 m2 Ke f7=>aG (fun c2=>av (fz h (by grind)) (congrArg (fun l=>Value.tuple (List.toArray l)) (ab rfl (ab (aW (by grind)) rfl))) (ab (uO0 (by grind)) rfl) rfl) fun c2=>av (ml h (by grind)) rfl (ab (uO0 (by grind)) rfl) rfl) fun c1 m1 I9 f8 I8=>aG (fun c3=>av (fz h (by grind)) (congrArg (fun l=>Value.tuple (List.toArray l)) (ab rfl (ab (aW (by grind)) rfl))) (ab (uO0 (by grind)) rfl) rfl) fun c3=>(by exfalso;omega))
end
def l6:Ctr Un:=⟨[.one (.obj 0 0),.one (.int .i64),.one (.int .u32)],[],[.ob 1 [(1,1,0)],.ob 0 []],[1],fun s va r E rm m K=>E.n=m.S∧(0≤(va:Int)∧(va:Int)<4294967296)∧K ⟨(.int .i64 ((E.on m).bx s va)),none,[.ob 0 m],[],[]⟩⟩
def FL(s:Int)(va:Int)(r:Nat→Nat)(E:Pd)(rm:Nat→Nat)(m:Mem)(Q:Ou Un→Prop):Prop:=
 Pd.Ok E→
 Mem.Wf m→
 E.n=m.S∧
 (0≤va∧va<4294967296)∧
 split (decide ((E.on m).bx s va=0)) (
  ∀(m1:Mem),m1=m→
  Mem.Wf m1→
  ∀(gv:Nat),
  Q ⟨(.int .i64 0),none,[.ob 0 m1],[],[]⟩) (
  ∀(m1:Mem),m1=m→
  Mem.Wf m1→
  ∀(gv:Nat),
  Q ⟨(.int .i64 ((E.on m).bx s va)),none,[.ob 0 m1],[],[]⟩)
theorem FM:Vc2 Un prog (aQ [(158,iU)]) [] Tryz.f139 .leaf [] l6=(∀s va r (E:Pd) rm (m:Mem),∀Q,(l6.body s va r E rm m Q)→FL s va r E rm m Q):=by kernel_rfl
section
attribute [local grind=] DB.entry DB.bb DB.of DB.is DB.word DB.cG DB.plP DB.bx
theorem FK:LV Un prog 139 l6:=verify Tryz.func139 aa (tb:= [(158,iU)]) ⟨zr,trivial⟩ (by kernel_rfl) (FM.mpr fun s va r E rm m Q h=>by
 obtain⟨I6,Ja,h⟩:=h
 exact fun f1 f2=>af ‹_› fun s3=>af ‹_› fun s4=>aB (fun c1 m1 I9 f5 gv=>av h (aW ‹_›) (ab (uO0 (by grind)) rfl) rfl) fun c1 m1 I9 f6 gv=>av h rfl (ab (uO0 (by grind)) rfl) rfl)
end
def pT:Ctr Un:=⟨[.one (.obj 0 0),.one (.int .i64),.one (.int .u32),.agg [.bool,.int .i64,.bool,.bool]],[],[.ob 1 [(1,1,0)],.ob 0 []],[0,1],fun s va ma mb mc md r E rm m K=>E.n=m.S∧(0≤(va:Int)∧(va:Int)<4294967296)∧K ⟨(.int .i64 ((E.on m).sA s va (Mp.mk ma mb mc md))),none,[.ob 1 (((E.on m).put s va (Mp.mk ma mb mc md)).pd),.ob 0 (((E.on m).put s va (Mp.mk ma mb mc md)).mem)],[],[]⟩⟩
def Hu(s:Int)(va:Int)(ma:Bool)(mb:Int)(mc:Bool)(md:Bool)(r:Nat→Nat)(E:Pd)(rm:Nat→Nat)(m:Mem)(Q:Ou Un→Prop):Prop:=
 Pd.Ok E→
 Mem.Wf m→
 ∀(gv:Nat),
 E.n=m.S∧
 (0≤va∧va<4294967296)∧
 split (decide ((E.on m).bx s va=0)) (
  ∀(m1:Mem),m1=m→
  Mem.Wf m1→
  ∀(I8:Nat),
  split ((Mp.mk ma mb mc md).err !=0) (
   Q ⟨(.int .i64 ((Mp.mk ma mb mc md).err)),none,[.ob 1 E,.ob 0 m1],[],[]⟩) (
   (.pointer (some (Addr.mk (rm 0) 0 none)))=Value.pointer (some (Addr.mk (rm 0) 0 none))∧
   (0≤((Mp.mk ma mb mc md).word)∧((Mp.mk ma mb mc md).word)<4294967296)∧
   ∀(m2:Mem),m2=(m1.write true ((E.on m).plP s va) (vaJ va) ((Mp.mk ma mb mc md).word))→
   Mem.Wf m2→
   Q ⟨(.int .i64 0),none,[.ob 1 E,.ob 0 m2],[],[]⟩)) (
  ∀(m1:Mem),m1=m→
  Mem.Wf m1→
  ∀(I8:Nat),
  split (((E.on m).bx s va) !=0) (
   Q ⟨(.int .i64 ((E.on m).bx s va)),none,[.ob 1 E,.ob 0 m1],[],[]⟩) (
   split ((Mp.mk ma mb mc md).err !=0) (
    Q ⟨(.int .i64 ((Mp.mk ma mb mc md).err)),none,[.ob 1 E,.ob 0 m1],[],[]⟩) (
    False)))
theorem Hv:Vc2 Un prog (aQ [(158,iU),(118,g8),(116,pV)]) [] Tryz.f140 .leaf [] pT=(∀s va ma mb mc md r (E:Pd) rm (m:Mem),∀Q,(pT.body s va ma mb mc md r E rm m Q)→Hu s va ma mb mc md r E rm m Q):=by kernel_rfl
section
attribute [local grind=] DB.entry DB.bb DB.of DB.is DB.word DB.cG DB.plP DB.bx DB.sA DB.put Pd.jn Mem.cV
theorem Ht:LV Un prog 140 pT:=verify Tryz.func140 aa (tb:= [(158,iU),(118,g8),(116,pV)]) ⟨zr,rR,DP,trivial⟩ (by kernel_rfl) (Hv.mpr fun s va ma mb mc md r E rm m Q h=>by
 obtain⟨I6,Ja,h⟩:=h
 exact fun f1 f2 gv=>af ‹_› fun s3=>af ‹_› fun s4=>aB (fun c1 m1 I9 f5 I8=>aG (fun c2=>av h (aW (by grind)) (ab (uO1 (by grind)) (ab (uO0 (by grind)) rfl)) rfl) fun c2=>af (by grind) fun s6=>af (ET _) fun s7 m2 Ke f8=>av h (aW (by grind)) (ab (uO1 (by grind)) (ab (uO0 (by grind)) rfl)) rfl) fun c1 m1 I9 f9 I8=>aG (fun c3=>av h (aW (by grind)) (ab (uO1 (by grind)) (ab (uO0 (by grind)) rfl)) rfl) fun c3=>aG (fun c4=>av h (aW (by omega)) (ab (uO1 (by omega)) (ab (uO0 (by omega)) rfl)) rfl) fun c4=>(by exfalso;omega))
end
end
section
set_option maxRecDepth 100000
def pE(R:ax)(w:World):Prop:=
 ∃x1:Option Nat,∃wv,(Instr.makeMap 139 none:Sem Value).run prog w= .ok (.map x1) wv∧
 ∃I2:World,(Instr.mapUpdate 139 (.map x1) (.int .u32 1) (.func (.func 105) #[] #[]):Sem Unit).run prog wv= .ok () I2∧
 ∃I3:World,(Instr.mapUpdate 139 (.map x1) (.int .u32 2) (.func (.func 106) #[] #[]):Sem Unit).run prog I2= .ok () I3∧
 ∃I5:World,(Instr.mapUpdate 139 (.map x1) (.int .u32 3) (.func (.func 107) #[] #[]):Sem Unit).run prog I3= .ok () I5∧
 ∃Jh:World,(Instr.mapUpdate 139 (.map x1) (.int .u32 4) (.func (.func 108) #[] #[]):Sem Unit).run prog I5= .ok () Jh∧
 ∃Ju:World,(Instr.mapUpdate 139 (.map x1) (.int .u32 5) (.func (.func 109) #[] #[]):Sem Unit).run prog Jh= .ok () Ju∧
 ∃Kf:World,(Instr.mapUpdate 139 (.map x1) (.int .u32 6) (.func (.func 110) #[] #[]):Sem Unit).run prog Ju= .ok () Kf∧
 ∃KA:World,(Instr.mapUpdate 139 (.map x1) (.int .u32 7) (.func (.func 111) #[] #[]):Sem Unit).run prog Kf= .ok () KA∧
 R (.map x1) KA
def xR:Ann:= .leaf
theorem SvCalls_eq(R:ax)(w:World):pE R w=vcF prog aJ [] Tryz.f55 xR [] R none w:=by kernel_rfl
theorem qw {R:ax} {w:World}(h:pE R w):Calls prog 55 #[] w fun e w'=>∃v,e= .returned v∧R v w':=
 aj Tryz.func55 ar aa ((SvCalls_eq R w).mp h)
end
end Go.Proofs.YtfgpafjlcgaimaaGreatDoor
namespace Go.Proofs.YtfgpafjlcgaimaaGreatDoor
open Go.Proofs.Tryz (prog)
open Go Go.RowKit V
open Go.IntKind (i64 u32 u64)
def Fl.r0(f:Fl)(x:Int):Fl:=⟨U32.mk x::aD (fun j=>U32.mk (f.rs.getD (j+1) (U32.mk 0)).v) (upN 0 14),f.pc,f.z,f.n,f.l⟩
def Fl.start(pc a b c:Int):Fl:=⟨[U32.mk a,U32.mk b,U32.mk c,U32.mk 0,U32.mk 0,U32.mk 0,U32.mk 0,U32.mk 0,U32.mk 0,U32.mk 0,U32.mk 0,U32.mk 0,U32.mk 0,U32.mk 0,U32.mk 0],pc,false,false,false⟩
theorem Ey(w:World):Calls prog 55 #[] w fun e w'=>∃v,e= .returned v∧∃g,v= .map (some g)∧kQ w' g clL∧w.heap.size≤g∧Pu w w':=by
 refine qw ?_
 have tm:prog.underlying 139=some (.map 22 137):=by kernel_rfl
 have tk:prog.underlying 22=some (.int .u32):=by kernel_rfl
 have h0:=kQ.made w
 obtain⟨w1,r1,h1,c1⟩:=fG (v:= .func (.func 105) #[] #[]) tm tk h0 (i:=1) rfl
 obtain⟨w2,r2,h2,c2⟩:=fG (v:= .func (.func 106) #[] #[]) tm tk h1 (i:=2) rfl
 obtain⟨w3,r3,h3,c3⟩:=fG (v:= .func (.func 107) #[] #[]) tm tk h2 (i:=3) rfl
 obtain⟨w4,r4,h4,c4⟩:=fG (v:= .func (.func 108) #[] #[]) tm tk h3 (i:=4) rfl
 obtain⟨w5,r5,h5,c5⟩:=fG (v:= .func (.func 109) #[] #[]) tm tk h4 (i:=5) rfl
 obtain⟨w6,r6,h6,c6⟩:=fG (v:= .func (.func 110) #[] #[]) tm tk h5 (i:=6) rfl
 obtain⟨w7,r7,h7,c7⟩:=fG (v:= .func (.func 111) #[] #[]) tm tk h6 (i:=7) rfl
 refine⟨some w.heap.size,_,run_makeMap ..,w1,r1,w2,r2,w3,r3,w4,r4,w5,r5,w6,r6,w7,r7,w.heap.size,rfl,h7,Nat.le_refl _,?_⟩
 have p0:Pu w (w.alloc (.map #[] 0)):=⟨⟨rfl,rfl,rfl,(by show _≤(w.heap.push _).size;rw [Array.size_push];omega),fun k hk=>(MapKept.heap_alloc w _).2 k hk.1⟩⟩
 have q:∀k,k=w.heap.size→False∨w.heap.size≤k:=fun k e=>.inr (by omega)
 exact((((((p0.call c1 q).call c2 q).call c3 q).call c4 q).call c5 q).call c6 q).call c7 q
end Go.Proofs.YtfgpafjlcgaimaaGreatDoor
namespace Go.Proofs.YtfgpafjlcgaimaaGreatDoor
open Go.Proofs.Tryz (prog)
open Go Go.RowKit V
open Go.IntKind (i64 u32 u64)
section
set_option maxRecDepth 100000
set_option maxHeartbeats 1000000
attribute [local irreducible] Vc2 VcD
attribute [local grind=] Pd.cg Pd.bI Pd.gD Pd.gS Pd.eU Pd.dR Pd.ek Pd.eI Pd.j6 Pd.oJ
attribute [local grind .] Pd.Ok.ent
attribute [local grind→] Pd.Ok.cF
def p8:Ctr Un:=⟨[.one (.obj 0 0),.agg [.bool,.int .i64]],[],[.ob 0 []],[0],fun fa fb rm m K=>K ⟨(.tuple #[(.bool (m.blank fa fb)),(.int .i64 (m.bJ fa fb))]),(some (.t [none,none])),[.ob 0 m],[],[]⟩⟩
theorem DZ:LV Un prog 13 p8:=by
 show ∀(fa:Bool)(fb:Int)(rm:Nat→Nat)(m:Mem),∀Q:Ou Un→Prop,(Q ⟨(.tuple #[(.bool (m.blank fa fb)),(.int .i64 (m.bJ fa fb))]),(some (.t [none,none])),[.ob 0 m],[],[]⟩)→∀(X:Nat→Nat→Prop)(w:World),Sat (U:=Un) [(.ob 0 rm m)] X w→aw (U:=Un) [(.ob 0 rm m)] fr0 []→Calls prog 13 #[(.pointer (some (Addr.mk (rm 0) 0 none))),(.agg #[(.bool fa),(.int .i64 fb)])] w (bn (U:=Un) [(.ob 0 rm m)] [0] X w Q)
 intro fa fb rm m Q hQ X w hs hl
 obtain⟨L,hg,hM,hX⟩:=oO hs
 rw [hg]
 refine(G2 hM fa fb).mono ?_
 rintro e w' ⟨u,rfl,rfl,h2,q⟩
 exact bn.one (Z:=X 0) (q.mono fun k hk=>(hX k).1 hk) (show cT 0 rm _ (X 0) w' from⟨L,hg,hX,h2⟩) (fun k hk=>.inl hk) hQ (KnO.tup _ (by simp))
def mL:Ctr Un:=⟨[],[],[],[],fun K=>∀(rN:Nat→Nat),K ⟨(Value.map (some (rN 0))),none,[],[(.ob 12 rN ())],[]⟩⟩
theorem AS:LV Un prog 55 mL:=by
 show ∀Q:Ou Un→Prop,(∀(rN:Nat→Nat),Q ⟨(Value.map (some (rN 0))),none,[],[(.ob 12 rN ())],[]⟩)→∀(X:Nat→Nat→Prop)(w:World),Sat (U:=Un) [] X w→aw (U:=Un) [] fr0 []→Calls prog 55 #[] w (bn (U:=Un) [] [] X w Q)
 intro Q hQ X w hs hl
 refine(Ey w).mono ?_
 rintro e w' ⟨u,rfl,g,rfl,hm,hg,q⟩
 exact bn.more (Z:=fun k=>k=g) hs q (show RS (U:=Un) _ w' (.ob 12 (fun _=>g) ())from⟨fun _=>Iff.rfl,hm⟩) (fun k hk=>hk▸hg) (hQ fun _=>g) trivial
def ic:Ctr Un:=⟨[.one (.obj 0 0),.one (.int .u32)],[],[.ob 1 [(1,1,0)],.ob 0 []],[],fun v r E rm m K=>E.n=m.S∧(0≤(v:Int)∧(v:Int)<4294967296)∧K ⟨(.tuple #[(.agg #[(.bool (((E.on m).mpd v).aO)),(.int .i64 (((E.on m).mpd v).ah)),(.bool (((E.on m).mpd v).write)),(.bool (((E.on m).mpd v).exec))]),(.int .i64 ((E.on m).kE v))]),(some (.t [none,none])),[],[],[]⟩⟩
def Bf(v:Int)(r:Nat→Nat)(E:Pd)(rm:Nat→Nat)(m:Mem)(Q:Ou Un→Prop):Prop:=
 Pd.Ok E→
 Mem.Wf m→
 ∀(gv:Nat),
 (0≤v∧v<4294967296)∧
 ∀(I8:Nat),
 split ((gi v) !=0) (
  Q ⟨(.tuple #[(.agg #[(.bool false),(.int .i64 0),(.bool false),(.bool false)]),(.int .i64 (gi v))]),(some (.t [none,none])),[],[],[]⟩) (
  split (!(m.has ((bo v).aO) ((bo v).ah))) (
   Q ⟨(.tuple #[(.agg #[(.bool false),(.int .i64 0),(.bool false),(.bool false)]),(.int .i64 90)]),(some (.t [none,none])),[],[],[]⟩) (
   Q ⟨(.tuple #[(.agg #[(.bool ((bo v).aO)),(.int .i64 ((bo v).ah)),(.bool ((bo v).write)),(.bool ((bo v).exec))]),(.int .i64 0)]),(some (.t [none,none])),[],[],[]⟩))
theorem Bg:Vc2 Un prog (aQ [(59,bD),(11,cD),(60,pZ)]) [] Tryz.f26 (.r' (.r' (.r' (.two (.two (.node [] none [] [(3,[3])] .leaf .leaf) .leaf) .leaf)))) [] ic=(∀v r (E:Pd) rm (m:Mem),∀Q,(ic.body v r E rm m Q)→Bf v r E rm m Q):=by kernel_rfl
section
attribute [local grind=] DB.mpd DB.kE
theorem Be:LV Un prog 26 ic:=verify Tryz.func26 aa (tb:= [(59,bD),(11,cD),(60,pZ)]) ⟨fP,il,DX,trivial⟩ (by kernel_rfl) (Bg.mpr fun v r E rm m Q h=>by
 obtain⟨I6,Ja,h⟩:=h
 exact fun f1 f2 gv=>af ‹_› fun s3 I8=>aG (fun c1=>av h (congrArg (fun l=>Value.tuple (List.toArray l)) (ab (congrArg (fun l=>Value.agg (List.toArray l)) (ab (eQb (by grind)) (ab (aW (by grind)) (ab (eQb (by grind)) (ab (eQb (by grind)) rfl))))) (ab (aW (by grind)) rfl))) rfl rfl) fun c1=>aY (fun c2=>av h (congrArg (fun l=>Value.tuple (List.toArray l)) (ab (congrArg (fun l=>Value.agg (List.toArray l)) (ab (eQb (by grind)) (ab (aW (by grind)) (ab (eQb (by grind)) (ab (eQb (by grind)) rfl))))) (ab (aW (by grind)) rfl))) rfl rfl) fun c2=>av h (congrArg (fun l=>Value.tuple (List.toArray l)) (ab (congrArg (fun l=>Value.agg (List.toArray l)) (ab (eQb (by grind)) (ab (aW (by grind)) (ab (eQb (by grind)) (ab (eQb (by grind)) rfl))))) (ab (aW (by grind)) rfl))) rfl rfl)
end
def kP:Ctr Un:=⟨[.one (.obj 0 0),.one (.int .i64),.one (.int .u32)],[],[.ob 1 [(1,1,0)],.ob 0 []],[1],fun s va r E rm m K=>E.n=m.S∧(0≤(va:Int)∧(va:Int)<4294967296)∧K ⟨(.tuple #[(.agg #[(.bool (((E.on m).atM s va).aO)),(.int .i64 (((E.on m).atM s va).ah)),(.bool (((E.on m).atM s va).write)),(.bool (((E.on m).atM s va).exec))]),(.int .i64 ((E.on m).ew s va))]),(some (.t [none,none])),[.ob 0 m],[],[]⟩⟩
def Hz(s:Int)(va:Int)(r:Nat→Nat)(E:Pd)(rm:Nat→Nat)(m:Mem)(Q:Ou Un→Prop):Prop:=
 Pd.Ok E→
 Mem.Wf m→
 ∀(gv:Nat),
 E.n=m.S∧
 (0≤va∧va<4294967296)∧
 split (decide ((E.on m).cG s va=0)) (
  ∀(m1:Mem),m1=m→
  Mem.Wf m1→
  ∀(I8:Nat),
  (.pointer (some (Addr.mk (rm 0) 0 none)))=Value.pointer (some (Addr.mk (rm 0) 0 none))∧
  ∀(m2:Mem),m2=m1→
  Mem.Wf m2→
  E.n=m2.S∧
  (0≤(m1.bQ true ((E.on m).plP s va) (vaJ va))∧(m1.bQ true ((E.on m).plP s va) (vaJ va))<4294967296)∧
  Q ⟨(.tuple #[(.agg #[(.bool (((E.on m2).mpd (m1.bQ true ((E.on m).plP s va) (vaJ va))).aO)),(.int .i64 (((E.on m2).mpd (m1.bQ true ((E.on m).plP s va) (vaJ va))).ah)),(.bool (((E.on m2).mpd (m1.bQ true ((E.on m).plP s va) (vaJ va))).write)),(.bool (((E.on m2).mpd (m1.bQ true ((E.on m).plP s va) (vaJ va))).exec))]),(.int .i64 ((E.on m2).kE (m1.bQ true ((E.on m).plP s va) (vaJ va))))]),(some (.t [none,none])),[.ob 0 m2],[],[]⟩) (
  ∀(m1:Mem),m1=m→
  Mem.Wf m1→
  ∀(I8:Nat),
  split (((E.on m).cG s va) !=0) (
   Q ⟨(.tuple #[(.agg #[(.bool false),(.int .i64 0),(.bool false),(.bool false)]),(.int .i64 ((E.on m).cG s va))]),(some (.t [none,none])),[.ob 0 m1],[],[]⟩) (
   False))
theorem HA:Vc2 Un prog (aQ [(25,fy),(115,ep),(26,ic)]) [] Tryz.f12 .leaf [] kP=(∀s va r (E:Pd) rm (m:Mem),∀Q,(kP.body s va r E rm m Q)→Hz s va r E rm m Q):=by kernel_rfl
section
attribute [local grind=] DB.entry DB.bb DB.of DB.is DB.word DB.cG DB.plP DB.bx DB.ew DB.atM
theorem DQ:LV Un prog 12 kP:=verify Tryz.func12 aa (tb:= [(25,fy),(115,ep),(26,ic)]) ⟨tv,l7,Be,trivial⟩ (by kernel_rfl) (HA.mpr fun s va r E rm m Q h=>by
 obtain⟨I6,Ja,h⟩:=h
 exact fun f1 f2 gv=>af ‹_› fun s3=>af ‹_› fun s4=>aB (fun c1 m1 I9 f5 I8=>af (by grind) fun s6 m2 Ke f7=>af (by grind) fun s8=>af (uq ‹_› _ _ _) fun s9=>av h (congrArg (fun l=>Value.tuple (List.toArray l)) (ab (congrArg (fun l=>Value.agg (List.toArray l)) (ab (eQb (by grind)) (ab (aW (by grind)) (ab (eQb (by grind)) (ab (eQb (by grind)) rfl))))) (ab (aW (by grind)) rfl))) (ab (uO0 (by grind)) rfl) rfl) fun c1 m1 I9 f10 I8=>aG (fun c2=>av h (congrArg (fun l=>Value.tuple (List.toArray l)) (ab (congrArg (fun l=>Value.agg (List.toArray l)) (ab (eQb (by grind)) (ab (aW (by grind)) (ab (eQb (by grind)) (ab (eQb (by grind)) rfl))))) (ab (aW (by grind)) rfl))) (ab (uO0 (by grind)) rfl) rfl) fun c2=>(by exfalso;omega))
end
def pW:Ctr Un:=⟨[.one (.obj 0 0),.one (.int .i64),.one (.int .u32)],[],[.ob 1 [(1,1,0)],.ob 0 []],[0,1],fun s va r E rm m K=>E.n=m.S∧(0≤(va:Int)∧(va:Int)<4294967296)∧K ⟨(.int .i64 ((E.on m).o6 s va)),none,[.ob 1 (((E.on m).cut s va).pd),.ob 0 (((E.on m).cut s va).mem)],[],[]⟩⟩
def Hx(s:Int)(va:Int)(r:Nat→Nat)(E:Pd)(rm:Nat→Nat)(m:Mem)(Q:Ou Un→Prop):Prop:=
 Pd.Ok E→
 Mem.Wf m→
 E.n=m.S∧
 (0≤va∧va<4294967296)∧
 split (decide ((E.on m).cG s va=0)) (
  ∀(m1:Mem),m1=m→
  Mem.Wf m1→
  ∀(gv:Nat),
  (.pointer (some (Addr.mk (rm 0) 0 none)))=Value.pointer (some (Addr.mk (rm 0) 0 none))∧
  ∀(m2:Mem),m2=m1→
  Mem.Wf m2→
  split ((m1.bQ true ((E.on m).plP s va) (vaJ va))==0) (
   Q ⟨(.int .i64 92),none,[.ob 1 E,.ob 0 m2],[],[]⟩) (
   (.pointer (some (Addr.mk (rm 0) 0 none)))=Value.pointer (some (Addr.mk (rm 0) 0 none))∧
   (0≤(0:Int)∧(0:Int)<4294967296)∧
   ∀(m3:Mem),m3=(m2.write true ((E.on m).plP s va) (vaJ va) 0)→
   Mem.Wf m3→
   Q ⟨(.int .i64 0),none,[.ob 1 E,.ob 0 m3],[],[]⟩)) (
  ∀(m1:Mem),m1=m→
  Mem.Wf m1→
  ∀(gv:Nat),
  split (((E.on m).cG s va) !=0) (
   Q ⟨(.int .i64 ((E.on m).cG s va)),none,[.ob 1 E,.ob 0 m1],[],[]⟩) (
   False))
theorem Hy:Vc2 Un prog (aQ [(25,fy),(115,ep),(116,pV)]) [] Tryz.f141 .leaf [] pW=(∀s va r (E:Pd) rm (m:Mem),∀Q,(pW.body s va r E rm m Q)→Hx s va r E rm m Q):=by kernel_rfl
section
attribute [local grind=] DB.entry DB.bb DB.of DB.is DB.word DB.cG DB.plP DB.bx DB.o6 DB.cut Pd.jn Mem.cV
theorem Hw:LV Un prog 141 pW:=verify Tryz.func141 aa (tb:= [(25,fy),(115,ep),(116,pV)]) ⟨tv,l7,DP,trivial⟩ (by kernel_rfl) (Hy.mpr fun s va r E rm m Q h=>by
 obtain⟨I6,Ja,h⟩:=h
 exact fun f1 f2=>af ‹_› fun s3=>af ‹_› fun s4=>aB (fun c1 m1 I9 f5 gv=>af (by grind) fun s6 m2 Ke f7=>aE (fun c2=>av h (aW (by grind)) (ab (uO1 (by grind)) (ab (uO0 (by grind)) rfl)) rfl) fun c2=>af ‹_› fun s8=>af (by omega) fun s9 m3 Jj f10=>av h (aW (by grind)) (ab (uO1 (by grind)) (ab (uO0 (by grind)) rfl)) rfl) fun c1 m1 I9 f11 gv=>aG (fun c3=>av h (aW (by grind)) (ab (uO1 (by grind)) (ab (uO0 (by grind)) rfl)) rfl) fun c3=>(by exfalso;omega))
end
def fR:Ctr Un:=⟨[.one (.ptr 0),.one (.int .i64)],[],[.blk [.obj 1 0,.int .i64,.any,.any,.int .u32,.int .u32,.any,.any,.any,.any,.any,.any,.any,.any,.any,.any,.any,.any,.any,.any,.any,.any,.any,.any,.any,.any,.any,.any,.any,.any,.any] 136,.ob 1 [(1,2,0)],.ob 0 []],[],fun t g sp z1 z2 x1 x2 y0 y1 y2 y3 y4 y5 y6 y7 y8 y9 LW LU LS LR LQ LP LO LN LM LL LK LJ LI LH LG r E rm m K=>E.n=m.S∧(0≤(x1:Int)∧(x1:Int)<4294967296)∧(0≤(x2:Int)∧(x2:Int)<4294967296)∧K ⟨(.int .i64 ((E.on m).bZ sp t x1)),none,[],[],[]⟩⟩
def DD(t:Int)(g:Nat)(sp:Int)(z1:Value)(z2:Value)(x1:Int)(x2:Int)(y0:Value)(y1:Value)(y2:Value)(y3:Value)(y4:Value)(y5:Value)(y6:Value)(y7:Value)(y8:Value)(y9:Value)(LW:Value)(LU:Value)(LS:Value)(LR:Value)(LQ:Value)(LP:Value)(LO:Value)(LN:Value)(LM:Value)(LL:Value)(LK:Value)(LJ:Value)(LI:Value)(LH:Value)(LG:Value)(r:Nat→Nat)(E:Pd)(rm:Nat→Nat)(m:Mem)(Q:Ou Un→Prop):Prop:=
 Pd.Ok E→
 Mem.Wf m→
 (0≤(1:Int)∧(1:Int)<(15:Int))∧
 E.n=m.S∧
 split (decide ((u64.wrap x1)≥(u64.wrap (E.on m).S))) (
  Q ⟨(.int .i64 (-1)),none,[],[],[]⟩) (
  E.n=m.S∧
  ∀(gv:Nat),
  ∃J:Bool→Prop,(
   split (((E.on m).entry (i64.wrap x1)).typ !=t) (
    J true) (
    J (((E.on m).entry (i64.wrap x1)).owner !=sp)))∧∀(Ji:Nat→Value)(Pm:Bool),J Pm→
  split Pm (
   Q ⟨(.int .i64 (-1)),none,[],[],[]⟩) (
   Q ⟨(.int .i64 (i64.wrap x1)),none,[],[],[]⟩))
theorem DE:Vc2 Un prog (aQ [(62,fY),(16,cE)]) [] Tryz.f138 (.r' (.r' (.r' (.r' (.two (.two (.node [] (some ⟨[(45,(.one .bool))],[],upN 33 13,[]⟩) [] [] .leaf .leaf) .leaf) .leaf))))) [] fR=(∀t g sp z1 z2 x1 x2 y0 y1 y2 y3 y4 y5 y6 y7 y8 y9 LW LU LS LR LQ LP LO LN LM LL LK LJ LI LH LG r (E:Pd) rm (m:Mem),∀Q,(fR.body t g sp z1 z2 x1 x2 y0 y1 y2 y3 y4 y5 y6 y7 y8 y9 LW LU LS LR LQ LP LO LN LM LL LK LJ LI LH LG r E rm m Q)→DD t g sp z1 z2 x1 x2 y0 y1 y2 y3 y4 y5 y6 y7 y8 y9 LW LU LS LR LQ LP LO LN LM LL LK LJ LI LH LG r E rm m Q):=by kernel_rfl
section
attribute [local grind=] DB.entry DB.bb DB.of DB.is DB.bZ
theorem vN:LV Un prog 138 fR:=verify Tryz.func138 aa (tb:= [(62,fY),(16,cE)]) ⟨qd,im,trivial⟩ (by kernel_rfl) (DE.mpr fun t g sp z1 z2 x1 x2 y0 y1 y2 y3 y4 y5 y6 y7 y8 y9 LW LU LS LR LQ LP LO LN LM LL LK LJ LI LH LG r E rm m Q h=>by
 obtain⟨I6,Ja,Jw,h⟩:=h
 exact fun f1 f2=>(by(have e1:=ak (x:=x1) (by omega));(have e2:=fc (x:=x1) (by omega));(have e3:=fc (x:=((E.on m).S:Int)) (by have:=Pd.oJ E m I6;have:=f2.2.1;omega));exact af (by omega) fun s3=>af ‹_› fun s4=>aB (fun c1=>eo h (by grind)) fun c1=>af ‹_› fun s5 gv=>bq (((((E.on m).entry (i64.wrap x1)).typ:Int) !=t) || ((((E.on m).entry (i64.wrap x1)).owner:Int) !=sp)) (ae (fun c2=>(by grind)) fun c2=>(by grind))<| aM (fun c3=>eo h (by grind)) fun c3=>eo h (by grind)))
end
def hO:Ctr Un:=⟨[.one (.ptr 0)],[],[.blk [.obj 1 0,.int .i64,.any,.any,.int .u32,.int .u32,.any,.any,.any,.any,.any,.any,.any,.any,.any,.any,.any,.any,.any,.any,.any,.any,.any,.any,.any,.any,.any,.any,.any,.any,.any] 136,.ob 1 [(1,2,0)],.ob 0 []],[1,2],fun g sp z1 z2 x1 x2 y0 y1 y2 y3 y4 y5 y6 y7 y8 y9 LW LU LS LR LQ LP LO LN LM LL LK LJ LI LH LG r E rm m K=>E.n=m.S∧(0≤(x1:Int)∧(x1:Int)<4294967296)∧(0≤(x2:Int)∧(x2:Int)<4294967296)∧K ⟨(.int .u32 ((E.on m).ly sp x1 x2)),none,[.ob 1 (((E.on m).lx sp x1 x2).pd),.ob 0 (((E.on m).lx sp x1 x2).mem)],[],[]⟩⟩
def AQ(g:Nat)(sp:Int)(z1:Value)(z2:Value)(x1:Int)(x2:Int)(y0:Value)(y1:Value)(y2:Value)(y3:Value)(y4:Value)(y5:Value)(y6:Value)(y7:Value)(y8:Value)(y9:Value)(LW:Value)(LU:Value)(LS:Value)(LR:Value)(LQ:Value)(LP:Value)(LO:Value)(LN:Value)(LM:Value)(LL:Value)(LK:Value)(LJ:Value)(LI:Value)(LH:Value)(LG:Value)(r:Nat→Nat)(E:Pd)(rm:Nat→Nat)(m:Mem)(Q:Ou Un→Prop):Prop:=
 Pd.Ok E→
 Mem.Wf m→
 E.n=m.S∧
 (0≤x1∧x1<4294967296)∧
 (0≤x2∧x2<4294967296)∧
 split (decide (((E.on m).bZ sp 6 x1)<0)) (
  Q ⟨(.int .u32 18),none,[.ob 1 E,.ob 0 m],[],[]⟩) (
  (0≤(2:Int)∧(2:Int)<(15:Int))∧
  (0≤x2∧x2<4294967296)∧
  ∀(gv:Nat),
  split ((eS x2) !=0) (
   Q ⟨(.int .u32 6),none,[.ob 1 E,.ob 0 m],[],[]⟩) (
   E.n=m.S∧
   (0≤(aF x2)∧(aF x2)<4294967296)∧
   ∀(m1:Mem),m1=m→
   Mem.Wf m1→
   ∀Rz:Bool,Rz=((((E.on m).bx sp (aF x2)):Int)==0)→
   split Rz (
    E.n=m1.S∧
    ∀(E1:Pd),E1=((E.on m1).dZ ((E.on m).bZ sp 6 x1) 5).pd→
    Pd.Ok E1→
    ∀(m2:Mem),m2=((E.on m1).dZ ((E.on m).bZ sp 6 x1) 5).mem→
    Mem.Wf m2→
    E1.n=m2.S∧
    (0≤(aF x2)∧(aF x2)<4294967296)∧
    ∀(E2:Pd),E2=((E1.on m2).put sp (aF x2) (Mp.mk true ((E.on m).bZ sp 6 x1) (paW x2) (paX x2))).pd→
    Pd.Ok E2→
    ∀(m3:Mem),m3=((E1.on m2).put sp (aF x2) (Mp.mk true ((E.on m).bZ sp 6 x1) (paW x2) (paX x2))).mem→
    Mem.Wf m3→
    Q ⟨(.int .u32 0),none,[.ob 1 E2,.ob 0 m3],[],[]⟩) (
    ∀x40:Bool,x40=((((E.on m).bx sp (aF x2)):Int)==140)→
    split x40 (
     Q ⟨(.int .u32 7),none,[.ob 1 E,.ob 0 m1],[],[]⟩) (
     Q ⟨(.int .u32 21),none,[.ob 1 E,.ob 0 m1],[],[]⟩))))
theorem AR:Vc2 Un prog (aQ [(138,fR),(8,er),(139,l6),(40,l9),(140,pT)]) [38,40] Tryz.f107 (.r' (.r' (.r' (.r' (.r' (.two (.two (.node [] none [] [(4,[0]),(9,[0]),(11,[3])] .leaf .leaf) .leaf) (.r' (.two (.node [] none [] [(4,[0]),(9,[0]),(11,[3]),(15,[3]),(17,[3])] .leaf .leaf) .leaf)))))))) [] hO=(∀g sp z1 z2 x1 x2 y0 y1 y2 y3 y4 y5 y6 y7 y8 y9 LW LU LS LR LQ LP LO LN LM LL LK LJ LI LH LG r (E:Pd) rm (m:Mem),∀Q,(hO.body g sp z1 z2 x1 x2 y0 y1 y2 y3 y4 y5 y6 y7 y8 y9 LW LU LS LR LQ LP LO LN LM LL LK LJ LI LH LG r E rm m Q)→AQ g sp z1 z2 x1 x2 y0 y1 y2 y3 y4 y5 y6 y7 y8 y9 LW LU LS LR LQ LP LO LN LM LL LK LJ LI LH LG r E rm m Q):=by kernel_rfl
section
attribute [local grind=] DB.ly DB.lx DB.ur DB.HR
theorem AO:LV Un prog 107 hO:=verify Tryz.func107 aa (tb:= [(138,fR),(8,er),(139,l6),(40,l9),(140,pT)]) ⟨vN,pU,FK,zu,Ht,trivial⟩ (by kernel_rfl) (AR.mpr fun g sp z1 z2 x1 x2 y0 y1 y2 y3 y4 y5 y6 y7 y8 y9 LW LU LS LR LQ LP LO LN LM LL LK LJ LI LH LG r E rm m Q h=>by
 obtain⟨I6,Ja,Jw,h⟩:=h
 exact fun f1 f2=>af ‹_› fun s3=>af ‹_› fun s4=>af ‹_› fun s5=>aB (fun c1=>av h (fu (by grind)) (ab (uO1 (by grind)) (ab (uO0 (by grind)) rfl)) rfl) fun c1=>af (by omega) fun s6=>af ‹_› fun s7 gv=>aG (fun c2=>av h (fu (by grind)) (ab (uO1 (by grind)) (ab (uO0 (by grind)) rfl)) rfl) fun c2=>af ‹_› fun s8=>af (eR ‹_›) fun s9 m1 I9 f10=>allEq<| aE (fun c3=>af (by grind) fun Ly E1 Jn f12 m2 Ke f13=>af (by grind) fun OG=>af (eR ‹_›) fun O4 E2 JA f16 m3 Jj f17=>av h (fu (by grind)) (ab (uO1 (by grind)) (ab (uO0 (by grind)) rfl)) rfl) fun c3=>allEq<| aE (fun c4=>av h (fu (by grind)) (ab (uO1 (by grind)) (ab (uO0 (by grind)) rfl)) rfl) fun c4=>av h (fu (by grind)) (ab (uO1 (by grind)) (ab (uO0 (by grind)) rfl)) rfl)
end
def hH:Ctr Un:=⟨[.one (.ptr 0)],[],[.blk [.obj 1 0,.int .i64,.any,.any,.int .u32,.int .u32,.any,.any,.any,.any,.any,.any,.any,.any,.any,.any,.any,.any,.any,.any,.any,.any,.any,.any,.any,.any,.any,.any,.any,.any,.any] 136,.ob 1 [(1,2,0)],.ob 0 []],[1,2],fun g sp z1 z2 x1 x2 y0 y1 y2 y3 y4 y5 y6 y7 y8 y9 LW LU LS LR LQ LP LO LN LM LL LK LJ LI LH LG r E rm m K=>E.n=m.S∧(0≤(x1:Int)∧(x1:Int)<4294967296)∧(0≤(x2:Int)∧(x2:Int)<4294967296)∧K ⟨(.int .u32 ((E.on m).nB sp x1 x2)),none,[.ob 1 (((E.on m).ku sp x1 x2).pd),.ob 0 (((E.on m).ku sp x1 x2).mem)],[],[]⟩⟩
def AM(g:Nat)(sp:Int)(z1:Value)(z2:Value)(x1:Int)(x2:Int)(y0:Value)(y1:Value)(y2:Value)(y3:Value)(y4:Value)(y5:Value)(y6:Value)(y7:Value)(y8:Value)(y9:Value)(LW:Value)(LU:Value)(LS:Value)(LR:Value)(LQ:Value)(LP:Value)(LO:Value)(LN:Value)(LM:Value)(LL:Value)(LK:Value)(LJ:Value)(LI:Value)(LH:Value)(LG:Value)(r:Nat→Nat)(E:Pd)(rm:Nat→Nat)(m:Mem)(Q:Ou Un→Prop):Prop:=
 Pd.Ok E→
 Mem.Wf m→
 E.n=m.S∧
 (0≤x1∧x1<4294967296)∧
 (0≤x2∧x2<4294967296)∧
 split (decide (((E.on m).bZ sp 5 x1)<0)) (
  Q ⟨(.int .u32 19),none,[.ob 1 E,.ob 0 m],[],[]⟩) (
  (0≤(2:Int)∧(2:Int)<(15:Int))∧
  (0≤x2∧x2<4294967296)∧
  ∀(gv:Nat),
  split ((eS x2) !=0) (
   Q ⟨(.int .u32 6),none,[.ob 1 E,.ob 0 m],[],[]⟩) (
   (E.n=m.S∧
    (0≤(aF x2)∧(aF x2)<4294967296)∧
    ∀(m1:Mem),m1=m→
    Mem.Wf m1→
    ∀(I8:Nat),
    split (((E.on m).ew sp (aF x2))==141) (
     Q ⟨(.int .u32 21),none,[.ob 1 E,.ob 0 m1],[],[]⟩) (
     ∃J:Bool→Prop,(
      split (((E.on m).ew sp (aF x2)) !=0) (
       J true) (
       J (!(aK #[(.bool (((E.on m).atM sp (aF x2)).aO)),(.int .i64 (((E.on m).atM sp (aF x2)).ah)),(.bool (((E.on m).atM sp (aF x2)).write)),(.bool (((E.on m).atM sp (aF x2)).exec))] #[(.bool true),(.int .i64 ((E.on m).bZ sp 5 x1)),(.bool (paW x2)),(.bool (paX x2))]))))∧∀(KH:Nat→Value)(Pk:Bool),J Pk→
     split Pk (
      Q ⟨(.int .u32 7),none,[.ob 1 E,.ob 0 m1],[],[]⟩) (
      E.n=m1.S∧
      (0≤(aF x2)∧(aF x2)<4294967296)∧
      ∀(E1:Pd),E1=((E.on m1).cut sp (aF x2)).pd→
      Pd.Ok E1→
      ∀(m2:Mem),m2=((E.on m1).cut sp (aF x2)).mem→
      Mem.Wf m2→
      E1.n=m2.S∧
      ∀(E2:Pd),E2=((E1.on m2).dZ ((E.on m).bZ sp 5 x1) 6).pd→
      Pd.Ok E2→
      ∀(m3:Mem),m3=((E1.on m2).dZ ((E.on m).bZ sp 5 x1) 6).mem→
      Mem.Wf m3→
      Q ⟨(.int .u32 0),none,[.ob 1 E2,.ob 0 m3],[],[]⟩)))∧
   (∀(I8:Nat),
    E.n=m.S∧
    (0≤(aF x2)∧(aF x2)<4294967296)∧
    ∀(m1:Mem),m1=m→
    Mem.Wf m1→
    split (((E.on m).ew sp (aF x2))==141) (
     Q ⟨(.int .u32 21),none,[.ob 1 E,.ob 0 m1],[],[]⟩) (
     ∃J:Bool→Prop,(
      split (((E.on m).ew sp (aF x2)) !=0) (
       J true) (
       J (!(aK #[(.bool (((E.on m).atM sp (aF x2)).aO)),(.int .i64 (((E.on m).atM sp (aF x2)).ah)),(.bool (((E.on m).atM sp (aF x2)).write)),(.bool (((E.on m).atM sp (aF x2)).exec))] #[(.bool true),(.int .i64 ((E.on m).bZ sp 5 x1)),(.bool (paW x2)),(.bool (paX x2))]))))∧∀(KH:Nat→Value)(Pk:Bool),J Pk→
     split Pk (
      Q ⟨(.int .u32 7),none,[.ob 1 E,.ob 0 m1],[],[]⟩) (
      E.n=m1.S∧
      (0≤(aF x2)∧(aF x2)<4294967296)∧
      ∀(E1:Pd),E1=((E.on m1).cut sp (aF x2)).pd→
      Pd.Ok E1→
      ∀(m2:Mem),m2=((E.on m1).cut sp (aF x2)).mem→
      Mem.Wf m2→
      E1.n=m2.S∧
      ∀(E2:Pd),E2=((E1.on m2).dZ ((E.on m).bZ sp 5 x1) 6).pd→
      Pd.Ok E2→
      ∀(m3:Mem),m3=((E1.on m2).dZ ((E.on m).bZ sp 5 x1) 6).mem→
      Mem.Wf m3→
      Q ⟨(.int .u32 0),none,[.ob 1 E2,.ob 0 m3],[],[]⟩)))))
theorem AN:Vc2 Un prog (aQ [(138,fR),(8,er),(12,kP),(141,pW),(40,l9)]) [] Tryz.f108 (.r' (.r' (.r' (.r' (.r' (.two (.node [] none [] [(4,[0]),(9,[0]),(11,[3])] .leaf .leaf) (.r' (.two (.two (.node [] (some ⟨[(56,(.one .bool))],[],upN 44 13,[]⟩) [] [] .leaf .leaf) .leaf) (.two (.node [] none [] [(4,[0]),(9,[0]),(11,[3])] .leaf .leaf) .leaf))))))))) [] hH=(∀g sp z1 z2 x1 x2 y0 y1 y2 y3 y4 y5 y6 y7 y8 y9 LW LU LS LR LQ LP LO LN LM LL LK LJ LI LH LG r (E:Pd) rm (m:Mem),∀Q,(hH.body g sp z1 z2 x1 x2 y0 y1 y2 y3 y4 y5 y6 y7 y8 y9 LW LU LS LR LQ LP LO LN LM LL LK LJ LI LH LG r E rm m Q)→AM g sp z1 z2 x1 x2 y0 y1 y2 y3 y4 y5 y6 y7 y8 y9 LW LU LS LR LQ LP LO LN LM LL LK LJ LI LH LG r E rm m Q):=by kernel_rfl
section
attribute [local grind=] DB.nB DB.ku DB.ur DB.HR Hb
theorem AL:LV Un prog 108 hH:=verify Tryz.func108 aa (tb:= [(138,fR),(8,er),(12,kP),(141,pW),(40,l9)]) ⟨vN,pU,DQ,Hw,zu,trivial⟩ (by kernel_rfl) (AN.mpr fun g sp z1 z2 x1 x2 y0 y1 y2 y3 y4 y5 y6 y7 y8 y9 LW LU LS LR LQ LP LO LN LM LL LK LJ LI LH LG r E rm m Q h=>by
 obtain⟨I6,Ja,Jw,h⟩:=h
 exact fun f1 f2=>af ‹_› fun s3=>af ‹_› fun s4=>af ‹_› fun s5=>aB (fun c1=>av h (fu (by grind)) (ab (uO1 (by grind)) (ab (uO0 (by grind)) rfl)) rfl) fun c1=>af (by omega) fun s6=>af ‹_› fun s7 gv=>aG (fun c2=>av h (fu (by grind)) (ab (uO1 (by grind)) (ab (uO0 (by grind)) rfl)) rfl) fun c2=>⟨af ‹_› fun s8=>af (eR ‹_›) fun s9 m1 I9 f10 I8=>aE (fun c3=>av h (fu (by grind)) (ab (uO1 (by grind)) (ab (uO0 (by grind)) rfl)) rfl) fun c3=>bq (((((E.on m).ew sp (aF x2)):Int) !=0) || (!(aK #[(.bool (((E.on m).atM sp (aF x2)).aO)),(.int .i64 (((E.on m).atM sp (aF x2)).ah)),(.bool (((E.on m).atM sp (aF x2)).write)),(.bool (((E.on m).atM sp (aF x2)).exec))] #[(.bool true),(.int .i64 ((E.on m).bZ sp 5 x1)),(.bool (paW x2)),(.bool (paX x2))]))) (ae (fun c4=>(by grind)) fun c4=>(by grind))<| aM (fun c5=>av h (fu (by grind)) (ab (uO1 (by grind)) (ab (uO0 (by grind)) rfl)) rfl) fun c5=>af (by grind) fun Ly=>af (eR ‹_›) fun OH E1 Jn f13 m2 Ke f14=>af (by grind) fun O4 E2 JA f16 m3 Jj f17=>av h (fu (by grind)) (ab (uO1 (by grind)) (ab (uO0 (by grind)) rfl)) rfl,fun I8=>af ‹_› fun s18=>af (eR ‹_›) fun UI m1 I9 f20=>aE (fun c6=>av h (fu (by grind)) (ab (uO1 (by grind)) (ab (uO0 (by grind)) rfl)) rfl) fun c6=>bq (((((E.on m).ew sp (aF x2)):Int) !=0) || (!(aK #[(.bool (((E.on m).atM sp (aF x2)).aO)),(.int .i64 (((E.on m).atM sp (aF x2)).ah)),(.bool (((E.on m).atM sp (aF x2)).write)),(.bool (((E.on m).atM sp (aF x2)).exec))] #[(.bool true),(.int .i64 ((E.on m).bZ sp 5 x1)),(.bool (paW x2)),(.bool (paX x2))]))) (ae (fun c7=>(by grind)) fun c7=>(by grind))<| aM (fun c8=>av h (fu (by grind)) (ab (uO1 (by grind)) (ab (uO0 (by grind)) rfl)) rfl) fun c8=>af (by grind) fun s21=>af (eR ‹_›) fun s22 E1 Jn f23 m2 Ke f24=>af (by grind) fun UH E2 JA f26 m3 Jj f27=>av h (fu (by grind)) (ab (uO1 (by grind)) (ab (uO0 (by grind)) rfl)) rfl⟩)
end
def pD:Ctr Un:=⟨[.one (.obj 0 0),.agg [.int .u32,.int .u32,.int .u32,.int .u32,.int .u32,.int .u32,.int .u32,.int .u32],.one (.hdr),.one (.int .i64),.one (.int .u32),.enc 6],[],[.ob 1 [(1,1,0)],.ob 0 []],[0,1],fun k0 k1 k2 k3 k4 k5 k6 k7 wA wN wC t n f r E rm m K=>E.n=m.S∧((n:Int)=3∨(n:Int)=4)∧(E.on m).bk t∧(0≤((f.rs.getD 1 (U32.mk 0)).v:Int)∧((f.rs.getD 1 (U32.mk 0)).v:Int)<4294967296)∧(0≤((f.rs.getD 2 (U32.mk 0)).v:Int)∧((f.rs.getD 2 (U32.mk 0)).v:Int)<4294967296)∧K ⟨(.tuple #[(.agg ⟨Fl.cells (Fl.r0 f (DB.svC (E.on m) n ((E.on m).entry t).owner (f.rs.getD 1 (U32.mk 0)).v (f.rs.getD 2 (U32.mk 0)).v))⟩),(.bool false),(.int .u32 0),(.int .i64 0)]),(some (.t [none,none,none,none])),[.ob 1 ((DB.svD (E.on m) n ((E.on m).entry t).owner (f.rs.getD 1 (U32.mk 0)).v (f.rs.getD 2 (U32.mk 0)).v).pd),.ob 0 ((DB.svD (E.on m) n ((E.on m).entry t).owner (f.rs.getD 1 (U32.mk 0)).v (f.rs.getD 2 (U32.mk 0)).v).mem)],[],[]⟩⟩
def Hr(k0:Int)(k1:Int)(k2:Int)(k3:Int)(k4:Int)(k5:Int)(k6:Int)(k7:Int)(wA:Option Addr)(wN:Nat)(wC:Nat)(t:Int)(n:Int)(f:Fl)(r:Nat→Nat)(E:Pd)(rm:Nat→Nat)(m:Mem)(Q:Ou Un→Prop):Prop:=
 Pd.Ok E→
 Mem.Wf m→
 ∀(gv:Nat),
 ∀(s:List U32),s=([U32.mk k0,U32.mk k1,U32.mk k2,U32.mk k3,U32.mk k4,U32.mk k5,U32.mk k6,U32.mk k7]:List U32)→
 ∀(I8:Nat),
 ∀(s1:Fl),s1=(Fl.norm f)→
 Fl.Ok s1→
 ∀(KU:Nat),
 ∀(s2:Fl),s2=Fl.zero→
 Fl.Ok s2→
 E.n=m.S∧
 ∀(KT:Nat),
 ∃J:Bool→Prop,(
  split (((E.on m).bb t) !=0) (
   J true) (
   J (((E.on m).entry t).typ !=2)))∧∀(KR:Nat→Value)(JX:Bool),J JX→
 split JX (
  True∧
  ∀(s3:Fl),s3=Fl.zero→
  Fl.Ok s3→
  True∧
  Q ⟨(.tuple #[(.agg ⟨Fl.cells s3⟩),(.bool false),(.int .u32 0),(.int .i64 124)]),(some (.t [none,none,none,none])),[.ob 1 E,.ob 0 m],[],[]⟩) (
  E.n=m.S∧
  ∀(Nt:Nat),
  ∃J1:Bool→Prop,(
   split (((E.on m).bb (((E.on m).entry t).owner)) !=0) (
    J1 true) (
    split (((E.on m).entry (((E.on m).entry t).owner)).typ !=1) (
     J1 true) (
     J1 (((E.on m).entry (((E.on m).entry t).owner)).state !=2))))∧∀(_gv6:Nat→Value)(Pk:Bool),J1 Pk→
  split Pk (
   True∧
   ∀(s3:Fl),s3=Fl.zero→
   Fl.Ok s3→
   True∧
   Q ⟨(.tuple #[(.agg ⟨Fl.cells s3⟩),(.bool false),(.int .u32 0),(.int .i64 124)]),(some (.t [none,none,none,none])),[.ob 1 E,.ob 0 m],[],[]⟩) (
   E.n=m.S∧
   ∀(m1:Mem),m1=m→
   Mem.Wf m1→
   split (((E.on m).eA (((E.on m).entry t).owner)) !=0) (
    True∧
    ∀(s3:Fl),s3=Fl.zero→
    Fl.Ok s3→
    True∧
    Q ⟨(.tuple #[(.agg ⟨Fl.cells s3⟩),(.bool false),(.int .u32 0),(.int .i64 124)]),(some (.t [none,none,none,none])),[.ob 1 E,.ob 0 m1],[],[]⟩) (
    split (n==0) (
     True∧
     ((0≤(0:Int)∧(0:Int)<((Fl.rs s1).length:Int))∧(0:Int)<(15:Int))∧
     True∧
     ∀(s3:Fl),s3=(Fl.norm s1)→
     Fl.Ok s3→
     True∧
     Q ⟨(.tuple #[(.agg ⟨Fl.cells s3⟩),(.bool true),(.int .u32 (((Fl.rs s1).getD (Int.toNat 0) (U32.mk 0)).v)),(.int .i64 0)]),(some (.t [none,none,none,none])),[.ob 1 E,.ob 0 m1],[],[]⟩) (
     True∧
     (some (.pointer (some (Addr.mk (r 0) 0 none))):Option Value)=some (.pointer (some (Addr.mk (r 0) 0 none)))∧
     (s.length=8)∧
     (some (.pointer (some (Addr.mk (r 0) 0 none))):Option Value)=some (.pointer (some (Addr.mk (r 0) 0 none)))∧
     ∀(gv7:Nat),
     ∀(rN:Nat→Nat),
     ∀(s3:Unit),s3=()→
     ((rN 0)=rN 0)∧
     split (decide (n=1)) (
      False) (
      split (decide (n=2)) (
       False) (
       split (decide (n=3)) (
        E.n=m1.S∧
        (0≤(((Fl.rs s1).getD 1 (U32.mk 0)).v)∧(((Fl.rs s1).getD 1 (U32.mk 0)).v)<4294967296)∧
        (0≤(((Fl.rs s1).getD 2 (U32.mk 0)).v)∧(((Fl.rs s1).getD 2 (U32.mk 0)).v)<4294967296)∧
        ∀(E1:Pd),E1=((E.on m1).lx (((E.on m).entry t).owner) (((Fl.rs s1).getD 1 (U32.mk 0)).v) (((Fl.rs s1).getD 2 (U32.mk 0)).v)).pd→
        Pd.Ok E1→
        ∀(m2:Mem),m2=((E.on m1).lx (((E.on m).entry t).owner) (((Fl.rs s1).getD 1 (U32.mk 0)).v) (((Fl.rs s1).getD 2 (U32.mk 0)).v)).mem→
        Mem.Wf m2→
        (0≤(0:Int)∧(0:Int)<(15:Int))∧
        True∧
        ∀(s4:Fl),s4=(Fl.mk [U32.mk ((E.on m1).ly (((E.on m).entry t).owner) (((Fl.rs s1).getD 1 (U32.mk 0)).v) (((Fl.rs s1).getD 2 (U32.mk 0)).v)),U32.mk (((Fl.rs s1).getD 1 (U32.mk 0)).v),U32.mk (((Fl.rs s1).getD 2 (U32.mk 0)).v),U32.mk (((Fl.rs s1).getD 3 (U32.mk 0)).v),U32.mk (((Fl.rs s1).getD 4 (U32.mk 0)).v),U32.mk (((Fl.rs s1).getD 5 (U32.mk 0)).v),U32.mk (((Fl.rs s1).getD 6 (U32.mk 0)).v),U32.mk (((Fl.rs s1).getD 7 (U32.mk 0)).v),U32.mk (((Fl.rs s1).getD 8 (U32.mk 0)).v),U32.mk (((Fl.rs s1).getD 9 (U32.mk 0)).v),U32.mk (((Fl.rs s1).getD 10 (U32.mk 0)).v),U32.mk (((Fl.rs s1).getD 11 (U32.mk 0)).v),U32.mk (((Fl.rs s1).getD 12 (U32.mk 0)).v),U32.mk (((Fl.rs s1).getD 13 (U32.mk 0)).v),U32.mk (((Fl.rs s1).getD 14 (U32.mk 0)).v)] (Fl.pc s1) (Fl.z s1) (Fl.n s1) (Fl.l s1))→
        Fl.Ok s4→
        True∧
        Q ⟨(.tuple #[(.agg ⟨Fl.cells s4⟩),(.bool false),(.int .u32 0),(.int .i64 0)]),(some (.t [none,none,none,none])),[.ob 1 E1,.ob 0 m2],[],[]⟩) (
        split (decide (n=4)) (
         E.n=m1.S∧
         (0≤(((Fl.rs s1).getD 1 (U32.mk 0)).v)∧(((Fl.rs s1).getD 1 (U32.mk 0)).v)<4294967296)∧
         (0≤(((Fl.rs s1).getD 2 (U32.mk 0)).v)∧(((Fl.rs s1).getD 2 (U32.mk 0)).v)<4294967296)∧
         ∀(E2:Pd),E2=((E.on m1).ku (((E.on m).entry t).owner) (((Fl.rs s1).getD 1 (U32.mk 0)).v) (((Fl.rs s1).getD 2 (U32.mk 0)).v)).pd→
         Pd.Ok E2→
         ∀(m3:Mem),m3=((E.on m1).ku (((E.on m).entry t).owner) (((Fl.rs s1).getD 1 (U32.mk 0)).v) (((Fl.rs s1).getD 2 (U32.mk 0)).v)).mem→
         Mem.Wf m3→
         (0≤(0:Int)∧(0:Int)<(15:Int))∧
         True∧
         ∀(s5:Fl),s5=(Fl.mk [U32.mk ((E.on m1).nB (((E.on m).entry t).owner) (((Fl.rs s1).getD 1 (U32.mk 0)).v) (((Fl.rs s1).getD 2 (U32.mk 0)).v)),U32.mk (((Fl.rs s1).getD 1 (U32.mk 0)).v),U32.mk (((Fl.rs s1).getD 2 (U32.mk 0)).v),U32.mk (((Fl.rs s1).getD 3 (U32.mk 0)).v),U32.mk (((Fl.rs s1).getD 4 (U32.mk 0)).v),U32.mk (((Fl.rs s1).getD 5 (U32.mk 0)).v),U32.mk (((Fl.rs s1).getD 6 (U32.mk 0)).v),U32.mk (((Fl.rs s1).getD 7 (U32.mk 0)).v),U32.mk (((Fl.rs s1).getD 8 (U32.mk 0)).v),U32.mk (((Fl.rs s1).getD 9 (U32.mk 0)).v),U32.mk (((Fl.rs s1).getD 10 (U32.mk 0)).v),U32.mk (((Fl.rs s1).getD 11 (U32.mk 0)).v),U32.mk (((Fl.rs s1).getD 12 (U32.mk 0)).v),U32.mk (((Fl.rs s1).getD 13 (U32.mk 0)).v),U32.mk (((Fl.rs s1).getD 14 (U32.mk 0)).v)] (Fl.pc s1) (Fl.z s1) (Fl.n s1) (Fl.l s1))→
         Fl.Ok s5→
         True∧
         Q ⟨(.tuple #[(.agg ⟨Fl.cells s5⟩),(.bool false),(.int .u32 0),(.int .i64 0)]),(some (.t [none,none,none,none])),[.ob 1 E2,.ob 0 m3],[],[]⟩) (
         split (decide (n=5)) (
          False) (
          split (decide (n=6)) (
           False) (
           split (decide (n=7)) (
            False) (
            (0≤(0:Int)∧(0:Int)<(15:Int))∧
            True∧
            ∀(s6:Fl),s6=(Fl.mk [U32.mk 15,U32.mk (((Fl.rs s1).getD 1 (U32.mk 0)).v),U32.mk (((Fl.rs s1).getD 2 (U32.mk 0)).v),U32.mk (((Fl.rs s1).getD 3 (U32.mk 0)).v),U32.mk (((Fl.rs s1).getD 4 (U32.mk 0)).v),U32.mk (((Fl.rs s1).getD 5 (U32.mk 0)).v),U32.mk (((Fl.rs s1).getD 6 (U32.mk 0)).v),U32.mk (((Fl.rs s1).getD 7 (U32.mk 0)).v),U32.mk (((Fl.rs s1).getD 8 (U32.mk 0)).v),U32.mk (((Fl.rs s1).getD 9 (U32.mk 0)).v),U32.mk (((Fl.rs s1).getD 10 (U32.mk 0)).v),U32.mk (((Fl.rs s1).getD 11 (U32.mk 0)).v),U32.mk (((Fl.rs s1).getD 12 (U32.mk 0)).v),U32.mk (((Fl.rs s1).getD 13 (U32.mk 0)).v),U32.mk (((Fl.rs s1).getD 14 (U32.mk 0)).v)] (Fl.pc s1) (Fl.z s1) (Fl.n s1) (Fl.l s1))→
            Fl.Ok s6→
            True∧
            Q ⟨(.tuple #[(.agg ⟨Fl.cells s6⟩),(.bool false),(.int .u32 0),(.int .i64 0)]),(some (.t [none,none,none,none])),[.ob 1 E,.ob 0 m1],[],[]⟩)))))))))))
theorem Hs:Vc2 Un prog (aQ [(16,cE),(54,fU),(55,mL),(107,hO),(108,hH)]) [] Tryz.f22 (.r' (.r' (.two (.two (.node [] (some ⟨[(36,(.one .bool))],[],upN 30 7,[]⟩) [] [] .leaf .leaf) .leaf) (.r' (.two (.two (.node [] (some ⟨[(56,(.one .bool))],[],upN 45 12,[]⟩) [] [] .leaf .leaf) .leaf) (.r' (.r' (.two (.r' (.two (.two (.node [] none [] [(0,[3]),(3,[3])] .leaf .leaf) .leaf) .leaf)) .leaf)))))))) [] pD=(∀k0 k1 k2 k3 k4 k5 k6 k7 wA wN wC t n (f:Fl) r (E:Pd) rm (m:Mem),∀Q,(pD.body k0 k1 k2 k3 k4 k5 k6 k7 wA wN wC t n f r E rm m Q)→Hr k0 k1 k2 k3 k4 k5 k6 k7 wA wN wC t n f r E rm m Q):=by kernel_rfl
theorem Hq:LV Un prog 22 pD:=verify Tryz.func22 aa (tb:= [(16,cE),(54,fU),(55,mL),(107,hO),(108,hH)]) ⟨im,vV,AS,AO,AL,trivial⟩ (by kernel_rfl) (Hs.mpr fun k0 k1 k2 k3 k4 k5 k6 k7 wA wN wC t n f r E rm m Q h=>by
 obtain⟨I6,Ja,Jw,P5,Pz,h⟩:=h
 exact fun f1 f2 gv s MB I8 s1 Kd f3 KU s2 LB f4=>af ‹_› fun s5 KT=>bq (((((E.on m).bb t):Int) !=0) || ((((E.on m).entry t).typ:Int) !=2)) (ae (fun c1=>(by grind)) fun c1=>(by grind))<| aM (fun c2=>af trivial fun _ s3 Kt f7=>af trivial fun _=>av h (congrArg (fun l=>Value.tuple (List.toArray l)) (ab (congrArg (fun s:Fl=>Value.agg ⟨Fl.cells s⟩) (by(exfalso;(grind [DB.bk])))) (ab rfl (ab rfl (ab (aW (by(exfalso;(grind [DB.bk])))) rfl))))) (ab (uO1 (by(exfalso;(grind [DB.bk])))) (ab (uO0 (by(exfalso;(grind [DB.bk])))) rfl)) rfl) fun c2=>af ‹_› fun s9 Nt=>bq (((((E.on m).bb (((E.on m).entry t).owner)):Int) !=0) || (((((E.on m).entry (((E.on m).entry t).owner)).typ:Int) !=1) || ((((E.on m).entry (((E.on m).entry t).owner)).state:Int) !=2))) (ae (fun c3=>(by grind)) fun c3=>ae (fun c4=>(by grind)) fun c4=>(by grind))<| aM (fun c5=>af trivial fun _ s3 Kt f11=>af trivial fun _=>av h (congrArg (fun l=>Value.tuple (List.toArray l)) (ab (congrArg (fun s:Fl=>Value.agg ⟨Fl.cells s⟩) (by(exfalso;(grind [DB.bk])))) (ab rfl (ab rfl (ab (aW (by(exfalso;(grind [DB.bk])))) rfl))))) (ab (uO1 (by(exfalso;(grind [DB.bk])))) (ab (uO0 (by(exfalso;(grind [DB.bk])))) rfl)) rfl) fun c5=>af ‹_› fun Nj m1 I9 f14=>aG (fun c6=>af trivial fun _ s3 Kt f16=>af trivial fun _=>av h (congrArg (fun l=>Value.tuple (List.toArray l)) (ab (congrArg (fun s:Fl=>Value.agg ⟨Fl.cells s⟩) (by(exfalso;(grind [DB.bk])))) (ab rfl (ab rfl (ab (aW (by(exfalso;(grind [DB.bk])))) rfl))))) (ab (uO1 (by(exfalso;(grind [DB.bk])))) (ab (uO0 (by(exfalso;(grind [DB.bk])))) rfl)) rfl) fun c6=>aE (fun c7=>af trivial fun _=>af (by omega) fun UI=>af trivial fun _ s3 Kt f21=>af trivial fun _=>av h (congrArg (fun l=>Value.tuple (List.toArray l)) (ab (congrArg (fun s:Fl=>Value.agg ⟨Fl.cells s⟩) (by(exfalso;(grind)))) (ab (eQb (by(exfalso;(grind)))) (ab (fu (by(exfalso;(grind)))) (ab rfl rfl))))) (ab (uO1 (by(exfalso;(grind)))) (ab (uO0 (by(exfalso;(grind)))) rfl)) rfl) fun c7=>af trivial fun _=>af (by rfl) fun s24=>af (by subst MB;rfl) fun UH=>af (by rfl) fun UG gv7 rN s3 Kt=>af (by omega) fun s27=>aB (fun c8=>(by exfalso;omega)) fun c8=>aB (fun c9=>(by exfalso;omega)) fun c9=>aB (fun Mn=>af (by grind) fun s28=>af (by subst Kd;exact P5) fun s29=>af (by subst Kd;exact Pz) fun s30 E1 Jn f31 m2 Ke f32=>af (by omega) fun s33=>af trivial fun _ s4 Kz f35=>af trivial fun _=>av h (congrArg (fun l=>Value.tuple (List.toArray l)) (ab (congrArg (fun s:Fl=>Value.agg ⟨Fl.cells s⟩) (by(subst_vars;rfl))) (ab rfl (ab rfl (ab rfl rfl))))) (ab (uO1 (by(subst_vars;rfl))) (ab (uO0 (by(subst_vars;rfl))) rfl)) rfl) fun Mn=>aB (fun Ng=>af (by grind) fun s37=>af (by subst Kd;exact P5) fun s38=>af (by subst Kd;exact Pz) fun s39 E2 JA f40 m3 Jj f41=>af (by omega) fun s42=>af trivial fun _ s5 K5 f44=>af trivial fun _=>av h (congrArg (fun l=>Value.tuple (List.toArray l)) (ab (congrArg (fun s:Fl=>Value.agg ⟨Fl.cells s⟩) (by(subst_vars;rfl))) (ab rfl (ab rfl (ab rfl rfl))))) (ab (uO1 (by(subst_vars;rfl))) (ab (uO0 (by(subst_vars;rfl))) rfl)) rfl) fun Ng=>aB (fun QT=>(by exfalso;omega)) fun QT=>aB (fun OQ=>(by exfalso;omega)) fun OQ=>aB (fun TJ=>(by exfalso;omega)) fun TJ=>af (by omega) fun s46=>af trivial fun _ s6 Ox f48=>af trivial fun _=>av h (congrArg (fun l=>Value.tuple (List.toArray l)) (ab (congrArg (fun s:Fl=>Value.agg ⟨Fl.cells s⟩) (by(exfalso;(grind)))) (ab rfl (ab rfl (ab rfl rfl))))) (ab (uO1 (by(exfalso;(grind)))) (ab (uO0 (by(exfalso;(grind)))) rfl)) rfl)
def jG:Ctr Un:=⟨[.one (.int .u32),.one (.int .u32),.one (.int .u32),.one (.int .u32)],[],[],[],fun pc a b c K=>K ⟨(.agg ⟨Fl.cells (Fl.start pc a b c)⟩),none,[],[],[]⟩⟩
def Eb(pc:Int)(a:Int)(b:Int)(c:Int)(Q:Ou Un→Prop):Prop:=
 ∀(gv:Nat),
 ∀(s:Fl),s=Fl.zero→
 Fl.Ok s→
 ∀(I8:Nat),
 ∀(s1:Fl),s1=Fl.zero→
 Fl.Ok s1→
 True∧
 ∀(s2:Fl),s2=(Fl.mk [U32.mk 0,U32.mk 0,U32.mk 0,U32.mk 0,U32.mk 0,U32.mk 0,U32.mk 0,U32.mk 0,U32.mk 0,U32.mk 0,U32.mk 0,U32.mk 0,U32.mk 0,U32.mk 0,U32.mk 0] pc false false false)→
 Fl.Ok s2→
 ((0≤(0:Int)∧(0:Int)<((Fl.rs s2).length:Int))∧(0:Int)<(15:Int))∧
 True∧
 ∀(s3:Fl),s3=(Fl.qj s2 (Int.toNat 0) (U32.mk a))→
 Fl.Ok s3→
 ((0≤(1:Int)∧(1:Int)<((Fl.rs s3).length:Int))∧(1:Int)<(15:Int))∧
 True∧
 ∀(s4:Fl),s4=(Fl.qj s3 (Int.toNat 1) (U32.mk b))→
 Fl.Ok s4→
 ((0≤(2:Int)∧(2:Int)<((Fl.rs s4).length:Int))∧(2:Int)<(15:Int))∧
 True∧
 ∀(s5:Fl),s5=(Fl.qj s4 (Int.toNat 2) (U32.mk c))→
 Fl.Ok s5→
 True∧
 True∧
 ∀(s6:Fl),s6=(Fl.norm s5)→
 Fl.Ok s6→
 True∧
 Q ⟨(.agg ⟨Fl.cells s6⟩),none,[],[],[]⟩
theorem Ec:Vc2 Un prog (aQ []) [] Tryz.f6 .leaf [] jG=(∀pc a b c,∀Q,(jG.body pc a b c Q)→Eb pc a b c Q):=by kernel_rfl
section
attribute [local grind=] Fl.Ok
theorem Ea:LV Un prog 6 jG:=verify Tryz.func6 aa (tb:= []) trivial (by kernel_rfl) (Ec.mpr fun pc a b c Q h gv s MB f1 I8 s1 Kd f2=>af trivial fun _ s2 LB f4=>af (by grind) fun s5=>af trivial fun _ s3 Kt f7=>af (by grind) fun s8=>af trivial fun _ s4 Kz f10=>af (by grind) fun Ly=>af trivial fun _ s5 K5 f13=>af trivial fun _=>af trivial fun _ s6 Ox f16=>af trivial fun _=>av h (congrArg (fun s:Fl=>Value.agg ⟨Fl.cells s⟩) (by subst_vars;rfl)) rfl rfl)
end
end
end Go.Proofs.YtfgpafjlcgaimaaGreatDoor
namespace Go.Proofs.YtfgpafjlcgaimaaGreatDoor
open Go.Proofs.Tryz (prog)
open Go Go.RowKit V
open Go.IntKind (i64 u32 u64)
theorem rz {w w1:World} {L:eg} {D:DB} {L':dA} {s:Nat} {T':TypeId}(h:DBP w L D)(hq:Pu w w1)(hM:bH w1 L' D.mem)(hX:∀k,L'.X k→w.heap.size≤k)(hb:Blk w1 s (cf (List.replicate D.n2 0)) T')(TY:w.heap.size≤s)(QH:¬L'.X s) {R:ax}(hR:∀v w',(∃L2:eg,v=ptr L2.g∧DBP w' L2 D∧(∀k,L2.X k→w.heap.size≤k)∧Pu w w')→R v w'):
 ∀(gv:Nat)(I3:World),gv=w1.heap.size→I3=w1.alloc (.cells #[ptr L'.g,.int .i64 D.au,.slice (some (Addr.mk s 0 none)) D.n2 D.n2] 73)→
 Kept (cn (fun _ k=>k=L.g) [0,1,2,5,6,9,10,11,12]) w1 I3∧∃b3:Nat→Nat→Prop,(∀i k,(fun _ k=>k=L.g:Nat→Nat→Prop) i k→b3 i k)∧
 ∃b4:Nat→Nat→Prop,
 b4 3 (((Addr.mk gv 0 none).add 2).block)∧
 ∃K9:Option Addr,∃KV:Nat,∃K8:Nat,I3.drew.cell? ((Addr.mk gv 0 none).add 2)=some (.slice K9 KV K8)∧
 aq (some (Addr.mk L.g 0 none)) fun Nl=>
 b4 7 ((Nl.add 2).block)∧
 ∃L4:Option Addr,∃LZ:Nat,∃L0:Nat,I3.drew.cell? (Nl.add 2)=some (.slice L4 LZ L0)∧
 ∃LY:Int,∃I5,(Builtin.copy_ #[64,64] 3 #[(.slice K9 KV K8),(.slice L4 LZ L0)]:Sem Value).run prog I3.drew= .ok (.int .i64 LY) I5∧
 Kept (cn b4 [0,4]) I3.drew I5∧∃b5:Nat→Nat→Prop,(∀i k,b4 i k→b5 i k)∧
 R (.pointer (some (Addr.mk gv 0 none))) I5:=by
 intro gv w2 hg hw2
 have hm:=made hg hw2
 have hmn:=hm.num
 have Oh:Pu w w2.drew:=(hq.trans hm.pu).trans (Pu.cu w2)
 have Qs:=h.pu Oh
 have hMm:bH w2.drew L' D.mem:=(hM.pu hm.pu).pu (Pu.cu w2)
 have Ql:Blk w2.drew s (cf (List.replicate D.n2 0)) T':=(hm.old hb).drew
 have QR:=hm.blk.drew
 have QG:=hb.lt
 have Vr:L.g<w.heap.size:=h.lt _ (.inl rfl)
 have UT:=hq.size
 obtain⟨T0,hd0⟩:=Qs.hd
 refine⟨hm.kept.mono (fun k hk=>by have:k=L.g:=(by simpa [cn]using hk);rw [this];omega),fun _ k=>k=L.g,fun _ k hk=>hk,fun _ k=>k=gv∨k=L.g,by rw [block_add];exact .inl rfl,_,_,_,QR.at rfl,ai _ rfl ⟨by rw [block_add];exact .inr rfl,_,_,_,hd0.at rfl,?_⟩⟩
 obtain⟨x,w3,Ki,KL⟩:=Ac (P:=prog) (dT:=64) (sT:=64) (ty:=3) (dn:=D.n2) (dc:=D.n2) qR Ql rfl Qs.ints (by simp) (K:=fun w3=>bm w2.drew s (cf (oz (List.replicate D.n2 0) 0 (D.ws.take (min D.n2 D.n2)))) T' w3) (fun _ hs=>hs)
 have TW:D.ws.length=D.n2:=D.kp
 rw [List.take_of_length_le (by omega),uc _ _ (by rw [TW];simp)]at KL
 refine⟨x,w3,Ki,KL.kept.mono (fun k hk=>by have:k=gv∨k=L.g:=(by simpa [cn]using hk);rcases this with e | e<;>omega),fun _ k=>k=gv∨k=L.g,fun _ k hk=>hk,hR _ _ ⟨⟨gv,s,L'⟩,rfl,⟨⟨_,KL.old QR (show gv≠s by omega)⟩,⟨T',_,KL.blk,by rw [qS,TW],fun p hp=>?_⟩,hMm.ch KL.ch fun k hk e=>QH (e▸hk),h.ok,⟨by show s≠gv;omega,fun(hx:L'.X gv)=>absurd (hM.lt gv hx) (by omega),QH⟩⟩,?_,?_⟩⟩
 ·have Jw:p<D.S:=hp
  have e1:=nK (fun p=>(D.ent p).w0) (fun p=>(D.ent p).w1) D.S (2*p) (by omega)
  have e2:=nK (fun p=>(D.ent p).w0) (fun p=>(D.ent p).w1) D.S (2*p+1) (by omega)
  have f1:D.ws[2*p]? =some (D.ent p).w0:=by
   show((List.range D.S).flatMap fun p=>[(D.ent p).w0,(D.ent p).w1])[2*p]? =_
   rw [e1,if_pos (by omega),show 2*p / 2=p by omega]
  have f2:D.ws[2*p+1]? =some (D.ent p).w1:=by
   show((List.range D.S).flatMap fun p=>[(D.ent p).w0,(D.ent p).w1])[2*p+1]? =_
   rw [e2,if_neg (by omega),show(2*p+1) / 2=p by omega]
  have hl:D.ws.length=2*D.S:=D.kp
  exact⟨by rw [gQ (by omega),List.getD_eq_getElem?_getD,f1];rfl,by rw [gQ (by omega),List.getD_eq_getElem?_getD,f2];rfl⟩
 ·rintro k (e | e | hk)
  ·rw [e];show w.heap.size≤gv;omega
  ·rw [e];exact TY
  ·exact hX k hk
 ·exact Ch.stored (X:=fun _=>False) Oh KL (.inr TY)
theorem Hh {w:World} {L:eg} {D:DB}(h:DBP w L D):
 Calls prog 5 #[ptr L.g] w fun e w'=>∃v,e= .returned v∧∃L2:eg,v=ptr L2.g∧DBP w' L2 D∧(∀k,L2.X k→w.heap.size≤k)∧Pu w w':=by
 refine tO _ ?_
 have hD:Pu w w.drew:=Pu.cu w
 have h1:=h.pu hD
 obtain⟨T,hd⟩:=h1.hd
 have Vr:L.g<w.drew.heap.size:=hd.lt
 have h0s:w.drew.heap.size=w.heap.size:=rfl
 have hm64:=h.mem.cF.1
 have ef:∀(l:List Nat)(k:Nat),cn (fun _ k=>k=L.g) l k→k=L.g:=fun l k hk=>by
  induction l with
  | nil=>simp [cn]at hk
  | cons a l ih=>
   cases l with
   | nil=>exact hk
   | cons c l=>rcases(show k=L.g∨cn (fun _ k=>k=L.g) (c::l) k from hk)with hk | hk;exact hk;exact ih hk
 refine⟨fun _ k=>k=L.g,ai _ rfl ⟨by rw [block_add],_,hd.at rfl,ai _ rfl ⟨by rw [block_add],_,hd.at rfl,ai _ rfl ⟨by rw [block_add],_,_,_,hd.at rfl,?_⟩⟩⟩⟩
 refine⟨?_,?_⟩
 ·refine(Cv h1.mem).mono ?_
  rintro e w1 ⟨_,rfl,L',rfl,hM,hX,Ja⟩
  refine⟨_,rfl,Ja.ef (fun k hk=>by rw [ef _ k hk];exact Vr),fun _ k=>k=L.g,fun _ k hk=>hk,?_⟩
  refine jT qR (by omega) (by unfold DB.n2;omega) (by unfold DB.n2;omega) fun s w2 hs=>?_
  have hp1s:=Ja.size
  refine⟨hs.kept.mono (fun k hk=>by rw [ef _ k hk];omega),fun _ k=>k=L.g,fun _ k hk=>hk,?_⟩
  rw [Int.toNat_natCast]at hs ⊢
  have hq:Pu w w2:=(hD.trans Ja).trans hs.pu
  have VL:=hM.pu hs.pu
  have UZ:=hs.num
  have hb:Blk w2 s (cf (List.replicate D.n2 0)) _:=hs.blk.cast (lf _ _)
  have QH:¬L'.X s:=fun hx=>by have:=hM.lt s hx;omega
  have TY:w.heap.size≤s:=by omega
  have hX:∀k,L'.X k→w.heap.size≤k:=hX
  exact rz h hq VL hX hb TY QH fun _ _ h=>h
 ·refine jT qR (by omega) (by unfold DB.n2;omega) (by unfold DB.n2;omega) fun s w1 hs=>?_
  refine⟨hs.kept.mono (fun k hk=>by rw [ef _ k hk];omega),fun _ k=>k=L.g,fun _ k hk=>hk,?_⟩
  rw [Int.toNat_natCast]at hs ⊢
  refine(Cv (h1.mem.pu hs.pu)).mono ?_
  rintro e w2 ⟨_,rfl,L',rfl,hM,hX,Ja⟩
  have Lo:=hs.pu.size
  refine⟨_,rfl,Ja.ef (fun k hk=>by rw [ef _ k hk];omega),fun _ k=>k=L.g,fun _ k hk=>hk,?_⟩
  have hq:Pu w w2:=(hD.trans hs.pu).trans Ja
  have UZ:=hs.num
  have hb:Blk w2 s (cf (List.replicate D.n2 0)) _:=Ja.blk (hs.blk.cast (lf _ _))
  have QH:¬L'.X s:=fun hx=>by have:=hX s hx;have:=hs.blk.lt;omega
  exact rz h hq hM (fun k hk=>by have:=hX k hk;omega) hb (by omega) QH fun _ _ h=>h
section
section
variable {U:Uni}
theorem bn.two {rs:List (Res U)} {X:Nat→Nat→Prop} {w w':World} {Q:Ou U→Prop} {v:Value} {k:Option Kn} {Z1 Z2:Nat→Prop} {r1 r2:Res U} {kc:List (Key×Kn)}(hs:Sat rs X w)(q:Pu w w')(h1:RS Z1 w' r1)(h2:RS Z2 w' r2)(QC:∀k,Z1 k→w.heap.size≤k)(SH:∀k,Z2 k→w.heap.size≤k)(hd:∀k,Z1 k→¬Z2 k)(hQ:Q ⟨v,k,[],[r1,r2],kc⟩)(hk:KnO (rs++ [r1,r2]) v k)
 (Om:∀key k,(key,k)∈kc→cW (rs++ [r1,r2]) fr0 key k):bn rs [] X w Q (.returned v) w':=by
 have n1:nth (rs++ [r1,r2]) rs.length=some r1:=by rw [aU,if_neg (by omega),Nat.sub_self];rfl
 have n2:nth (rs++ [r1,r2]) (rs.length+1)=some r2:=by rw [aU,if_neg (by omega),show rs.length+1 - rs.length=1 by omega];rfl
 let X':Nat→Nat→Prop:=fun i=>if i=rs.length then Z1 else if i=rs.length+1 then Z2 else X i
 have e1:X' rs.length=Z1:=if_pos rfl
 have e2:X' (rs.length+1)=Z2:=by show(if _ then _ else if _ then _ else _)=_;rw [if_neg (by omega),if_pos rfl]
 have e0:∀i,i<rs.length→X' i=X i:=fun i hi=>by show(if _ then _ else if _ then _ else _)=_;rw [if_neg (by omega),if_neg (by omega)]
 have new:∀i,rs.length≤i→i<rs.length+2→∀k,X' i k→w.heap.size≤k:=fun i ha hb k hk=>by
  rcases(show i=rs.length∨i=rs.length+1 by omega)with e | e
  ·subst e;rw [e1]at hk;exact QC k hk
  ·subst e;rw [e2]at hk;exact SH k hk
 refine⟨⟨v,k,[],[r1,r2],kc⟩,rs,X',dG hk,hQ,by simp [bh],⟨⟨fun i r hr=>?_,fun i j hi hj JI k J7 JH=>?_⟩,q.mono (fun _ h=>h.elim),fun i hi _=>e0 i hi,fun i hi=>(by cases hi),fun i ha hb=>new i ha (by simpa using hb),.inr hk,fun key k hm _=>Om key k hm⟩⟩
 ·have hl:=aP hr
  simp only [List.length_append,List.length_cons,List.length_nil]at hl
  by_cases hi:i<rs.length
  ·rw [aU,if_pos hi]at hr
   rw [e0 i hi]
   exact(hs.res i r hr).ch q (by simp)
  ·rcases(show i=rs.length∨i=rs.length+1 by omega)with e | e
   ·subst e;rw [n1]at hr;injection hr with hr;subst hr;rw [e1];exact h1
   ·subst e;rw [n2]at hr;injection hr with hr;subst hr;rw [e2];exact h2
 ·simp only [List.length_append,List.length_cons,List.length_nil]at hi hj
  by_cases Jv:i<rs.length
  ·have hl:k<w.heap.size:=hs.lt Jv k (by rw [e0 i Jv]at J7;exact J7)
   by_cases Mg:j<rs.length
   ·rw [e0 i Jv]at J7;rw [e0 j Mg]at JH
    exact hs.dis i j Jv Mg JI k J7 JH
   ·have:=new j (by omega) (by omega) k JH;omega
  ·by_cases Mg:j<rs.length
   ·have hl:k<w.heap.size:=hs.lt Mg k (by rw [e0 j Mg]at JH;exact JH)
    have:=new i (by omega) (by omega) k J7;omega
   ·rcases(show i=rs.length∧j=rs.length+1∨j=rs.length∧i=rs.length+1 by omega)with⟨ea,eb⟩ | ⟨ea,eb⟩
    ·subst ea;subst eb;rw [e1]at J7;rw [e2]at JH;exact hd k J7 JH
    ·subst ea;subst eb;rw [e2]at J7;rw [e1]at JH;exact hd k JH J7
end
end
end Go.Proofs.YtfgpafjlcgaimaaGreatDoor
namespace Go.Proofs.YtfgpafjlcgaimaaGreatDoor
open Go.Proofs.Tryz (prog)
open Go Go.RowKit V
open Go.IntKind (i64 u32 u64)
section
set_option maxRecDepth 100000
set_option maxHeartbeats 1000000
attribute [local irreducible] Vc2 VcD
def tz:Ctr Un:=⟨[.one (.obj 0 0),.one (.obj 1 0)],[],[.ob 0 [],.ob 0 []],[],fun rm m ro o K=>K ⟨(.bool (m.same o)),none,[],[],[]⟩⟩
theorem FW:LV Un prog 10 tz:=by
 show ∀(rm:Nat→Nat)(m:Mem)(ro:Nat→Nat)(o:Mem),∀Q:Ou Un→Prop,(Q ⟨(.bool (m.same o)),none,[],[],[]⟩)→∀(X:Nat→Nat→Prop)(w:World),Sat (U:=Un) [(.ob 0 rm m),(.ob 0 ro o)] X w→aw (U:=Un) [(.ob 0 rm m),(.ob 0 ro o)] fr0 []→Calls prog 10 #[(.pointer (some (Addr.mk (rm 0) 0 none))),(.pointer (some (Addr.mk (ro 0) 0 none)))] w (bn (U:=Un) [(.ob 0 rm m),(.ob 0 ro o)] [] X w Q)
 intro rm m ro o Q hQ X w hs hl
 obtain⟨L,hg,hX,hM⟩:=(hs.res 0 _ rfl:cT 0 rm m (X 0) w)
 obtain⟨L',Vs,hX',Uj⟩:=(hs.res 1 _ rfl:cT 0 ro o (X 1) w)
 rw [hg,Vs]
 refine(HX hM Uj).mono ?_
 rintro e w' ⟨u,rfl,rfl,q⟩
 exact bn.pu hs q hQ trivial
def qh:Ctr Un:=⟨[.one (.obj 0 0)],[],[.ob 1 [(1,1,0)],.ob 0 []],[],fun r E rm m K=>E.n=m.S∧∀(rN:Nat→Nat)(rM:Nat→Nat),K ⟨(.pointer (some (Addr.mk (rN 0) 0 none))),(some (.p (.obj 2 0 0))),[],[(.ob 1 rN E),(.ob 0 rM m)],[(.l 2 1,.p (.obj 3 0 0))]⟩⟩
theorem En:LV Un prog 5 qh:=by
 show ∀(r:Nat→Nat)(E:Pd)(rm:Nat→Nat)(m:Mem),∀Q:Ou Un→Prop,(E.n=m.S∧∀(rN:Nat→Nat)(rM:Nat→Nat),Q ⟨(.pointer (some (Addr.mk (rN 0) 0 none))),(some (.p (.obj 2 0 0))),[],[(.ob 1 rN E),(.ob 0 rM m)],[(.l 2 1,.p (.obj 3 0 0))]⟩)→∀(X:Nat→Nat→Prop)(w:World),Sat (U:=Un) [(.ob 1 r E),(.ob 0 rm m)] X w→aw (U:=Un) [(.ob 1 r E),(.ob 0 rm m)] fr0 [(.l 0 1,.p (.obj 1 0 0))]→Calls prog 5 #[(.pointer (some (Addr.mk (r 0) 0 none)))] w (bn (U:=Un) [(.ob 1 r E),(.ob 0 rm m)] [] X w Q)
 intro r E rm m Q hQ X w hs hl
 obtain⟨hn,hQ⟩:=hQ
 obtain⟨a,L,hg,hr,hD,ME,MY⟩:=uu hs hl hn
 refine(Hh hD).mono ?_
 rintro e w' ⟨u,rfl,L2,rfl,Qs,hz,q⟩
 have hpd:=Qs.pd
 rw [Pd.eU E m hn]at hpd
 exact bn.two (Z1:=fun k=>k=L2.g∨k=L2.a) (Z2:=L2.M.X) (k:=some (.p (.obj 2 0 0))) (kc:= [(.l 2 1,.p (.obj 3 0 0))]) hs q
  (show RS (U:=Un) _ w' (.ob 1 (fun i=>if i=0 then L2.g else L2.M.g) E)from(⟨L2.a,fun k=>Iff.rfl,hpd⟩:cT 1 (fun i=>if i=0 then L2.g else L2.M.g) E (fun k=>k=L2.g∨k=L2.a) w'))
  (show RS (U:=Un) _ w' (.ob 0 (fun _=>L2.M.g) m)from(⟨L2.M,rfl,fun _=>Iff.rfl,Qs.mem⟩:cT 0 (fun _=>L2.M.g) m L2.M.X w'))
  (fun k hk=>hz k (hk.imp id .inl)) (fun k hk=>hz k (.inr (.inr hk))) (fun k h1 h2=>by rcases h1 with rfl | rfl;exact Qs.dis.2.1 h2;exact Qs.dis.2.2 h2) (hQ (fun i=>if i=0 then L2.g else L2.M.g) (fun _=>L2.M.g)) rfl (xu ⟨_,_,_,rfl,rfl⟩)
end
section
set_option maxRecDepth 100000
set_option maxHeartbeats 1000000
attribute [local irreducible] Vc2 VcD
def jD:Ctr Un:=⟨[.agg [.int .u32,.int .u32,.int .u32,.int .u32,.int .u32,.int .u32,.int .u32,.int .u32]],[],[],[],fun q0 q1 q2 q3 q4 q5 q6 q7 K=>(∀x∈([q0,q1,q2,q3,q4,q5,q6,q7]:List Int),0≤x∧x<4294967296)∧∀(g:Nat)(rP:Nat→Nat)(rN:Nat→Nat)(rQ:Nat→Nat)(rM:Nat→Nat),K ⟨(.pointer (some (Addr.mk g 0 none))),(some (.p (.loc 0 0))),[],[(.blk g [(.pointer (some (Addr.mk (rN 0) 0 none))),(.pointer (some (Addr.mk (rP 0) 0 none))),(.pointer (some (Addr.mk (rQ 0) 0 none)))] 30),(.ob 1 rP ((DB.two [q0,q1,q2,q3,q4,q5,q6,q7]).pd)),(.ob 0 rN ((DB.two [q0,q1,q2,q3,q4,q5,q6,q7]).mem)),(.ob 3 rQ ((DB.two [q0,q1,q2,q3,q4,q5,q6,q7]).pd)),(.ob 2 rM ((DB.two [q0,q1,q2,q3,q4,q5,q6,q7]).mem))],[(.c 0 0,.p (.obj 2 0 0)),(.c 0 1,.p (.obj 1 0 0)),(.c 0 2,.p (.obj 3 0 0)),(.l 3 1,.p (.obj 4 0 0)),(.l 1 1,.p (.obj 2 0 0))]⟩⟩
def D3(q0:Int)(q1:Int)(q2:Int)(q3:Int)(q4:Int)(q5:Int)(q6:Int)(q7:Int)(Q:Ou Un→Prop):Prop:=
 ∀(gv:Nat),
 ∀(s:List U32),s=([U32.mk q0,U32.mk q1,U32.mk q2,U32.mk q3,U32.mk q4,U32.mk q5,U32.mk q6,U32.mk q7]:List U32)→
 ∀(I8:Nat)(rP:Nat→Nat)(rN:Nat→Nat)(rQ:Nat→Nat)(rM:Nat→Nat),
 ∀(E:Pd),E=(DB.begun 7 1).pd→
 Pd.Ok E→
 ∀(m:Mem),m=(DB.begun 7 1).mem→
 Mem.Wf m→
 ∀(E1:Pd),E1=(DB.begun 7 1).pd→
 Pd.Ok E1→
 ∀(m1:Mem),m1=(DB.begun 7 1).mem→
 Mem.Wf m1→
 ∀(KU:Nat),
 ∀(l:List br),l=([br.mk 1 6 7 0 0 none 0 0,br.mk 5 6 2 0 0 none 0 0,br.mk 1 0 1 0 0 none 0 0,br.mk 2 2 4 0 0 none 0 0,br.mk 7 1 0 0 513 none 0 0,br.mk 2 3 5 0 0 none 0 0,br.mk 7 2 1 0 775 none 0 0,br.mk 7 2 2 0 261 none 0 0,br.mk 2 4 6 0 0 none 0 0,br.mk 2 5 2 0 0 none 0 0,br.mk 5 0 2 0 0 none 0 0]:List br)→
 ∀i:Int,i=0→
 ∃I:Nat→Int→Pd→Mem→Pd→Mem→Prop,(∃m2,I m2 i E m E1 m1)∧∀(m2:Nat)(Nh:Nat→Value)(i1:Int)(s2:Pd)(s3:Mem)(s4:Pd)(s5:Mem),I m2 i1 s2 s3 s4 s5→
 Pd.Ok s2→
 Mem.Wf s3→
 Pd.Ok s4→
 Mem.Wf s5→
 split (decide (i1<(11:Int))) (
  (0≤i1∧i1<(l.length:Int))∧
  (((l.getD i1.toNat (br.mk 0 0 0 0 0 none 0 0)).k)=1∨((l.getD i1.toNat (br.mk 0 0 0 0 0 none 0 0)).k)=2∨((l.getD i1.toNat (br.mk 0 0 0 0 0 none 0 0)).k)=5∨((l.getD i1.toNat (br.mk 0 0 0 0 0 none 0 0)).k)=7)∧
  s2.n=s3.S∧
  s2=s4∧
  s3=s5∧
  (0≤((l.getD i1.toNat (br.mk 0 0 0 0 0 none 0 0)).v)∧((l.getD i1.toNat (br.mk 0 0 0 0 0 none 0 0)).v)<4294967296)∧
  1≤s3.S∧
  ∀(E2:Pd),E2=((s2.on s3).act ((l.getD i1.toNat (br.mk 0 0 0 0 0 none 0 0)).k) ((l.getD i1.toNat (br.mk 0 0 0 0 0 none 0 0)).a) ((l.getD i1.toNat (br.mk 0 0 0 0 0 none 0 0)).b) ((l.getD i1.toNat (br.mk 0 0 0 0 0 none 0 0)).c) ((l.getD i1.toNat (br.mk 0 0 0 0 0 none 0 0)).v)).pd→
  Pd.Ok E2→
  ∀(m4:Mem),m4=((s2.on s3).act ((l.getD i1.toNat (br.mk 0 0 0 0 0 none 0 0)).k) ((l.getD i1.toNat (br.mk 0 0 0 0 0 none 0 0)).a) ((l.getD i1.toNat (br.mk 0 0 0 0 0 none 0 0)).b) ((l.getD i1.toNat (br.mk 0 0 0 0 0 none 0 0)).c) ((l.getD i1.toNat (br.mk 0 0 0 0 0 none 0 0)).v)).mem→
  Mem.Wf m4→
  ∀(E3:Pd),E3=((s2.on s3).act ((l.getD i1.toNat (br.mk 0 0 0 0 0 none 0 0)).k) ((l.getD i1.toNat (br.mk 0 0 0 0 0 none 0 0)).a) ((l.getD i1.toNat (br.mk 0 0 0 0 0 none 0 0)).b) ((l.getD i1.toNat (br.mk 0 0 0 0 0 none 0 0)).c) ((l.getD i1.toNat (br.mk 0 0 0 0 0 none 0 0)).v)).pd→
  Pd.Ok E3→
  ∀(m5:Mem),m5=((s2.on s3).act ((l.getD i1.toNat (br.mk 0 0 0 0 0 none 0 0)).k) ((l.getD i1.toNat (br.mk 0 0 0 0 0 none 0 0)).a) ((l.getD i1.toNat (br.mk 0 0 0 0 0 none 0 0)).b) ((l.getD i1.toNat (br.mk 0 0 0 0 0 none 0 0)).c) ((l.getD i1.toNat (br.mk 0 0 0 0 0 none 0 0)).v)).mem→
  Mem.Wf m5→
  ∀i2:Int,i2=(i64.wrap (i1+1))→
  ∃m3,m3<m2∧I m3 i2 E2 m4 E3 m5) (
  ∀i2:Int,i2=0→
  ∃I1:Nat→Int→Mem→Mem→Prop,(∃m4,I1 m4 i2 s3 s5)∧∀(m4:Nat)(KR:Nat→Value)(i3:Int)(M8:Mem)(O3:Mem),I1 m4 i3 M8 O3→
  Mem.Wf M8→
  Mem.Wf O3→
  split (decide (i3<8)) (
   ((0≤i3∧i3<(s.length:Int))∧i3<(8:Int))∧
   (0≤((s.getD i3.toNat (U32.mk 0)).v)∧((s.getD i3.toNat (U32.mk 0)).v)<4294967296)∧
   ∀(m6:Mem),m6=(M8.write true 0 (i64.wrap (3+i3)) ((s.getD i3.toNat (U32.mk 0)).v))→
   Mem.Wf m6→
   ∀(m7:Mem),m7=(O3.write true 0 (i64.wrap (3+i3)) ((s.getD i3.toNat (U32.mk 0)).v))→
   Mem.Wf m7→
   split (!(decide (M8.err true 0 (i64.wrap (3+i3))=O3.err true 0 (i64.wrap (3+i3))))) (
    Q ⟨(.pointer none),none,[],[],[]⟩) (
    ∀i4:Int,i4=(i64.wrap (i3+1))→
    ∃m5,m5<m4∧I1 m5 i4 m6 m7)) (
   s2.n=M8.S∧
   split ((s2.on M8).broken.1 !=0) (
    Q ⟨(.pointer none),none,[],[],[]⟩) (
    Q ⟨(.pointer (some (Addr.mk I8 0 none))),(some (.p (.loc 0 0))),[],[(.blk I8 [(.pointer (some (Addr.mk (rN 0) 0 none))),(.pointer (some (Addr.mk (rP 0) 0 none))),(.pointer (some (Addr.mk (rQ 0) 0 none)))] 30),(.ob 1 rP s2),(.ob 0 rN M8),(.ob 3 rQ s4),(.ob 2 rM O3)],[(.c 0 0,.p (.obj 2 0 0)),(.c 0 1,.p (.obj 1 0 0)),(.c 0 2,.p (.obj 3 0 0)),(.l 3 1,.p (.obj 4 0 0)),(.l 1 1,.p (.obj 2 0 0))]⟩)))
theorem D4:Vc2 Un prog (aQ [(17,fV),(18,jF),(19,dU),(20,g9)]) [5,6] Tryz.f4 (.r' (.r' (.r' (.r' (.two (.r' (.two (.node [] (some ⟨[(5,(.one (.int .i64)))],[],[2,5]++upN 24 13,[(2,(.ob 1)),(3,(.ob 0)),(4,(.ob 3)),(5,(.ob 2))]⟩) [] [] .leaf .leaf) .leaf)) (.two (.r' (.two (.node [] (some ⟨[(6,(.one (.int .i64)))],[],[2,6]++upN 37 12,[(3,(.ob 0)),(5,(.ob 2))]⟩) [] [] .leaf .leaf) .leaf)) .leaf)))))) [1000000,1,2,3,4,5] jD=(∀q0 q1 q2 q3 q4 q5 q6 q7,∀Q,(jD.body q0 q1 q2 q3 q4 q5 q6 q7 Q)→D3 q0 q1 q2 q3 q4 q5 q6 q7 Q):=by kernel_rfl
theorem D2:LV Un prog 4 jD:=verify Tryz.func4 aa (tb:= [(17,fV),(18,jF),(19,dU),(20,g9)]) ⟨yc,D7,qb,AF,trivial⟩ (by kernel_rfl) (D4.mpr fun q0 q1 q2 q3 q4 q5 q6 q7 Q h=>by
 obtain⟨I6,h⟩:=h
 exact fun gv s MB I8 rP rN rQ rM E Qr f1 m Qq f2 E1 Jn f3 m1 I9 f4 KU l Lg=>allEq<| ⟨fun m2 i1 s2 s3 s4 s5=>(m2=(11 - i1).toNat)∧(0≤i1∧i1≤11)∧(s2=(DB.je i1.toNat).pd)∧(s3=(DB.je i1.toNat).mem)∧(s4=s2)∧(s5=s3),⟨_,rfl,(by omega),(by rw [Qr];rfl),(by rw [Qq];rfl),(by rw [Qr,Jn]),(by rw [Qq,I9])⟩,fun m2 _ i1 s2 s3 s4 s5 ⟨hm,hi,Uk,VK,hFa,hNa⟩=>(by have Ol:l=gA:=Lg;clear Lg;(have hon:s2.on s3=DB.je i1.toNat:=by rw [Uk,VK,DB.ur]);(have KL:=fun h=>DB.zD (i:=i1) h);exact fun f5 f6 f7 f8=>aB (fun c1=>af (by rw [Ol];exact⟨hi.1,by show i1<11;omega⟩) fun s9=>af (by rw [Ol];exact(yv i1 ⟨hi.1,by omega⟩).1) fun N5=>af (by subst_vars;rfl) fun Ly=>af (hFa.symm) fun OH=>af (hNa.symm) fun Nj=>af (by rw [Ol];exact(yv i1 ⟨hi.1,by omega⟩).2) fun OG=>af (by rw [VK,DB.Gz];decide) fun O4 E2 JA f16 m4 Ml f17 E3 Nd f18 m5 OA f19=>allEq<| ⟨_,(by(have h8:=ak (x:=i1+1) (by omega));omega),rfl,(by(have h8:=ak (x:=i1+1) (by omega));omega),(by rw [JA,hon,KL ⟨hi.1,by omega⟩,Ol]),(by rw [Ml,hon,KL ⟨hi.1,by omega⟩,Ol]),(by rw [JA,Nd]),(by rw [Ml,OA])⟩) fun c1=>allEq<| ⟨fun m4 i3 M8 O3=>(m4=(8 - i3).toNat)∧(0≤i3∧i3≤8)∧(M8=((DB.je 11).wrs 0 3 (([q0,q1,q2,q3,q4,q5,q6,q7]:List Int).take i3.toNat)).mem)∧(O3=M8),⟨_,rfl,(by omega),(by(have e:=show i1.toNat=11 by omega);rw [VK,e];rfl),‹_›⟩,fun m4 _ i3 M8 O3 ⟨hm,Qf,hM,hN⟩=>fun f20 f21=>aB (fun c2=>af (by rw [MB];exact⟨⟨Qf.1,by show i3<8;omega⟩,by omega⟩) fun s22=>af (by rw [MB];exact GA I6 ⟨Qf.1,by omega⟩) fun TS m6 Le f24 m7 MC f25=>wV (fun c3=>(by exfalso;simp [hN]at c3)) fun c3=>allEq<| ⟨_,(by(have h8:=ak (x:=i3+1) (by omega));omega),rfl,(by(have h8:=ak (x:=i3+1) (by omega));omega),(by rw [DB.BW rfl ⟨Qf.1,by omega⟩,Le,hM,MB,GB ⟨Qf.1,by omega⟩];rfl),(by rw [Le,MC,hN])⟩) fun c2=>af (by have e:i1.toNat=11:=(by omega);rw [hM,Uk,e];exact(DB.IE _).symm) fun UG=>aG (fun c4=>(by exfalso;have e:i1.toNat=11:=(by omega);have e3:i3.toNat=8:=(by omega);rw [DB.HK (by rw [Uk,e]) (by rw [hM,e3];rfl),DB.Gx rfl]at c4;exact c4 rfl)) fun c4=>(by(have e:=show i1.toNat=11 by omega);(have e3:=show i3.toNat=8 by omega);(have hP:s2=(DB.two [q0,q1,q2,q3,q4,q5,q6,q7]).pd:=by rw [Uk,e,DB.sr]);(have hR:M8=(DB.two [q0,q1,q2,q3,q4,q5,q6,q7]).mem:=by rw [hM,e3];rfl);rw [hP]at hFa;rw [hR]at hN;exact av (h I8 rP rN rQ rM) rfl rfl (ab (congrArg (fun l=>Res.blk (U:=Un) _ l _) rfl) (ab (rO1 (by(symm;assumption))) (ab (rO0 (by(symm;assumption))) (ab (rO3 (by(symm;assumption))) (ab (rO2 (by(symm;assumption))) rfl))))))⟩)⟩)
def ij:Ctr Un:=⟨[.one (.ptr 0),.agg [.int .u32,.int .u32,.int .u32,.int .u32,.int .u32,.int .u32,.int .u32,.int .u32],.one (.hdr),.one (.int .u32),.enc 6],[],[.blk [.obj 2 0,.obj 1 0,.any] 30,.ob 1 [(1,2,0)],.ob 0 []],[1,2],fun k0 k1 k2 k3 k4 k5 k6 k7 wA wN wC n f g z r E rm m K=>E.n=m.S∧((n:Int)=3∨(n:Int)=4)∧(E.on m).bk 5∧(0≤((f.rs.getD 1 (U32.mk 0)).v:Int)∧((f.rs.getD 1 (U32.mk 0)).v:Int)<4294967296)∧(0≤((f.rs.getD 2 (U32.mk 0)).v:Int)∧((f.rs.getD 2 (U32.mk 0)).v:Int)<4294967296)∧K ⟨(.tuple #[(.agg ⟨Fl.cells (Fl.r0 f (DB.svC (E.on m) n ((E.on m).entry 5).owner (f.rs.getD 1 (U32.mk 0)).v (f.rs.getD 2 (U32.mk 0)).v))⟩),(.bool true)]),(some (.t [none,none])),[.ob 1 ((DB.svD (E.on m) n ((E.on m).entry 5).owner (f.rs.getD 1 (U32.mk 0)).v (f.rs.getD 2 (U32.mk 0)).v).pd),.ob 0 ((DB.svD (E.on m) n ((E.on m).entry 5).owner (f.rs.getD 1 (U32.mk 0)).v (f.rs.getD 2 (U32.mk 0)).v).mem)],[],[]⟩⟩
def Bt(k0:Int)(k1:Int)(k2:Int)(k3:Int)(k4:Int)(k5:Int)(k6:Int)(k7:Int)(wA:Option Addr)(wN:Nat)(wC:Nat)(n:Int)(f:Fl)(g:Nat)(z:Value)(r:Nat→Nat)(E:Pd)(rm:Nat→Nat)(m:Mem)(Q:Ou Un→Prop):Prop:=
 Pd.Ok E→
 Mem.Wf m→
 ∀(gv:Nat),
 ∀(s:List U32),s=([U32.mk k0,U32.mk k1,U32.mk k2,U32.mk k3,U32.mk k4,U32.mk k5,U32.mk k6,U32.mk k7]:List U32)→
 ∀(I8:Nat),
 ∀(s1:Fl),s1=(Fl.norm f)→
 Fl.Ok s1→
 ∀(KU:Nat),
 ∀(s2:Fl),s2=Fl.zero→
 Fl.Ok s2→
 (s.length=8)∧
 True∧
 (E.n=m.S∧
  (n=3∨n=4)∧
  (E.on m).bk 5∧
  (0≤((Fl.norm s1).rs.getD 1 (U32.mk 0)).v∧((Fl.norm s1).rs.getD 1 (U32.mk 0)).v<4294967296)∧
  (0≤((Fl.norm s1).rs.getD 2 (U32.mk 0)).v∧((Fl.norm s1).rs.getD 2 (U32.mk 0)).v<4294967296)∧
  ∀(E1:Pd),E1=(DB.svD (E.on m) n ((E.on m).entry 5).owner ((Fl.norm s1).rs.getD 1 (U32.mk 0)).v ((Fl.norm s1).rs.getD 2 (U32.mk 0)).v).pd→
  Pd.Ok E1→
  ∀(m1:Mem),m1=(DB.svD (E.on m) n ((E.on m).entry 5).owner ((Fl.norm s1).rs.getD 1 (U32.mk 0)).v ((Fl.norm s1).rs.getD 2 (U32.mk 0)).v).mem→
  Mem.Wf m1→
  ∀(KT:Nat),
  ∀(s3:Fl),s3=Fl.zero→
  Fl.Ok s3→
  True∧
  ∀(s4:Fl),s4=(Fl.norm (Fl.r0 (Fl.norm s1) (DB.svC (E.on m) n ((E.on m).entry 5).owner ((Fl.norm s1).rs.getD 1 (U32.mk 0)).v ((Fl.norm s1).rs.getD 2 (U32.mk 0)).v)))→
  Fl.Ok s4→
  ∃J:Bool→Fl→Prop,(
   True∧
   True∧
   ∀(s5:Fl),s5=(Fl.norm s4)→
   Fl.Ok s5→
   J true s5)∧∀(KR:Nat→Value)(JS:Bool)(s5:Fl),J JS s5→
  Fl.Ok s5→
  True∧
  Q ⟨(.tuple #[(.agg ⟨Fl.cells s5⟩),(.bool JS)]),(some (.t [none,none])),[.ob 1 E1,.ob 0 m1],[],[]⟩)∧
 (∀(KT:Nat),
  ∀(s3:Fl),s3=Fl.zero→
  Fl.Ok s3→
  E.n=m.S∧
  (n=3∨n=4)∧
  (E.on m).bk 5∧
  (0≤((Fl.norm s1).rs.getD 1 (U32.mk 0)).v∧((Fl.norm s1).rs.getD 1 (U32.mk 0)).v<4294967296)∧
  (0≤((Fl.norm s1).rs.getD 2 (U32.mk 0)).v∧((Fl.norm s1).rs.getD 2 (U32.mk 0)).v<4294967296)∧
  ∀(E1:Pd),E1=(DB.svD (E.on m) n ((E.on m).entry 5).owner ((Fl.norm s1).rs.getD 1 (U32.mk 0)).v ((Fl.norm s1).rs.getD 2 (U32.mk 0)).v).pd→
  Pd.Ok E1→
  ∀(m1:Mem),m1=(DB.svD (E.on m) n ((E.on m).entry 5).owner ((Fl.norm s1).rs.getD 1 (U32.mk 0)).v ((Fl.norm s1).rs.getD 2 (U32.mk 0)).v).mem→
  Mem.Wf m1→
  True∧
  ∀(s4:Fl),s4=(Fl.norm (Fl.r0 (Fl.norm s1) (DB.svC (E.on m) n ((E.on m).entry 5).owner ((Fl.norm s1).rs.getD 1 (U32.mk 0)).v ((Fl.norm s1).rs.getD 2 (U32.mk 0)).v)))→
  Fl.Ok s4→
  ∃J:Bool→Fl→Prop,(
   True∧
   True∧
   ∀(s5:Fl),s5=(Fl.norm s4)→
   Fl.Ok s5→
   J true s5)∧∀(KR:Nat→Value)(JS:Bool)(s5:Fl),J JS s5→
  Fl.Ok s5→
  True∧
  Q ⟨(.tuple #[(.agg ⟨Fl.cells s5⟩),(.bool JS)]),(some (.t [none,none])),[.ob 1 E1,.ob 0 m1],[],[]⟩)
theorem Bu:Vc2 Un prog (aQ [(22,pD),(9,cC)]) [] Tryz.f7 (.r' (.two (.node [] none [] [(3,[0]),(4,[3]),(7,[4])] .leaf .leaf) (.two (.node [] (some ⟨[(11,(.one .bool))],[],[11]++upN 30 12,[(5,(.ob 10))]⟩) [] [(0,[6])] .leaf .leaf) .leaf))) [] ij=(∀k0 k1 k2 k3 k4 k5 k6 k7 wA wN wC n (f:Fl) g z r (E:Pd) rm (m:Mem),∀Q,(ij.body k0 k1 k2 k3 k4 k5 k6 k7 wA wN wC n f g z r E rm m Q)→Bt k0 k1 k2 k3 k4 k5 k6 k7 wA wN wC n f g z r E rm m Q):=by kernel_rfl
theorem Bs:LV Un prog 7 ij:=verify Tryz.func7 aa (tb:= [(22,pD),(9,cC)]) ⟨Hq,jE,trivial⟩ (by kernel_rfl) (Bu.mpr fun k0 k1 k2 k3 k4 k5 k6 k7 wA wN wC n f g z r E rm m Q h=>by
 obtain⟨I6,Ja,Jw,P5,Pz,h⟩:=h
 exact fun f1 f2 gv s MB I8 s1 Kd f3 KU s2 LB f4=>af (by subst MB;rfl) fun s5=>af trivial fun _=>⟨af ‹_› fun s7=>af ‹_› fun s8=>af ‹_› fun s9=>af (by subst Kd;exact P5) fun N5=>af (by subst Kd;exact Pz) fun Ly E1 Jn f12 m1 I9 f13 KT s3 Kt f14=>af trivial fun _ s4 Kz f16=>dup2<| af trivial fun _=>af trivial fun _ s5 K5 f19 f20=>af trivial fun _=>av h (congrArg (fun l=>Value.tuple (List.toArray l)) (ab (congrArg (fun s:Fl=>Value.agg ⟨Fl.cells s⟩) (by subst_vars;rfl)) (ab rfl rfl))) (ab (uO1 (by subst_vars;rfl)) (ab (uO0 (by subst_vars;rfl)) rfl)) rfl,fun KT s3 Kt f22=>af ‹_› fun TS=>af ‹_› fun s24=>af ‹_› fun UH=>af (by subst Kd;exact P5) fun UG=>af (by subst Kd;exact Pz) fun s27 E1 Jn f28 m1 I9 f29=>af trivial fun _ s4 Kz f31=>dup2<| af trivial fun _=>af trivial fun _ s5 K5 f34 f35=>af trivial fun _=>av h (congrArg (fun l=>Value.tuple (List.toArray l)) (ab (congrArg (fun s:Fl=>Value.agg ⟨Fl.cells s⟩) (by subst_vars;rfl)) (ab rfl rfl))) (ab (uO1 (by subst_vars;rfl)) (ab (uO0 (by subst_vars;rfl)) rfl)) rfl⟩)
attribute [local irreducible] DB.two DB.lx DB.ku DB.ly DB.nB DB.eu Mem.same Mem.blank DB.f1 DB.W
def iV:Ctr Un:=⟨[.one (.int .u32),.one (.int .u32),.one (.int .u32),.one (.int .i64)],[],[],[],fun word wrong v off K=>(0≤(word:Int)∧(word:Int)<4294967296)∧(0≤(wrong:Int)∧(wrong:Int)<4294967296)∧(0≤(v:Int)∧(v:Int)<4294967296)∧K ⟨(.bool true),none,[],[],[]⟩⟩
def tF(word:Int)(wrong:Int)(v:Int)(off:Int)(Q:Ou Un→Prop):Prop:=
 (∀x∈([1,0,0,0,0,0,0,0]:List Int),0≤x∧x<4294967296)∧
 ∀(gv:Nat)(rP:Nat→Nat)(rN:Nat→Nat)(rQ:Nat→Nat)(rM:Nat→Nat),
 ∀(E:Pd),E=(DB.two [1,0,0,0,0,0,0,0]).pd→
 Pd.Ok E→
 ∀(m:Mem),m=(DB.two [1,0,0,0,0,0,0,0]).mem→
 Mem.Wf m→
 ∀(E1:Pd),E1=(DB.two [1,0,0,0,0,0,0,0]).pd→
 Pd.Ok E1→
 ∀(m1:Mem),m1=(DB.two [1,0,0,0,0,0,0,0]).mem→
 Mem.Wf m1→
 E.n=m.S∧
 ∀(Pp:Nat→Nat)(rM1:Nat→Nat),
 ∀(E2:Pd),E2=E→
 Pd.Ok E2→
 ∀(m2:Mem),m2=m→
 Mem.Wf m2→
 ∀(I8:Nat),
 ∀(s:Fl),s=Fl.zero→
 Fl.Ok s→
 True∧
 ∀(s1:Fl),s1=(Fl.norm (Fl.start 4096 0 4 word))→
 Fl.Ok s1→
 True∧
 E.n=m.S∧
 ((3:Int)=3∨(3:Int)=4)∧
 (E.on m).bk 5∧
 (0≤((Fl.norm s1).rs.getD 1 (U32.mk 0)).v∧((Fl.norm s1).rs.getD 1 (U32.mk 0)).v<4294967296)∧
 (0≤((Fl.norm s1).rs.getD 2 (U32.mk 0)).v∧((Fl.norm s1).rs.getD 2 (U32.mk 0)).v<4294967296)∧
 ∀(E3:Pd),E3=(DB.svD (E.on m) 3 ((E.on m).entry 5).owner ((Fl.norm s1).rs.getD 1 (U32.mk 0)).v ((Fl.norm s1).rs.getD 2 (U32.mk 0)).v).pd→
 Pd.Ok E3→
 ∀(m3:Mem),m3=(DB.svD (E.on m) 3 ((E.on m).entry 5).owner ((Fl.norm s1).rs.getD 1 (U32.mk 0)).v ((Fl.norm s1).rs.getD 2 (U32.mk 0)).v).mem→
 Mem.Wf m3→
 ∀(KU:Nat),
 ∀(s2:Fl),s2=Fl.zero→
 Fl.Ok s2→
 True∧
 ∀(s3:Fl),s3=(Fl.norm (Fl.r0 (Fl.norm s1) (DB.svC (E.on m) 3 ((E.on m).entry 5).owner ((Fl.norm s1).rs.getD 1 (U32.mk 0)).v ((Fl.norm s1).rs.getD 2 (U32.mk 0)).v)))→
 Fl.Ok s3→
 (0≤word∧word<4294967296)∧
 ∀(KT:Nat),
 ∃J:Bool→Prop,(
  split ((eS word)==0) (
   split (decide ((aF word)<4194304)) (
    split ((aF word) !=4096) (
     ∀fits:Bool,fits=(((aF word):Int) !=8192)→
     J fits) (
     ∀fits:Bool,fits=false→
     J fits)) (
    ∀fits:Bool,fits=false→
    J fits)) (
   ∀fits:Bool,fits=false→
   J fits))∧∀(KR:Nat→Value)(fits:Bool),J fits→
 ∃J1:Bool→Prop,(
  ((0≤(0:Int)∧(0:Int)<((Fl.rs s3).length:Int))∧(0:Int)<(15:Int))∧
  J1 (!((((Fl.rs s3).getD (Int.toNat 0) (U32.mk 0)).v==0)==fits)))∧∀(VX:Nat→Value)(x73:Bool),J1 x73→
 split x73 (
  Q ⟨(.bool false),none,[],[],[]⟩) (
  split (!fits) (
   Q ⟨(.bool (m3.same m2)),none,[],[],[]⟩) (
   (E3.n=m3.S∧
    (0≤(aF word)∧(aF word)<4294967296)∧
    ∀(m4:Mem),m4=m3→
    Mem.Wf m4→
    ∀(VO:Nat),
    ∀(m5:Mem),m5=m4→
    Mem.Wf m5→
    ∃J2:Bool→Prop,(
     split (!(aK #[(.bool (((E3.on m3).atM 0 (aF word)).aO)),(.int .i64 (((E3.on m3).atM 0 (aF word)).ah)),(.bool (((E3.on m3).atM 0 (aF word)).write)),(.bool (((E3.on m3).atM 0 (aF word)).exec))] #[(.bool true),(.int .i64 4),(.bool (paW word)),(.bool (paX word))])) (
      J2 true) (
      split (((E3.on m3).ew 0 (aF word)) !=0) (
       J2 true) (
       J2 (!(m4.blank true 4)))))∧∀(VW:Nat→Value)(N1:Bool),J2 N1→
    split N1 (
     Q ⟨(.bool false),none,[],[],[]⟩) (
     True∧
     E3.n=m5.S∧
     ((3:Int)=3∨(3:Int)=4)∧
     (E3.on m5).bk 5∧
     (0≤((Fl.norm s1).rs.getD 1 (U32.mk 0)).v∧((Fl.norm s1).rs.getD 1 (U32.mk 0)).v<4294967296)∧
     (0≤((Fl.norm s1).rs.getD 2 (U32.mk 0)).v∧((Fl.norm s1).rs.getD 2 (U32.mk 0)).v<4294967296)∧
     ∀(E4:Pd),E4=(DB.svD (E3.on m5) 3 ((E3.on m5).entry 5).owner ((Fl.norm s1).rs.getD 1 (U32.mk 0)).v ((Fl.norm s1).rs.getD 2 (U32.mk 0)).v).pd→
     Pd.Ok E4→
     ∀(m6:Mem),m6=(DB.svD (E3.on m5) 3 ((E3.on m5).entry 5).owner ((Fl.norm s1).rs.getD 1 (U32.mk 0)).v ((Fl.norm s1).rs.getD 2 (U32.mk 0)).v).mem→
     Mem.Wf m6→
     True∧
     ∀(s4:Fl),s4=(Fl.norm (Fl.r0 (Fl.norm s1) (DB.svC (E3.on m5) 3 ((E3.on m5).entry 5).owner ((Fl.norm s1).rs.getD 1 (U32.mk 0)).v ((Fl.norm s1).rs.getD 2 (U32.mk 0)).v)))→
     Fl.Ok s4→
     ∃J3:Bool→Prop,(
      ((0≤(0:Int)∧(0:Int)<((Fl.rs s4).length:Int))∧(0:Int)<(15:Int))∧
      J3 (((Fl.rs s4).getD (Int.toNat 0) (U32.mk 0)).v !=18))∧∀(VV:Nat→Value)(NX:Bool),J3 NX→
     split NX (
      Q ⟨(.bool false),none,[],[],[]⟩) (
      (0≤v∧v<4294967296)∧
      ∀(m7:Mem),m7=(m6.write true 4 ((i64.wrap (((off:Int).tmod 1024)+1024):Int).tmod 1024) v)→
      Mem.Wf m7→
      E4.n=m7.S∧
      ((4:Int)=3∨(4:Int)=4)∧
      (E4.on m7).bk 5∧
      (0≤((Fl.norm (Fl.start 4096 0 4 wrong)).rs.getD 1 (U32.mk 0)).v∧((Fl.norm (Fl.start 4096 0 4 wrong)).rs.getD 1 (U32.mk 0)).v<4294967296)∧
      (0≤((Fl.norm (Fl.start 4096 0 4 wrong)).rs.getD 2 (U32.mk 0)).v∧((Fl.norm (Fl.start 4096 0 4 wrong)).rs.getD 2 (U32.mk 0)).v<4294967296)∧
      ∀(E5:Pd),E5=(DB.svD (E4.on m7) 4 ((E4.on m7).entry 5).owner ((Fl.norm (Fl.start 4096 0 4 wrong)).rs.getD 1 (U32.mk 0)).v ((Fl.norm (Fl.start 4096 0 4 wrong)).rs.getD 2 (U32.mk 0)).v).pd→
      Pd.Ok E5→
      ∀(m8:Mem),m8=(DB.svD (E4.on m7) 4 ((E4.on m7).entry 5).owner ((Fl.norm (Fl.start 4096 0 4 wrong)).rs.getD 1 (U32.mk 0)).v ((Fl.norm (Fl.start 4096 0 4 wrong)).rs.getD 2 (U32.mk 0)).v).mem→
      Mem.Wf m8→
      True∧
      ∀(s5:Fl),s5=(Fl.norm (Fl.r0 (Fl.norm (Fl.start 4096 0 4 wrong)) (DB.svC (E4.on m7) 4 ((E4.on m7).entry 5).owner ((Fl.norm (Fl.start 4096 0 4 wrong)).rs.getD 1 (U32.mk 0)).v ((Fl.norm (Fl.start 4096 0 4 wrong)).rs.getD 2 (U32.mk 0)).v)))→
      Fl.Ok s5→
      ∃J4:Bool→Prop,(
       ((0≤(0:Int)∧(0:Int)<((Fl.rs s5).length:Int))∧(0:Int)<(15:Int))∧
       J4 (!((((Fl.rs s5).getD (Int.toNat 0) (U32.mk 0)).v==0)==(wrong==word))))∧∀(VU:Nat→Value)(NP:Bool),J4 NP→
      split NP (
       Q ⟨(.bool false),none,[],[],[]⟩) (
       split (wrong !=word) (
        True∧
        E5.n=m8.S∧
        ((4:Int)=3∨(4:Int)=4)∧
        (E5.on m8).bk 5∧
        (0≤((Fl.norm s1).rs.getD 1 (U32.mk 0)).v∧((Fl.norm s1).rs.getD 1 (U32.mk 0)).v<4294967296)∧
        (0≤((Fl.norm s1).rs.getD 2 (U32.mk 0)).v∧((Fl.norm s1).rs.getD 2 (U32.mk 0)).v<4294967296)∧
        ∀(E6:Pd),E6=(DB.svD (E5.on m8) 4 ((E5.on m8).entry 5).owner ((Fl.norm s1).rs.getD 1 (U32.mk 0)).v ((Fl.norm s1).rs.getD 2 (U32.mk 0)).v).pd→
        Pd.Ok E6→
        ∀(m9:Mem),m9=(DB.svD (E5.on m8) 4 ((E5.on m8).entry 5).owner ((Fl.norm s1).rs.getD 1 (U32.mk 0)).v ((Fl.norm s1).rs.getD 2 (U32.mk 0)).v).mem→
        Mem.Wf m9→
        True∧
        ∀(s6:Fl),s6=(Fl.norm (Fl.r0 (Fl.norm s1) (DB.svC (E5.on m8) 4 ((E5.on m8).entry 5).owner ((Fl.norm s1).rs.getD 1 (U32.mk 0)).v ((Fl.norm s1).rs.getD 2 (U32.mk 0)).v)))→
        Fl.Ok s6→
        ∃J5:Bool→Prop,(
         ((0≤(0:Int)∧(0:Int)<((Fl.rs s6).length:Int))∧(0:Int)<(15:Int))∧
         J5 (((Fl.rs s6).getD (Int.toNat 0) (U32.mk 0)).v !=0))∧∀(TP:Nat→Value)(NM:Bool),J5 NM→
        split NM (
         Q ⟨(.bool false),none,[],[],[]⟩) (
         E6.n=m9.S∧
         ∀(Qt:Nat),
         ∃J6:Bool→Prop,(
          split (((E6.on m9).entry 4).typ==6) (
           J6 (m9.same m2)) (
           J6 false))∧∀(TN:Nat→Value)(x8:Bool),J6 x8→
         Q ⟨(.bool x8),none,[],[],[]⟩)) (
        E5.n=m8.S∧
        ∀(Qu:Nat),
        ∃J5:Bool→Prop,(
         split (((E5.on m8).entry 4).typ==6) (
          J5 (m8.same m2)) (
          J5 false))∧∀(TO:Nat→Value)(x8:Bool),J5 x8→
        Q ⟨(.bool x8),none,[],[],[]⟩)))))∧
   (∀(VO:Nat),
    E3.n=m3.S∧
    (0≤(aF word)∧(aF word)<4294967296)∧
    ∀(m4:Mem),m4=m3→
    Mem.Wf m4→
    ∀(m5:Mem),m5=m4→
    Mem.Wf m5→
    ∃J2:Bool→Prop,(
     split (!(aK #[(.bool (((E3.on m3).atM 0 (aF word)).aO)),(.int .i64 (((E3.on m3).atM 0 (aF word)).ah)),(.bool (((E3.on m3).atM 0 (aF word)).write)),(.bool (((E3.on m3).atM 0 (aF word)).exec))] #[(.bool true),(.int .i64 4),(.bool (paW word)),(.bool (paX word))])) (
      J2 true) (
      split (((E3.on m3).ew 0 (aF word)) !=0) (
       J2 true) (
       J2 (!(m4.blank true 4)))))∧∀(VW:Nat→Value)(N1:Bool),J2 N1→
    split N1 (
     Q ⟨(.bool false),none,[],[],[]⟩) (
     True∧
     E3.n=m5.S∧
     ((3:Int)=3∨(3:Int)=4)∧
     (E3.on m5).bk 5∧
     (0≤((Fl.norm s1).rs.getD 1 (U32.mk 0)).v∧((Fl.norm s1).rs.getD 1 (U32.mk 0)).v<4294967296)∧
     (0≤((Fl.norm s1).rs.getD 2 (U32.mk 0)).v∧((Fl.norm s1).rs.getD 2 (U32.mk 0)).v<4294967296)∧
     ∀(E4:Pd),E4=(DB.svD (E3.on m5) 3 ((E3.on m5).entry 5).owner ((Fl.norm s1).rs.getD 1 (U32.mk 0)).v ((Fl.norm s1).rs.getD 2 (U32.mk 0)).v).pd→
     Pd.Ok E4→
     ∀(m6:Mem),m6=(DB.svD (E3.on m5) 3 ((E3.on m5).entry 5).owner ((Fl.norm s1).rs.getD 1 (U32.mk 0)).v ((Fl.norm s1).rs.getD 2 (U32.mk 0)).v).mem→
     Mem.Wf m6→
     True∧
     ∀(s4:Fl),s4=(Fl.norm (Fl.r0 (Fl.norm s1) (DB.svC (E3.on m5) 3 ((E3.on m5).entry 5).owner ((Fl.norm s1).rs.getD 1 (U32.mk 0)).v ((Fl.norm s1).rs.getD 2 (U32.mk 0)).v)))→
     Fl.Ok s4→
     ∃J3:Bool→Prop,(
      ((0≤(0:Int)∧(0:Int)<((Fl.rs s4).length:Int))∧(0:Int)<(15:Int))∧
      J3 (((Fl.rs s4).getD (Int.toNat 0) (U32.mk 0)).v !=18))∧∀(VV:Nat→Value)(NX:Bool),J3 NX→
     split NX (
      Q ⟨(.bool false),none,[],[],[]⟩) (
      (0≤v∧v<4294967296)∧
      ∀(m7:Mem),m7=(m6.write true 4 ((i64.wrap (((off:Int).tmod 1024)+1024):Int).tmod 1024) v)→
      Mem.Wf m7→
      E4.n=m7.S∧
      ((4:Int)=3∨(4:Int)=4)∧
      (E4.on m7).bk 5∧
      (0≤((Fl.norm (Fl.start 4096 0 4 wrong)).rs.getD 1 (U32.mk 0)).v∧((Fl.norm (Fl.start 4096 0 4 wrong)).rs.getD 1 (U32.mk 0)).v<4294967296)∧
      (0≤((Fl.norm (Fl.start 4096 0 4 wrong)).rs.getD 2 (U32.mk 0)).v∧((Fl.norm (Fl.start 4096 0 4 wrong)).rs.getD 2 (U32.mk 0)).v<4294967296)∧
      ∀(E5:Pd),E5=(DB.svD (E4.on m7) 4 ((E4.on m7).entry 5).owner ((Fl.norm (Fl.start 4096 0 4 wrong)).rs.getD 1 (U32.mk 0)).v ((Fl.norm (Fl.start 4096 0 4 wrong)).rs.getD 2 (U32.mk 0)).v).pd→
      Pd.Ok E5→
      ∀(m8:Mem),m8=(DB.svD (E4.on m7) 4 ((E4.on m7).entry 5).owner ((Fl.norm (Fl.start 4096 0 4 wrong)).rs.getD 1 (U32.mk 0)).v ((Fl.norm (Fl.start 4096 0 4 wrong)).rs.getD 2 (U32.mk 0)).v).mem→
      Mem.Wf m8→
      True∧
      ∀(s5:Fl),s5=(Fl.norm (Fl.r0 (Fl.norm (Fl.start 4096 0 4 wrong)) (DB.svC (E4.on m7) 4 ((E4.on m7).entry 5).owner ((Fl.norm (Fl.start 4096 0 4 wrong)).rs.getD 1 (U32.mk 0)).v ((Fl.norm (Fl.start 4096 0 4 wrong)).rs.getD 2 (U32.mk 0)).v)))→
      Fl.Ok s5→
      ∃J4:Bool→Prop,(
       ((0≤(0:Int)∧(0:Int)<((Fl.rs s5).length:Int))∧(0:Int)<(15:Int))∧
       J4 (!((((Fl.rs s5).getD (Int.toNat 0) (U32.mk 0)).v==0)==(wrong==word))))∧∀(VU:Nat→Value)(NP:Bool),J4 NP→
      split NP (
       Q ⟨(.bool false),none,[],[],[]⟩) (
       split (wrong !=word) (
        True∧
        E5.n=m8.S∧
        ((4:Int)=3∨(4:Int)=4)∧
        (E5.on m8).bk 5∧
        (0≤((Fl.norm s1).rs.getD 1 (U32.mk 0)).v∧((Fl.norm s1).rs.getD 1 (U32.mk 0)).v<4294967296)∧
        (0≤((Fl.norm s1).rs.getD 2 (U32.mk 0)).v∧((Fl.norm s1).rs.getD 2 (U32.mk 0)).v<4294967296)∧
        ∀(E6:Pd),E6=(DB.svD (E5.on m8) 4 ((E5.on m8).entry 5).owner ((Fl.norm s1).rs.getD 1 (U32.mk 0)).v ((Fl.norm s1).rs.getD 2 (U32.mk 0)).v).pd→
        Pd.Ok E6→
        ∀(m9:Mem),m9=(DB.svD (E5.on m8) 4 ((E5.on m8).entry 5).owner ((Fl.norm s1).rs.getD 1 (U32.mk 0)).v ((Fl.norm s1).rs.getD 2 (U32.mk 0)).v).mem→
        Mem.Wf m9→
        True∧
        ∀(s6:Fl),s6=(Fl.norm (Fl.r0 (Fl.norm s1) (DB.svC (E5.on m8) 4 ((E5.on m8).entry 5).owner ((Fl.norm s1).rs.getD 1 (U32.mk 0)).v ((Fl.norm s1).rs.getD 2 (U32.mk 0)).v)))→
        Fl.Ok s6→
        ∃J5:Bool→Prop,(
         ((0≤(0:Int)∧(0:Int)<((Fl.rs s6).length:Int))∧(0:Int)<(15:Int))∧
         J5 (((Fl.rs s6).getD (Int.toNat 0) (U32.mk 0)).v !=0))∧∀(TP:Nat→Value)(NM:Bool),J5 NM→
        split NM (
         Q ⟨(.bool false),none,[],[],[]⟩) (
         E6.n=m9.S∧
         ∀(Qt:Nat),
         ∃J6:Bool→Prop,(
          split (((E6.on m9).entry 4).typ==6) (
           J6 (m9.same m2)) (
           J6 false))∧∀(TN:Nat→Value)(x8:Bool),J6 x8→
         Q ⟨(.bool x8),none,[],[],[]⟩)) (
        E5.n=m8.S∧
        ∀(Qu:Nat),
        ∃J5:Bool→Prop,(
         split (((E5.on m8).entry 4).typ==6) (
          J5 (m8.same m2)) (
          J5 false))∧∀(TO:Nat→Value)(x8:Bool),J5 x8→
        Q ⟨(.bool x8),none,[],[],[]⟩)))))))
theorem tG:Vc2 Un prog (aQ [(4,jD),(5,qh),(6,jG),(7,ij),(8,er),(9,cC),(11,cD),(10,tz),(12,kP),(14,du),(13,p8),(15,jC),(16,cE)]) [16] Tryz.f3 (.r' (.r' (.r' (.r' (.r' (.r' (.r' (.two (.node [] (some ⟨[(16,(.one .bool))],[],[16]++upN 46 18,[]⟩) [] [] .leaf .leaf) (.two (.two (.node [] (some ⟨[(73,(.one .bool))],[],upN 64 10,[]⟩) [] [] .leaf .leaf) .leaf) (.two (.r' (.two (.two (.node [] none [] [(3,[0])] .leaf .leaf) .leaf) .leaf)) (.two (.node [] none [] [(3,[0]),(5,[9])] .leaf .leaf) (.two (.node [] none [] [(3,[0])] .leaf .leaf) (.two (.two (.node [] (some ⟨[(118,(.one .bool))],[],upN 102 17,[]⟩) [] [(0,[10]),(3,[9]),(5,[9])] .leaf .leaf) .leaf) (.r' (.two (.two (.node [] (some ⟨[(133,(.one .bool))],[],upN 126 8,[]⟩) [] [] .leaf .leaf) .leaf) (.two (.node [] none [] [(3,[0])] .leaf .leaf) (.r' (.two (.two (.node [] (some ⟨[(164,(.one .bool))],[],upN 153 12,[]⟩) [] [] .leaf .leaf) .leaf) (.two (.r' (.two (.r' (.two (.node [] (some ⟨[(182,(.one .bool))],[],upN 175 8,[]⟩) [] [] .leaf .leaf) .leaf)) .leaf)) (.r' (.two (.node [] (some ⟨[(8,(.one .bool))],[],[8]++upN 191 12,[]⟩) [] [(1,[11]),(7,[0])] .leaf .leaf) .leaf))))))))))))))))))))) [] iV=(∀word wrong v off,∀Q,(iV.body word wrong v off Q)→tF word wrong v off Q):=by kernel_rfl
theorem tE:LV Un prog 3 iV:=verify Tryz.func3 aa (tb:= [(4,jD),(5,qh),(6,jG),(7,ij),(8,er),(9,cC),(11,cD),(10,tz),(12,kP),(14,du),(13,p8),(15,jC),(16,cE)]) ⟨D2,En,Ea,Bs,pU,jE,il,FW,DQ,nu,DZ,v7,im,trivial⟩ (by kernel_rfl) (tG.mpr fun word wrong v off Q h=>by
 obtain⟨I6,Ja,Jw,h⟩:=h
 exact af (by decide) fun s1 gv rP rN rQ rM E Qr f2 m Qq f3 E1 Jn f4 m1 I9 f5=>af (by rw [Qr,Qq];rfl) fun s6 Pp rM1 E2 JA f7 m2 Ke f8 I8=>(by(have hD:E.on m=DB.two [1,0,0,0,0,0,0,0]:=by rw [Qr,Qq,DB.ur]);have hN:=DB.BX (q:= [1,0,0,0,0,0,0,0]) rfl;rw [← hD]at hN;have hB:=hN.bw;exact fun s MB f9=>af trivial fun _ s1 Kd f11=>(by(have r1:((Fl.norm s1).rs.getD 1 (U32.mk 0)).v=4∧((Fl.norm s1).rs.getD 2 (U32.mk 0)).v=word:=by rw [Kd];exact⟨rfl,rfl⟩);have r2:((Fl.norm (Fl.start 4096 0 4 wrong)).rs.getD 1 (U32.mk 0)).v=4∧((Fl.norm (Fl.start 4096 0 4 wrong)).rs.getD 2 (U32.mk 0)).v=wrong:=⟨rfl,rfl⟩;exact af trivial fun _=>af (by rw [Qr,Qq];rfl) fun Nj=>af (by omega) fun OG=>af (hN.thr (DB.At _)) fun O4=>af (by rw [r1.1];omega) fun TU=>af (by rw [r1.2];exact I6) fun TT E3 Nd f18 m3 Jj f19=>(by rw [hN.own,r1.1,r1.2]at Nd Jj;(have h3:E3.on m3=DB.lx (E.on m) 0 4 word:=by rw [Nd,Jj];rfl);exact fun KU s2 LB f20=>af trivial fun _ s3 Kt f22=>(by(have v3:((Fl.rs s3).getD (Int.toNat 0) (U32.mk 0)).v=DB.ly (E.on m) 0 4 word:=by rw [Kt,hN.own,r1.1,r1.2];rfl);have Tt:=DB.G1 hN I6;have Tn:=DB.fits_eq word;exact af ‹_› fun TS KT=>bq ((((eS word):Int)==0) && ((decide (((aF word):Int)<4194304)) && ((((aF word):Int) !=4096) && (((aF word):Int) !=8192)))) (ae (fun c1=>ae (fun c2=>ae (fun c3=>allEq<| (by grind)) fun c3=>allEq<| (by grind)) fun c2=>allEq<| (by grind)) fun c1=>allEq<| (by grind))<| bq (!(((((Fl.rs s3).getD (Int.toNat 0) (U32.mk 0)).v:Int)==0)==((((eS word):Int)==0) && ((decide (((aF word):Int)<4194304)) && ((((aF word):Int) !=4096) && (((aF word):Int) !=8192)))))) (af (by exact⟨⟨by omega,by rw [show(Fl.rs _).length=15 by assumption];omega⟩,by omega⟩) fun s24=>(by grind))<| aY (fun c4=>bf h (by exfalso;rw [v3,Tt,Tn]at c4;simp at c4)) fun c4=>aY (fun c5=>bf h (by(have hf:DB.eu word=false:=by rw [← Tn];exact c5);have e:m3=m:=congrArg DB.mem (h3.trans (DB.G0 hN I6 hf));(have e2:m3.same m2=true:=by rw [e,Ke];exact DB.zM _);exact e2.symm)) fun c5=>(by(have hf:DB.eu word=true:=by rw [← Tn];exact c5);have n3:=DB.EU hN I6 hf;rw [← h3]at n3;exact⟨af (by subst_vars;rfl) fun UH=>af (eR I6) fun UG m4 Ml f27 VO m5 OA f28=>(by have n5:=n3;rw [← Ml,← OA]at n5;exact bq ((!(aK #[(.bool (((E3.on m3).atM 0 (aF word)).aO)),(.int .i64 (((E3.on m3).atM 0 (aF word)).ah)),(.bool (((E3.on m3).atM 0 (aF word)).write)),(.bool (((E3.on m3).atM 0 (aF word)).exec))] #[(.bool true),(.int .i64 4),(.bool (paW word)),(.bool (paX word))])) || (((((E3.on m3).ew 0 (aF word)):Int) !=0) || (!(m4.blank true 4)))) (ae (fun c6=>(by grind)) fun c6=>ae (fun c7=>(by grind)) fun c7=>(by grind))<| aM (fun c8=>bf h (by obtain⟨a1,a2⟩:=DB.Hl n3 DB.kb I6 hf (DB.Gj _ _);exfalso;(have a3:aK #[Value.bool ((E3.on m3).atM 0 (aF word)).aO,Value.int .i64 ((E3.on m3).atM 0 (aF word)).ah,Value.bool ((E3.on m3).atM 0 (aF word)).write,Value.bool ((E3.on m3).atM 0 (aF word)).exec] #[Value.bool true,Value.int .i64 4,Value.bool (paW word),Value.bool (paX word)]=true:=by rw [Hb];exact decide_eq_true a2);(have a4:m4.blank true 4=true:=by rw [Ml];exact DB.zi n3);exact c8.elim (fun c=>(by rw [a3]at c;exact absurd c (by decide))) (fun c=>(by rw [a1,a4]at c;exact absurd c (by decide))))) fun c8=>af trivial fun _=>af (by subst_vars;rfl) fun s30=>af ‹_› fun M8=>af (n5.thr DB.kb) fun s32=>af (by rw [r1.1];omega) fun s33=>af (by rw [r1.2];exact I6) fun s34 E4 MD f35 m6 Le f36=>(by rw [n5.own,r1.1,r1.2]at MD Le;(have h6:E4.on m6=E3.on m5:=by rw [MD,Le];exact(DB.jR (w:=word) n5).2);have n6:=n5;rw [← h6]at n6;exact af trivial fun _ s4 Kz f38=>(by(have v4:((Fl.rs s4).getD (Int.toNat 0) (U32.mk 0)).v=18:=by rw [Kz,n5.own,r1.1,r1.2];exact(DB.jR (w:=word) n5).1);exact bq ((((Fl.rs s4).getD (Int.toNat 0) (U32.mk 0)).v:Int) !=18) (af (by exact⟨⟨by omega,by rw [show(Fl.rs _).length=15 by assumption];omega⟩,by omega⟩) fun s39=>(by grind))<| aG (fun c9=>bf h (absurd v4 c9)) fun c9=>af ‹_› fun s40 m7 MC f41=>(by(have n7:=n6.wr (p:=4) (v:=v) (by omega) (DB.yM off));(rw [show(E4.on m6).wr 4 (((i64.wrap (((off:Int).tmod 1024)+1024):Int).tmod 1024)) v=E4.on m7 by rw [MC];rfl]at n7);exact af (by rw [MC,Mem.cV,MD,Le];rfl) fun s42=>af (by omega) fun s43=>af (n7.thr (DB.kb.upd (.inr rfl))) fun s44=>af (by rw [r2.1];omega) fun s45=>af (by rw [r2.2];exact Ja) fun s46 E5 OC f47 m8 Oz f48=>(by rw [n7.own,r2.1,r2.2]at OC Oz;(have h8:E5.on m8=DB.ku (E4.on m7) 0 4 wrong:=by rw [OC,Oz];rfl);exact af trivial fun _ s5 K5 f50=>(by(have v5:((Fl.rs s5).getD (Int.toNat 0) (U32.mk 0)).v=DB.nB (E4.on m7) 0 4 wrong:=by rw [K5,n7.own,r2.1,r2.2];rfl);have Vx:=DB.BV n7 I6 Ja hf;exact bq (!(((((Fl.rs s5).getD (Int.toNat 0) (U32.mk 0)).v:Int)==0)==((wrong:Int)==word))) (af (by exact⟨⟨by omega,by rw [show(Fl.rs _).length=15 by assumption];omega⟩,by omega⟩) fun O3=>(by grind))<| aY (fun Mn=>bf h (by exfalso;rw [v5,Vx]at Mn;simp at Mn)) fun Mn=>aG (fun Ng=>(by have n8:=n7;rw [← h8.trans (DB.BU n7 I6 Ja hf Ng)]at n8;exact af trivial fun _=>af (by subst_vars;rfl) fun s53=>af ‹_› fun s54=>af (n8.thr (DB.kb.upd (.inr rfl))) fun s55=>af (by rw [r1.1];omega) fun s56=>af (by rw [r1.2];exact I6) fun s57 E6 OB f58 m9 Oy f59=>(by rw [n8.own,r1.1,r1.2]at OB Oy;(have h9:E6.on m9=DB.ku (E5.on m8) 0 4 word:=by rw [OB,Oy];rfl);have n9:=DB.nJ n8 I6 hf;rw [← h9]at n9;exact af trivial fun _ s6 Ox f61=>(by(have v6:((Fl.rs s6).getD (Int.toNat 0) (U32.mk 0)).v=0:=by rw [Ox,n8.own,r1.1,r1.2];exact(DB.oh n8 I6 I6 hf).2 rfl);exact bq ((((Fl.rs s6).getD (Int.toNat 0) (U32.mk 0)).v:Int) !=0) (af (by exact⟨⟨by omega,by rw [show(Fl.rs _).length=15 by assumption];omega⟩,by omega⟩) fun s62=>(by grind))<| aG (fun QT=>bf h (absurd v6 QT)) fun QT=>af (by subst_vars;rfl) fun s63 Qt=>bq (((((E6.on m9).entry 4).typ:Int)==6) && (m9.same m2)) (ae (fun OQ=>(by grind)) fun OQ=>(by grind))<| bf h (by rw [n9.en (p:=4) (by omega),Ke,show m9.same m=true from DB.sv hB n9];rfl))))) fun Ng=>(by have n8:=DB.nJ n7 I6 hf;rw [← Ng,← h8]at n8;exact af (by subst_vars;rfl) fun s64 Qu=>bq (((((E5.on m8).entry 4).typ:Int)==6) && (m8.same m2)) (ae (fun TJ=>(by grind)) fun TJ=>(by grind))<| bf h (by rw [n8.en (p:=4) (by omega),Ke,show m8.same m=true from DB.sv hB n8];rfl)))))))),fun VO=>af (by subst_vars;rfl) fun s65=>af (eR I6) fun s66 m4 Ml f67 m5 OA f68=>(by have n5:=n3;rw [← Ml,← OA]at n5;exact bq ((!(aK #[(.bool (((E3.on m3).atM 0 (aF word)).aO)),(.int .i64 (((E3.on m3).atM 0 (aF word)).ah)),(.bool (((E3.on m3).atM 0 (aF word)).write)),(.bool (((E3.on m3).atM 0 (aF word)).exec))] #[(.bool true),(.int .i64 4),(.bool (paW word)),(.bool (paX word))])) || (((((E3.on m3).ew 0 (aF word)):Int) !=0) || (!(m4.blank true 4)))) (ae (fun c15=>(by grind)) fun c15=>ae (fun c16=>(by grind)) fun c16=>(by grind))<| aM (fun c17=>bf h (by obtain⟨a1,a2⟩:=DB.Hl n3 DB.kb I6 hf (DB.Gj _ _);exfalso;(have a3:aK #[Value.bool ((E3.on m3).atM 0 (aF word)).aO,Value.int .i64 ((E3.on m3).atM 0 (aF word)).ah,Value.bool ((E3.on m3).atM 0 (aF word)).write,Value.bool ((E3.on m3).atM 0 (aF word)).exec] #[Value.bool true,Value.int .i64 4,Value.bool (paW word),Value.bool (paX word)]=true:=by rw [Hb];exact decide_eq_true a2);(have a4:m4.blank true 4=true:=by rw [Ml];exact DB.zi n3);exact c17.elim (fun c=>(by rw [a3]at c;exact absurd c (by decide))) (fun c=>(by rw [a1,a4]at c;exact absurd c (by decide))))) fun c17=>af trivial fun _=>af (by subst_vars;rfl) fun s70=>af ‹_› fun s71=>af (n5.thr DB.kb) fun s72=>af (by rw [r1.1];omega) fun s73=>af (by rw [r1.2];exact I6) fun s74 E4 MD f75 m6 Le f76=>(by rw [n5.own,r1.1,r1.2]at MD Le;(have h6:E4.on m6=E3.on m5:=by rw [MD,Le];exact(DB.jR (w:=word) n5).2);have n6:=n5;rw [← h6]at n6;exact af trivial fun _ s4 Kz f78=>(by(have v4:((Fl.rs s4).getD (Int.toNat 0) (U32.mk 0)).v=18:=by rw [Kz,n5.own,r1.1,r1.2];exact(DB.jR (w:=word) n5).1);exact bq ((((Fl.rs s4).getD (Int.toNat 0) (U32.mk 0)).v:Int) !=18) (af (by exact⟨⟨by omega,by rw [show(Fl.rs _).length=15 by assumption];omega⟩,by omega⟩) fun s79=>(by grind))<| aG (fun c18=>bf h (absurd v4 c18)) fun c18=>af ‹_› fun s80 m7 MC f81=>(by(have n7:=n6.wr (p:=4) (v:=v) (by omega) (DB.yM off));(rw [show(E4.on m6).wr 4 (((i64.wrap (((off:Int).tmod 1024)+1024):Int).tmod 1024)) v=E4.on m7 by rw [MC];rfl]at n7);exact af (by rw [MC,Mem.cV,MD,Le];rfl) fun s82=>af (by omega) fun s83=>af (n7.thr (DB.kb.upd (.inr rfl))) fun s84=>af (by rw [r2.1];omega) fun s85=>af (by rw [r2.2];exact Ja) fun s86 E5 OC f87 m8 Oz f88=>(by rw [n7.own,r2.1,r2.2]at OC Oz;(have h8:E5.on m8=DB.ku (E4.on m7) 0 4 wrong:=by rw [OC,Oz];rfl);exact af trivial fun _ s5 K5 f90=>(by(have v5:((Fl.rs s5).getD (Int.toNat 0) (U32.mk 0)).v=DB.nB (E4.on m7) 0 4 wrong:=by rw [K5,n7.own,r2.1,r2.2];rfl);have Vx:=DB.BV n7 I6 Ja hf;exact bq (!(((((Fl.rs s5).getD (Int.toNat 0) (U32.mk 0)).v:Int)==0)==((wrong:Int)==word))) (af (by exact⟨⟨by omega,by rw [show(Fl.rs _).length=15 by assumption];omega⟩,by omega⟩) fun s91=>(by grind))<| aY (fun VS=>bf h (by exfalso;rw [v5,Vx]at VS;simp at VS)) fun VS=>aG (fun VR=>(by have n8:=n7;rw [← h8.trans (DB.BU n7 I6 Ja hf VR)]at n8;exact af trivial fun _=>af (by subst_vars;rfl) fun s93=>af ‹_› fun s94=>af (n8.thr (DB.kb.upd (.inr rfl))) fun s95=>af (by rw [r1.1];omega) fun s96=>af (by rw [r1.2];exact I6) fun s97 E6 OB f98 m9 Oy f99=>(by rw [n8.own,r1.1,r1.2]at OB Oy;(have h9:E6.on m9=DB.ku (E5.on m8) 0 4 word:=by rw [OB,Oy];rfl);have n9:=DB.nJ n8 I6 hf;rw [← h9]at n9;exact af trivial fun _ s6 Ox f101=>(by(have v6:((Fl.rs s6).getD (Int.toNat 0) (U32.mk 0)).v=0:=by rw [Ox,n8.own,r1.1,r1.2];exact(DB.oh n8 I6 I6 hf).2 rfl);exact bq ((((Fl.rs s6).getD (Int.toNat 0) (U32.mk 0)).v:Int) !=0) (af (by exact⟨⟨by omega,by rw [show(Fl.rs _).length=15 by assumption];omega⟩,by omega⟩) fun s102=>(by grind))<| aG (fun c21=>bf h (absurd v6 c21)) fun c21=>af (by subst_vars;rfl) fun s103 Qt=>bq (((((E6.on m9).entry 4).typ:Int)==6) && (m9.same m2)) (ae (fun c22=>(by grind)) fun c22=>(by grind))<| bf h (by rw [n9.en (p:=4) (by omega),Ke,show m9.same m=true from DB.sv hB n9];rfl))))) fun VR=>(by have n8:=DB.nJ n7 I6 hf;rw [← VR,← h8]at n8;exact af (by subst_vars;rfl) fun s104 Qu=>bq (((((E5.on m8).entry 4).typ:Int)==6) && (m8.same m2)) (ae (fun c23=>(by grind)) fun c23=>(by grind))<| bf h (by rw [n8.en (p:=4) (by omega),Ke,show m8.same m=true from DB.sv hB n8];rfl))))))))⟩))))))
end
end Go.Proofs.YtfgpafjlcgaimaaGreatDoor
namespace Go.Proofs.YtfgpafjlcgaimaaGreatDoor
open Go.Proofs.Tryz (prog)
open Go Go.RowKit V Go.ChangeShapes Go.WideShapes Go.ChangeAt
open Go.IntKind (i64 u32 u64)
open Enc (enc)
theorem EW:ownKnob prog.godebug=none:=by kernel_rfl
theorem gk:laidOutB prog=true:=by kernel_rfl
theorem CL(os:Os)(args:Array Value):laidMetH prog Rows.svcMapsRow.laid ((World.doorLaid prog 400 os).forCall (fun _ _=>0) ⟨#[],args,[]⟩).memory:=
 laidMetH_of_parts3 (fuel:=8) (laidMet_of_run' 8 (by kernel_rfl) (by kernel_rfl)) (by kernel_rfl) (by kernel_rfl)
set_option maxRecDepth 100000 in
theorem xt(os:Os)(started:os.Started)(H:Type)(enc:TypeId×Value→H):
 ReturnsInHanded {} Tryz.checked os 3 .any (fun w args=>(Rows.svcMapsSpec.pre enc prog Tryz.f3 [] false w args∧laidMetH prog Rows.svcMapsRow.laid w)∧sizedMet enc prog Tryz.f3 (OpenSpec.ofChange Rows.svcMapsSpec) false w args)
  (Rows.svcMapsSpec.post enc prog Tryz.f3 false true false false):=by
 refine returnsInHanded_of_change_and (C:=Tryz.checked) (X:=fun w _=>laidMetH prog Rows.svcMapsRow.laid w) (fun _ _ _ hh h=>h.of_heap hh) EW started (by kernel_rfl) Tryz.func3
  (ChangeSpec.witness_shaped (enc:=enc) (C:=Tryz.checked) (os:=os) (X:=fun w _=>laidMetH prog Rows.svcMapsRow.laid w) false (World.doorLaid prog 400 os) #[.int .u32 1,.int .u32 1,.int .u32 1,.int .i64 1] 8 rfl (World.shaped_of_RefB (by kernel_rfl) (by kernel_rfl)) (by kernel_rfl) (by kernel_rfl) (by kernel_rfl) (CL os _)) ?_
 intro W base args ds gs before Pt hW _ SO hL _
 have Js:(DataW.weightsEach prog (Tryz.f3.params.toList++Rows.svcMapsSpec.plain.varTypes prog) (ds++gs)).all (· ≤reachBytes)=true:=SO
 clear SO
 have Ob:∀(j:Nat) t v,Tryz.f3.params[j]? =some t→args[j]? =some v→Value.okWide prog W .any base t v:=Pt
 have hW':=hW
 obtain⟨p,q,hA0,hV,rfl,_,_⟩:=hW
 have hA:DataW.TrodAll enc prog W 0 (fun _=>true) true Tryz.f3.params.toList args.toList ds p:=hA0
 rw [Tryz.params3]at hA Ob Js
 obtain⟨v0,v1,v2,v3,d0,d1,d2,d3,p0,p1,p2,p3,rfl,rfl,rfl,h0,h1,h2,h3⟩:=trodAll_four hA
 obtain⟨rfl,rfl⟩:=trodVars_none hV
 obtain⟨x0,rfl,rfl,rfl,hx0⟩:=open_int Tryz.underlying22 (Ob 0 22 v0 rfl rfl) h0
 obtain⟨x1,rfl,rfl,rfl,QE⟩:=open_int Tryz.underlying22 (Ob 1 22 v1 rfl rfl) h1
 obtain⟨x2,rfl,rfl,rfl,TV⟩:=open_int Tryz.underlying22 (Ob 2 22 v2 rfl rfl) h2
 obtain⟨x3,rfl,rfl,rfl,_⟩:=open_int Tryz.underlying3 (Ob 3 3 v3 rfl rfl) h3
 clear hA0 Pt
 simp only [List.append_nil,List.nil_append]at hW'
 have hsat:Sat (U:=Un) [] (fun _ _=>False) W:=⟨fun i r hr=>(by simp [nth]at hr),fun i j hi=>absurd hi (by simp)⟩
 refine(tE x0 x1 x2 x3 (fun o=>o=_) ⟨wf_u32 hx0,wf_u32 QE,wf_u32 TV,rfl⟩ (fun _ _=>False) W hsat (fun _ _ h=>by cases h)).mono ?_
 rintro e W' ⟨out,rs',X',rfl,rfl,J8,hp⟩
 have Me:Pu W W':=hp.ch.mono fun k ⟨j,hj,_⟩=>by cases hj
 have hn:Below W.heap.size W W':=⟨Me.kept.os,Me.kept.tape,Me.kept.output,Me.kept.size,fun k hk=>Me.kept.block k ⟨hk,fun h=>h⟩⟩
 refine⟨_,rfl,_,_,_,[],[],[],hW',trodAll_mk1 (shut_bool Tryz.underlying4 _),?_,rfl,hn.frame _,fun h=>by cases h⟩
 have:=trodAll_mk4 (Below.trod gk (by kernel_rfl) (of_decide_eq_true (by kernel_rfl)) h0 hn (fun x hx=>by cases hx))
  (Below.trod gk (by kernel_rfl) (of_decide_eq_true (by kernel_rfl)) h1 hn (fun x hx=>by cases hx))
  (Below.trod gk (by kernel_rfl) (of_decide_eq_true (by kernel_rfl)) h2 hn (fun x hx=>by cases hx))
  (Below.trod gk (by kernel_rfl) (of_decide_eq_true (by kernel_rfl)) h3 hn (fun x hx=>by cases hx))
 simp only [List.nil_append]at this
 exact this
theorem tW:Rows.SvcMapsSaid:=
 OpenClaim.holds_of_wide 3 Tryz.f3 rfl rfl rfl rfl rfl rfl rfl ⟨rfl,rfl,rfl,rfl,rfl⟩ rfl rfl rfl rfl rfl (by kernel_rfl) Tryz.func3 (by kernel_rfl)
  (of_decide_eq_true (by kernel_rfl)) (by unfold Func.isWrapper;(rw [if_neg (by decide+kernel)];exact⟨rfl,rfl⟩))
  (fun os started H enc _=>xt os started H enc)
end Go.Proofs.YtfgpafjlcgaimaaGreatDoor
namespace Go.Proofs.YtfgpafjlcgaimaaGreatDoor
open Go.Proofs.Tryz (prog)
open Go
theorem svcMaps_card:Rows.SvcMapsCardSaid:=
 Claim7.holds_tied_plain_at .later [] [.data,.data] true (true, "99c070901cd616224a5ab97caeaf7170be55277dee32b373e41d3d3f39bdf293") false
  tW (fun _ h=>by cases h) (by kernel_rfl) (fun _ h=>by cases h) svcMaps_row_tie rfl ⟨rfl,rfl⟩ (by kernel_rfl) rfl
  (fun f fn hf QP=>by
   obtain rfl:f=3:=Option.some.inj ((show prog.funcNamed "warden/wardenlaw19.SvcMaps" =some 3 by kernel_rfl).symm.trans hf) |>.symm
   obtain rfl:fn=Tryz.f3:=(Option.some.inj (Tryz.func3.symm.trans QP)).symm
   exact⟨by kernel_rfl,fun j t ht=>by
    rw [Tryz.params3]at ht
    have h3:t=3∨t=22:=by
     rcases j with _ | _ | _ | _ | j
     ·right;simpa using ht.symm
     ·right;simpa using ht.symm
     ·right;simpa using ht.symm
     ·left;simpa using ht.symm
     ·simp at ht
    rcases h3 with rfl | rfl
    ·exact(show prog.wantsStandIn 3=false by kernel_rfl)
    ·exact(show prog.wantsStandIn 22=false by kernel_rfl)⟩)
  (by kernel_rfl)
#print axioms svcMaps_card
end Go.Proofs.YtfgpafjlcgaimaaGreatDoor
