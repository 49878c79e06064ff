/- Chapter 13: for every input ValidAll returns true; no condition. -/
import Derived.Test.YtbjlecpmgocoeaaGreatDoorQ4
import Derived.KernelRfl
set_option linter.unusedVariables false
set_option linter.unusedSimpArgs false
section
set_option maxRecDepth 100000
set_option maxHeartbeats 1000000
namespace Go.Proofs.YtbjlecpmgocoeaaGreatDoor
open Go Go.RowKit V
open Go.IntKind (i64 u32 u64)
open Go.Proofs (Tryz.prog)
def kU:Ctr Un:=⟨[.one (.int .i64)],[],[],[],fun p K=>K ⟨(.tuple #[(.int .u32 (dm p)),(.int .i64 (cS p))]),(some (.t [none,none])),[],[],[]⟩⟩
def GG(p:Int)(Q:Ou Un→Prop):Prop:=
 ∃J:Bool→Prop,(
  split (decide (p<0)) (
   J true) (
   J (decide (p≥64))))∧∀(_gv:Nat→Value)(x9:Bool),J x9→
 split x9 (
  Q ⟨(.tuple #[(.int .u32 0),(.int .i64 4)]),(some (.t [none,none])),[],[],[]⟩) (
  Q ⟨(.tuple #[(.int .u32 (u32.wrap (BitVec.ofInt u32.bits (u32.wrap ((u32.wrap p)*2 ^ 8)) ||| BitVec.ofInt u32.bits 1).toNat)),(.int .i64 0)]),(some (.t [none,none])),[],[],[]⟩)
theorem GH:Vc2 Un Tryz.prog (aN []) [] Tryz.f134 (.r' (.two (.two (.node [] (some ⟨[(9,(.one .bool))],[],upN 4 6,[]⟩) [] [] .leaf .leaf) .leaf) .leaf)) [] kU=(∀p,∀Q,(kU.body p Q)→GG p Q):=by kernel_rfl
theorem GF:LV Un Tryz.prog 134 kU:=verify Tryz.func134 aa (tb:= []) trivial (by kernel_rfl) (GH.mpr fun p Q h=>aY ((decide ((p:Int)<0)) || (decide ((p:Int)≥64))) (ab (fun c1=>(by grind)) fun c1=>(by grind))<| aK (fun c2=>aF h (by(have h:¬(0≤p∧p<64):=by grind);simp [dm,cS,h]) rfl rfl) fun c2=>aF h (by(have h:0≤p∧p<64:=by grind);rw [FK h];simp [dm,cS,h]) rfl rfl)
def iH:Ctr Un:=⟨[.one (.int .i64)],[],[],[],fun p K=>K ⟨(.tuple #[(.int .u32 (dm p)),(.int .i64 (cS p))]),(some (.t [none,none])),[],[],[]⟩⟩
def BI(p:Int)(Q:Ou Un→Prop):Prop:=
 ∃J:Bool→Prop,(
  split (decide (p<0)) (
   J true) (
   J (decide (p≥64))))∧∀(_gv:Nat→Value)(x9:Bool),J x9→
 split x9 (
  Q ⟨(.tuple #[(.int .u32 0),(.int .i64 4)]),(some (.t [none,none])),[],[],[]⟩) (
  Q ⟨(.tuple #[(.int .u32 (u32.wrap (i64.wrap ((i64.wrap (256*p))+1)))),(.int .i64 0)]),(some (.t [none,none])),[],[],[]⟩)
theorem BJ:Vc2 Un Tryz.prog (aN []) [] Tryz.f155 (.r' (.two (.two (.node [] (some ⟨[(9,(.one .bool))],[],upN 4 6,[]⟩) [] [] .leaf .leaf) .leaf) .leaf)) [] iH=(∀p,∀Q,(iH.body p Q)→BI p Q):=by kernel_rfl
theorem BH:LV Un Tryz.prog 155 iH:=verify Tryz.func155 aa (tb:= []) trivial (by kernel_rfl) (BJ.mpr fun p Q h=>aY ((decide ((p:Int)<0)) || (decide ((p:Int)≥64))) (ab (fun c1=>(by grind)) fun c1=>(by grind))<| aK (fun c2=>aF h (by(have h:¬(0≤p∧p<64):=by grind);simp [dm,cS,h]) rfl rfl) fun c2=>aF h (by(have h:0≤p∧p<64:=by grind);rw [af (x:=256*p) (by omega),af (by omega),bU (by omega)];simp [dm,cS,h]) rfl rfl)
def eG:Ctr Un:=⟨[.one (.int .u32),.one (.int .i64),.one (.fn 134)],[],[],[],fun v x K=>∀(ra:Int)(re:Int),((ra=(if v≠0∧cS x=0∧dm x=v then x else 0)∧re=(if v=0 then 92 else if cS x=0∧dm x=v then 0 else 90)))→K ⟨(.tuple #[(.int .i64 ra),(.int .i64 re)]),(some (.t [none,none])),[],[],[]⟩⟩
def sX(v:Int)(x:Int)(Q:Ou Un→Prop):Prop:=
 split (v==0) (
  Q ⟨(.tuple #[(.int .i64 0),(.int .i64 92)]),(some (.t [none,none])),[],[],[]⟩) (
  ∃J:Bool→Prop,(
   split ((cS x) !=0) (
    J true) (
    J ((dm x) !=v)))∧∀(_gv:Nat→Value)(x26:Bool),J x26→
  split x26 (
   Q ⟨(.tuple #[(.int .i64 0),(.int .i64 90)]),(some (.t [none,none])),[],[],[]⟩) (
   Q ⟨(.tuple #[(.int .i64 x),(.int .i64 0)]),(some (.t [none,none])),[],[],[]⟩))
theorem sY:Vc2 Un Tryz.prog (aN [(134,kU)]) [] Tryz.f133 (.r' (.r' (.r' (.two (.r' (.two (.node [] (some ⟨[(26,(.one .bool))],[],upN 20 7,[]⟩) [] [] .leaf .leaf) .leaf)) .leaf)))) [] eG=(∀v x,∀Q,(eG.body v x Q)→sX v x Q):=by kernel_rfl
theorem sW:LV Un Tryz.prog 133 eG:=verify Tryz.func133 aa (tb:= [(134,kU)]) ⟨GF,trivial⟩ (by kernel_rfl) (sY.mpr fun v x Q h=>by
 try skip
 exact aA (fun c1=>(h 0 92 (by omega))) fun c1=>aY ((((cS x):Int) !=0) || (((dm x):Int) !=v)) (ab (fun c2=>(by grind)) fun c2=>(by grind))<| aK (fun c3=>(h 0 90 (by grind))) fun c3=>(h x 0 (by grind)))
def eH:Ctr Un:=⟨[.one (.int .u32)],[],[],[],fun v K=>(0≤(v:Int)∧(v:Int)<4294967296)∧K ⟨(.tuple #[(.int .i64 (aP v)),(.int .i64 (ia v))]),(some (.t [none,none])),[],[],[]⟩⟩
def ta(v:Int)(Q:Ou Un→Prop):Prop:=
 ∀(ra:Int)(re:Int),
 ((ra=(if v≠0∧cS (i64.wrap (v.fdiv (2 ^ 8)))=0∧dm (i64.wrap (v.fdiv (2 ^ 8)))=v then(i64.wrap (v.fdiv (2 ^ 8)))else 0)∧re=(if v=0 then 92 else if cS (i64.wrap (v.fdiv (2 ^ 8)))=0∧dm (i64.wrap (v.fdiv (2 ^ 8)))=v then 0 else 90)))→
 Q ⟨(.tuple #[(.int .i64 ra),(.int .i64 re)]),(some (.t [none,none])),[],[],[]⟩
theorem tc:Vc2 Un Tryz.prog (aN [(133,eG)]) [] Tryz.f107 .leaf [] eH=(∀v,∀Q,(eH.body v Q)→ta v Q):=by kernel_rfl
theorem sZ:LV Un Tryz.prog 107 eH:=verify Tryz.func107 aa (tb:= [(133,eG)]) ⟨sW,trivial⟩ (by kernel_rfl) (tc.mpr fun v Q h=>by
 obtain⟨hp0,h⟩:=h
 exact fun ra re f1=>(by(have e0:i64.wrap ((v:Int).fdiv (2 ^ 8))=v / 256:=by rw [oW,af (by omega)];rfl);rw [e0]at f1;(have h1:(cS (v / 256)=0∧dm (v / 256)=v)↔pK v=true:=(by simp only [cS,dm,pK,decide_eq_true_eq];constructor<;>intro h<;>grind));(have h2:v=0→pK v=false:=by intro h;subst h;decide);exact aF h (by simp only [h1]at f1;rw [f1.1,f1.2];simp only [aP,ia]<;>grind) rfl rfl))
def dL:Ctr Un:=⟨[.one (.int .u32)],[],[],[],fun v K=>(0≤(v:Int)∧(v:Int)<4294967296)∧K ⟨(.tuple #[(.int .i64 (aP v)),(.int .i64 (ia v))]),(some (.t [none,none])),[],[],[]⟩⟩
def pU(v:Int)(Q:Ou Un→Prop):Prop:=
 split (v==0) (
  Q ⟨(.tuple #[(.int .i64 0),(.int .i64 92)]),(some (.t [none,none])),[],[],[]⟩) (
  ∀p:Int,p=0→
  ∃I:Nat→Int→Prop,(∃m,I m p)∧∀(m:Nat)(_gv:Nat→Value)(p1:Int),I m p1→
  split (decide (p1<64)) (
   split ((dm p1)==v) (
    Q ⟨(.tuple #[(.int .i64 p1),(.int .i64 0)]),(some (.t [none,none])),[],[],[]⟩) (
    ∀p2:Int,p2=(i64.wrap (p1+1))→
    ∃m1,m1<m∧I m1 p2)) (
   Q ⟨(.tuple #[(.int .i64 0),(.int .i64 90)]),(some (.t [none,none])),[],[],[]⟩))
theorem pV:Vc2 Un Tryz.prog (aN [(155,iH)]) [4] Tryz.f146 (.r' (.r' (.two (.r' (.two (.node [] (some ⟨[(4,(.one (.int .i64)))],[],upN 2 5++upN 9 13,[]⟩) [] [] .leaf .leaf) .leaf)) .leaf))) [] dL=(∀v,∀Q,(dL.body v Q)→pU v Q):=by kernel_rfl
theorem pT:LV Un Tryz.prog 146 dL:=verify Tryz.func146 aa (tb:= [(155,iH)]) ⟨BH,trivial⟩ (by kernel_rfl) (pV.mpr fun v Q h=>by
 obtain⟨hp0,h⟩:=h
 exact aA (fun c1=>aF h (congrArg (fun l=>Value.tuple (List.toArray l)) (ah (congrArg (Value.int .i64) (by(grind [aP,ia,pK,dm]))) (ah (congrArg (Value.int .i64) (by(grind [aP,ia,pK,dm]))) rfl))) rfl rfl) fun c1=>allEq<| ⟨fun m p1=>(m=(64 - p1).toNat)∧(0≤p1∧p1≤64)∧(∀q:Int,0≤q→q<p1→256*q+1≠v),⟨_,rfl,(by omega),(by intro q;omega)⟩,fun m _ p1 ⟨hm,hi,hq⟩=>au (fun c2=>aA (fun c3=>aF h (congrArg (fun l=>Value.tuple (List.toArray l)) (ah (congrArg (Value.int .i64) (by(grind [aP,ia,pK,dm]))) (ah (congrArg (Value.int .i64) (by(grind [aP,ia,pK,dm]))) rfl))) rfl rfl) fun c3=>allEq<| ⟨_,(by(grind [IntKind.wrap_i64])),rfl,(by rw [af (by omega)];omega),(by rw [af (by omega)];intro q ha hb;rcases Int.lt_or_eq_of_le (show q≤p1 by omega)with h | h<;>(first | grind | grind [dm]))⟩) fun c2=>aF h (by have h:=hq (v / 256);(have h2:pK v=false:=by rw [pK,decide_eq_false_iff_not];rintro⟨a,b⟩;exact h (by omega) (by omega) (by omega));simp [aP,ia,h2,c1]) rfl rfl⟩)
def oo:Ctr Un:=⟨[.agg [.bool,.int .i64,.bool,.bool]],[],[],[],fun ma mb mc md K=>K ⟨(.tuple #[(.int .u32 ((Mp.mk ma mb mc md).word)),(.int .i64 ((Mp.mk ma mb mc md).err))]),(some (.t [none,none])),[],[],[]⟩⟩
theorem DV:LV Un Tryz.prog 136 oo:=by
 show ∀(ma:Bool)(mb:Int)(mc:Bool)(md:Bool),∀Q:Ou Un→Prop,(Q ⟨(.tuple #[(.int .u32 ((Mp.mk ma mb mc md).word)),(.int .i64 ((Mp.mk ma mb mc md).err))]),(some (.t [none,none])),[],[],[]⟩)→∀(X:Nat→Nat→Prop)(w:World),Sat (U:=Un) [] X w→aC (U:=Un) [] fr0 []→Calls Tryz.prog 136 #[(.agg #[(.bool ma),(.int .i64 mb),(.bool mc),(.bool md)])] w (aU (U:=Un) [] [] X w Q)
 intro ma mb mc md Q hQ X w hs hl
 refine(HB ma mb mc md).mono ?_
 rintro e w' ⟨u,rfl,rfl,q⟩
 exact aU.pu hs q hQ (KnO.tup _ (by simp))
def gw:Ctr Un:=⟨[.agg [.bool,.int .i64,.bool,.bool]],[],[],[],fun ma mb mc md K=>K ⟨(.tuple #[(.int .u32 ((Mp.mk ma mb mc md).word)),(.int .i64 ((Mp.mk ma mb mc md).err))]),(some (.t [none,none])),[],[],[]⟩⟩
def ze(ma:Bool)(mb:Int)(mc:Bool)(md:Bool)(Q:Ou Un→Prop):Prop:=
 ∀(gv:Nat),
 ∃J:Bool→Prop,(
  split (decide (mb<0)) (
   J true) (
   J (decide (mb≥64))))∧∀(_gv1:Nat→Value)(x12:Bool),J x12→
 split x12 (
  Q ⟨(.tuple #[(.int .u32 0),(.int .i64 4)]),(some (.t [none,none])),[],[],[]⟩) (
  ∃J1:Bool→Prop,(
   split (!ma) (
    J1 md) (
    J1 false))∧∀(_gv2:Nat→Value)(x19:Bool),J1 x19→
  split x19 (
   Q ⟨(.tuple #[(.int .u32 0),(.int .i64 1)]),(some (.t [none,none])),[],[],[]⟩) (
   ∀n:Int,n=(i64.wrap ((i64.wrap (256*mb))+1))→
   split ma (
    ∀n1:Int,n1=(i64.wrap (n+2))→
    split mc (
     ∀n2:Int,n2=(i64.wrap (n1+4))→
     split md (
      ∀n3:Int,n3=(i64.wrap (n2+8))→
      Q ⟨(.tuple #[(.int .u32 (u32.wrap n3)),(.int .i64 0)]),(some (.t [none,none])),[],[],[]⟩) (
      Q ⟨(.tuple #[(.int .u32 (u32.wrap n2)),(.int .i64 0)]),(some (.t [none,none])),[],[],[]⟩)) (
     split md (
      ∀n2:Int,n2=(i64.wrap (n1+8))→
      Q ⟨(.tuple #[(.int .u32 (u32.wrap n2)),(.int .i64 0)]),(some (.t [none,none])),[],[],[]⟩) (
      Q ⟨(.tuple #[(.int .u32 (u32.wrap n1)),(.int .i64 0)]),(some (.t [none,none])),[],[],[]⟩))) (
    split mc (
     ∀n1:Int,n1=(i64.wrap (n+4))→
     split md (
      ∀n2:Int,n2=(i64.wrap (n1+8))→
      Q ⟨(.tuple #[(.int .u32 (u32.wrap n2)),(.int .i64 0)]),(some (.t [none,none])),[],[],[]⟩) (
      Q ⟨(.tuple #[(.int .u32 (u32.wrap n1)),(.int .i64 0)]),(some (.t [none,none])),[],[],[]⟩)) (
     split md (
      ∀n1:Int,n1=(i64.wrap (n+8))→
      Q ⟨(.tuple #[(.int .u32 (u32.wrap n1)),(.int .i64 0)]),(some (.t [none,none])),[],[],[]⟩) (
      Q ⟨(.tuple #[(.int .u32 (u32.wrap n)),(.int .i64 0)]),(some (.t [none,none])),[],[],[]⟩)))))
theorem zf:Vc2 Un Tryz.prog (aN []) [4] Tryz.f156 (.r' (.two (.two (.node [] (some ⟨[(12,(.one .bool))],[],upN 5 8,[]⟩) [] [] .leaf .leaf) .leaf) (.two (.two (.node [] (some ⟨[(19,(.one .bool))],[],upN 13 7,[]⟩) [] [] .leaf .leaf) .leaf) .leaf))) [] gw=(∀ma mb mc md,∀Q,(gw.body ma mb mc md Q)→ze ma mb mc md Q):=by kernel_rfl
theorem zd:LV Un Tryz.prog 156 gw:=verify Tryz.func156 aa (tb:= []) trivial (by kernel_rfl) (zf.mpr fun ma mb mc md Q h=>fun gv=>aY ((decide ((mb:Int)<0)) || (decide ((mb:Int)≥64))) (ab (fun c1=>(by grind)) fun c1=>(by grind))<| aK (fun c2=>aF h (congrArg (fun l=>Value.tuple (List.toArray l)) (ah (congrArg (Value.int .u32) (by(try simp only [IntKind.wrap_i64,IntKind.wrap_u32])<;>(grind [Mp.word,Mp.err,Mp.bits]))) (ah (congrArg (Value.int .i64) (by(try simp only [IntKind.wrap_i64,IntKind.wrap_u32])<;>(grind [Mp.word,Mp.err,Mp.bits]))) rfl))) rfl rfl) fun c2=>aY ((!ma) && md) (ab (fun c3=>(by grind)) fun c3=>(by grind))<| bz (fun c4=>aF h (congrArg (fun l=>Value.tuple (List.toArray l)) (ah (congrArg (Value.int .u32) (by(try simp only [IntKind.wrap_i64,IntKind.wrap_u32])<;>(grind [Mp.word,Mp.err,Mp.bits]))) (ah (congrArg (Value.int .i64) (by(try simp only [IntKind.wrap_i64,IntKind.wrap_u32])<;>(grind [Mp.word,Mp.err,Mp.bits]))) rfl))) rfl rfl) fun c4=>allEq<| ab (fun c5=>allEq<| ab (fun c6=>allEq<| ab (fun c7=>allEq<| aF h (congrArg (fun l=>Value.tuple (List.toArray l)) (ah (congrArg (Value.int .u32) (by(try simp only [IntKind.wrap_i64,IntKind.wrap_u32])<;>(grind [Mp.word,Mp.err,Mp.bits]))) (ah (congrArg (Value.int .i64) (by(try simp only [IntKind.wrap_i64,IntKind.wrap_u32])<;>(grind [Mp.word,Mp.err,Mp.bits]))) rfl))) rfl rfl) fun c7=>aF h (congrArg (fun l=>Value.tuple (List.toArray l)) (ah (congrArg (Value.int .u32) (by(try simp only [IntKind.wrap_i64,IntKind.wrap_u32])<;>(grind [Mp.word,Mp.err,Mp.bits]))) (ah (congrArg (Value.int .i64) (by(try simp only [IntKind.wrap_i64,IntKind.wrap_u32])<;>(grind [Mp.word,Mp.err,Mp.bits]))) rfl))) rfl rfl) fun c6=>ab (fun c8=>allEq<| aF h (congrArg (fun l=>Value.tuple (List.toArray l)) (ah (congrArg (Value.int .u32) (by(try simp only [IntKind.wrap_i64,IntKind.wrap_u32])<;>(grind [Mp.word,Mp.err,Mp.bits]))) (ah (congrArg (Value.int .i64) (by(try simp only [IntKind.wrap_i64,IntKind.wrap_u32])<;>(grind [Mp.word,Mp.err,Mp.bits]))) rfl))) rfl rfl) fun c8=>aF h (congrArg (fun l=>Value.tuple (List.toArray l)) (ah (congrArg (Value.int .u32) (by(try simp only [IntKind.wrap_i64,IntKind.wrap_u32])<;>(grind [Mp.word,Mp.err,Mp.bits]))) (ah (congrArg (Value.int .i64) (by(try simp only [IntKind.wrap_i64,IntKind.wrap_u32])<;>(grind [Mp.word,Mp.err,Mp.bits]))) rfl))) rfl rfl) fun c5=>ab (fun c9=>allEq<| ab (fun c10=>allEq<| aF h (congrArg (fun l=>Value.tuple (List.toArray l)) (ah (congrArg (Value.int .u32) (by(try simp only [IntKind.wrap_i64,IntKind.wrap_u32])<;>(grind))) (ah (congrArg (Value.int .i64) (by(try simp only [IntKind.wrap_i64,IntKind.wrap_u32])<;>(grind))) rfl))) rfl rfl) fun c10=>aF h (congrArg (fun l=>Value.tuple (List.toArray l)) (ah (congrArg (Value.int .u32) (by(try simp only [IntKind.wrap_i64,IntKind.wrap_u32])<;>(grind [Mp.word,Mp.err,Mp.bits]))) (ah (congrArg (Value.int .i64) (by(try simp only [IntKind.wrap_i64,IntKind.wrap_u32])<;>(grind [Mp.word,Mp.err,Mp.bits]))) rfl))) rfl rfl) fun c9=>ab (fun c11=>allEq<| aF h (congrArg (fun l=>Value.tuple (List.toArray l)) (ah (congrArg (Value.int .u32) (by(try simp only [IntKind.wrap_i64,IntKind.wrap_u32])<;>(grind))) (ah (congrArg (Value.int .i64) (by(try simp only [IntKind.wrap_i64,IntKind.wrap_u32])<;>(grind))) rfl))) rfl rfl) fun c11=>aF h (congrArg (fun l=>Value.tuple (List.toArray l)) (ah (congrArg (Value.int .u32) (by(try simp only [IntKind.wrap_i64,IntKind.wrap_u32])<;>(grind [Mp.word,Mp.err,Mp.bits]))) (ah (congrArg (Value.int .i64) (by(try simp only [IntKind.wrap_i64,IntKind.wrap_u32])<;>(grind [Mp.word,Mp.err,Mp.bits]))) rfl))) rfl rfl)
def cC:Ctr Un:=⟨[.one (.int .u32),.agg [.bool,.int .i64,.bool,.bool],.one (.fn 136)],[],[],[],fun v ma mb mc md K=>∀(ra:Bool)(rb:Int)(rc:Bool)(rd:Bool)(re:Int),((Mp.mk ra rb rc rd=(if v≠0∧(Mp.mk ma mb mc md).err=0∧(Mp.mk ma mb mc md).word=v then(Mp.mk ma mb mc md)else Mp.nil)∧re=(if v=0 then 92 else if(Mp.mk ma mb mc md).err=0∧(Mp.mk ma mb mc md).word=v then 0 else 90)))→K ⟨(.tuple #[(.agg #[(.bool ra),(.int .i64 rb),(.bool rc),(.bool rd)]),(.int .i64 re)]),(some (.t [none,none])),[],[],[]⟩⟩
def mA(v:Int)(ma:Bool)(mb:Int)(mc:Bool)(md:Bool)(Q:Ou Un→Prop):Prop:=
 ∀(gv:Nat),
 ∀(gv1:Nat),
 ∀(gv2:Nat),
 split (v==0) (
  Q ⟨(.tuple #[(.agg #[(.bool false),(.int .i64 0),(.bool false),(.bool false)]),(.int .i64 92)]),(some (.t [none,none])),[],[],[]⟩) (
  ∃J:Bool→Prop,(
   split ((Mp.mk ma mb mc md).err !=0) (
    J true) (
    J ((Mp.mk ma mb mc md).word !=v)))∧∀(_gv3:Nat→Value)(x26:Bool),J x26→
  split x26 (
   Q ⟨(.tuple #[(.agg #[(.bool false),(.int .i64 0),(.bool false),(.bool false)]),(.int .i64 90)]),(some (.t [none,none])),[],[],[]⟩) (
   Q ⟨(.tuple #[(.agg #[(.bool ma),(.int .i64 mb),(.bool mc),(.bool md)]),(.int .i64 0)]),(some (.t [none,none])),[],[],[]⟩))
theorem mB:Vc2 Un Tryz.prog (aN [(136,oo)]) [] Tryz.f135 (.r' (.r' (.r' (.two (.r' (.two (.node [] (some ⟨[(26,(.one .bool))],[],upN 20 7,[]⟩) [] [] .leaf .leaf) .leaf)) .leaf)))) [] cC=(∀v ma mb mc md,∀Q,(cC.body v ma mb mc md Q)→mA v ma mb mc md Q):=by kernel_rfl
theorem my:LV Un Tryz.prog 135 cC:=verify Tryz.func135 aa (tb:= [(136,oo)]) ⟨DV,trivial⟩ (by kernel_rfl) (mB.mpr fun v ma mb mc md Q h=>fun gv=>fun gv1=>fun gv2=>aA (fun c1=>(h false 0 false false 92 (by(grind)))) fun c1=>aY ((((Mp.mk ma mb mc md).err:Int) !=0) || (((Mp.mk ma mb mc md).word:Int) !=v)) (ab (fun c2=>(by grind)) fun c2=>(by grind))<| aK (fun c3=>(h false 0 false false 90 (by(grind)))) fun c3=>(h ma mb mc md 0 (by(grind))))
def cE:Ctr Un:=⟨[.one (.int .u32)],[],[],[],fun v K=>(0≤(v:Int)∧(v:Int)<4294967296)∧K ⟨(.tuple #[(.agg #[(.bool ((bE v).bt)),(.int .i64 ((bE v).aq)),(.bool ((bE v).write)),(.bool ((bE v).exec))]),(.int .i64 (fz v))]),(some (.t [none,none])),[],[],[]⟩⟩
def rW(v:Int)(Q:Ou Un→Prop):Prop:=
 ∀(gv:Nat),
 ∀x7:Bool,x7=((u32.wrap (BitVec.ofInt u32.bits v &&& BitVec.ofInt u32.bits 2).toNat:Int) !=0)→
 ∀x10:Int,x10=(i64.wrap ((v:Int).fdiv (2 ^ 8)))→
 ∀x14:Bool,x14=((u32.wrap (BitVec.ofInt u32.bits v &&& BitVec.ofInt u32.bits 4).toNat:Int) !=0)→
 ∀x17:Bool,x17=((u32.wrap (BitVec.ofInt u32.bits v &&& BitVec.ofInt u32.bits 8).toNat:Int) !=0)→
 ∀(ra:Bool)(rb:Int)(rc:Bool)(rd:Bool)(re:Int),
 ((Mp.mk ra rb rc rd=(if v≠0∧(Mp.mk x7 x10 x14 x17).err=0∧(Mp.mk x7 x10 x14 x17).word=v then(Mp.mk x7 x10 x14 x17)else Mp.nil)∧re=(if v=0 then 92 else if(Mp.mk x7 x10 x14 x17).err=0∧(Mp.mk x7 x10 x14 x17).word=v then 0 else 90)))→
 Q ⟨(.tuple #[(.agg #[(.bool ra),(.int .i64 rb),(.bool rc),(.bool rd)]),(.int .i64 re)]),(some (.t [none,none])),[],[],[]⟩
theorem rY:Vc2 Un Tryz.prog (aN [(135,cC)]) [7,10,14,17] Tryz.f108 .leaf [] cE=(∀v,∀Q,(cE.body v Q)→rW v Q):=by kernel_rfl
theorem kT:LV Un Tryz.prog 108 cE:=verify Tryz.func108 aa (tb:= [(135,cC)]) ⟨my,trivial⟩ (by kernel_rfl) (rY.mpr fun v Q h=>by
 obtain⟨hp0,h⟩:=h
 exact fun gv=>fun x7 h_x7=>fun x10 h_x10=>fun x14 h_x14=>fun x17 h_x17=>fun ra rb rc rd re f1=>(by(have e0:i64.wrap ((v:Int).fdiv (2 ^ 8))=v / 256:=by rw [oW,af (by omega)];rfl);(rw [gQ 1 2 (by decide) (by omega) hp0]at h_x7);rw [e0]at h_x10;(rw [gQ 2 4 (by decide) (by omega) hp0]at h_x14);(rw [gQ 3 8 (by decide) (by omega) hp0]at h_x17);(have hg:Mp.mk x7 x10 x14 x17=Mp.xF v:=by rw [h_x7,h_x10,h_x14,h_x17];rfl);rw [hg]at f1;exact aF h (by(have hm:bE v=Mp.mk ra rb rc rd∧fz v=re:=by grind [bE,fz,qO]);rw [hm.1,hm.2]) rfl rfl))
def bZ:Ctr Un:=⟨[.one (.int .u32)],[],[],[],fun v K=>(0≤(v:Int)∧(v:Int)<4294967296)∧K ⟨(.tuple #[(.agg #[(.bool ((bE v).bt)),(.int .i64 ((bE v).aq)),(.bool ((bE v).write)),(.bool ((bE v).exec))]),(.int .i64 (fz v))]),(some (.t [none,none])),[],[],[]⟩⟩
def ow(v:Int)(Q:Ou Un→Prop):Prop:=
 ∀(gv:Nat),
 split (v==0) (
  Q ⟨(.tuple #[(.agg #[(.bool false),(.int .i64 0),(.bool false),(.bool false)]),(.int .i64 92)]),(some (.t [none,none])),[],[],[]⟩) (
  ∀n:Int,n=(i64.wrap v)→
  ∀x16:Bool,x16=(((i64.wrap ((n:Int).tdiv 2):Int).tmod 2:Int)==1)→
  ∀x18:Int,x18=(i64.wrap ((n:Int).tdiv 256))→
  ∀x22:Bool,x22=(((i64.wrap ((n:Int).tdiv 4):Int).tmod 2:Int)==1)→
  ∀x26:Bool,x26=(((i64.wrap ((n:Int).tdiv 8):Int).tmod 2:Int)==1)→
  ∀(gv1:Nat),
  ∃J:Bool→Prop,(
   split ((Mp.mk x16 x18 x22 x26).err !=0) (
    J true) (
    J ((Mp.mk x16 x18 x22 x26).word !=v)))∧∀(_gv2:Nat→Value)(x39:Bool),J x39→
  split x39 (
   Q ⟨(.tuple #[(.agg #[(.bool false),(.int .i64 0),(.bool false),(.bool false)]),(.int .i64 90)]),(some (.t [none,none])),[],[],[]⟩) (
   Q ⟨(.tuple #[(.agg #[(.bool x16),(.int .i64 x18),(.bool x22),(.bool x26)]),(.int .i64 0)]),(some (.t [none,none])),[],[],[]⟩))
theorem ox:Vc2 Un Tryz.prog (aN [(156,gw)]) [4,16,18,22,26] Tryz.f147 (.r' (.r' (.r' (.r' (.r' (.two (.two (.node [] (some ⟨[(39,(.one .bool))],[],upN 33 7,[]⟩) [] [] .leaf .leaf) .leaf) .leaf)))))) [] bZ=(∀v,∀Q,(bZ.body v Q)→ow v Q):=by kernel_rfl
theorem jD:LV Un Tryz.prog 147 bZ:=verify Tryz.func147 aa (tb:= [(156,gw)]) ⟨zd,trivial⟩ (by kernel_rfl) (ox.mpr fun v Q h=>by
 obtain⟨hp0,h⟩:=h
 exact fun gv=>aA (fun c1=>aF h (by simp [bE,fz,c1,Mp.nil]) rfl rfl) fun c1=>fun n h_n=>fun x16 h_x16=>fun x18 h_x18=>fun x22 h_x22=>fun x26 h_x26=>fun gv1=>(by(rw [af (by omega)]at h_n);(have dv:∀k:Int,0<k→i64.wrap (v.tdiv k)=v / k:=fun k hk=>by rw [Int.tdiv_eq_ediv_of_nonneg hp0.1];have:=Int.ediv_nonneg hp0.1 (Int.le_of_lt hk);have:=Int.ediv_le_self k hp0.1;exact af (by omega));(have td:∀x:Int,0≤x→(x.tmod 2==1)=decide (x % 2=1):=fun x h=>by rw [Int.tmod_eq_emod_of_nonneg h,Bool.eq_iff_iff];simp);(rw [h_n,dv _ (by omega),td _ (by omega)]at h_x16);(rw [h_n,dv _ (by omega),td _ (by omega)]at h_x22);(rw [h_n,dv _ (by omega),td _ (by omega)]at h_x26);(rw [h_n,dv _ (by omega)]at h_x18);(have hg:Mp.mk x16 x18 x22 x26=Mp.xF v:=by rw [h_x16,h_x18,h_x22,h_x26];rfl);exact aY ((((Mp.mk x16 x18 x22 x26).err:Int) !=0) || (((Mp.mk x16 x18 x22 x26).word:Int) !=v)) (ab (fun c2=>(by grind)) fun c2=>(by grind))<| aK (fun c3=>aF h (by rw [hg]at c3;(have hm:bE v=Mp.nil∧fz v=90:=by grind [bE,fz,qO]);rw [hm.1,hm.2]<;>rfl) rfl rfl) fun c3=>aF h (by rw [hg]at c3;(have hm:bE v=Mp.mk x16 x18 x22 x26∧fz v=0:=by grind [bE,fz,qO]);rw [hm.1,hm.2]) rfl rfl))
def k9:Ctr Un:=⟨[.enc 6],[],[],[],fun f K=>K ⟨(.int .u32 (File.flags f)),none,[],[],[]⟩⟩
def Hk(f:Fl)(Q:Ou Un→Prop):Prop:=
 ∀(gv:Nat),
 ∀(s:Fl),s=(Fl.norm f)→
 Fl.Ok s→
 split (Fl.z s) (
  Q ⟨(.int .u32 1),none,[],[],[]⟩) (
  ∀wv:Int,wv=0→
  split (Fl.n s) (
   ∀wv1:Int,wv1=(u32.wrap (BitVec.ofInt u32.bits wv ||| BitVec.ofInt u32.bits 2).toNat)→
   split (Fl.l s) (
    ∀wv2:Int,wv2=(u32.wrap (BitVec.ofInt u32.bits wv1 ||| BitVec.ofInt u32.bits 4).toNat)→
    Q ⟨(.int .u32 wv2),none,[],[],[]⟩) (
    Q ⟨(.int .u32 wv1),none,[],[],[]⟩)) (
   split (Fl.l s) (
    ∀wv1:Int,wv1=(u32.wrap (BitVec.ofInt u32.bits wv ||| BitVec.ofInt u32.bits 4).toNat)→
    Q ⟨(.int .u32 wv1),none,[],[],[]⟩) (
    Q ⟨(.int .u32 wv),none,[],[],[]⟩)))
theorem Hl:Vc2 Un Tryz.prog (aN []) [3] Tryz.f150 .leaf [] k9=(∀(f:Fl),∀Q,(k9.body f Q)→Hk f Q):=by kernel_rfl
theorem Hj:LV Un Tryz.prog 150 k9:=verify Tryz.func150 aa (tb:= []) trivial (by kernel_rfl) (Hl.mpr fun f Q h=>fun gv=>fun s h_s f1=>ab (fun c1=>eE h (by subst_vars;simp only [Fl.norm]at *;(simp [File.flags, *];done))) fun c1=>fun wv h_wv=>ab (fun c2=>fun wv1 h_wv1=>ab (fun c3=>fun wv2 h_wv2=>eE h (by subst_vars;simp only [Fl.norm]at *;(simp only [File.flags, *];rfl))) fun c3=>eE h (by subst_vars;simp only [Fl.norm]at *;(simp only [File.flags, *];rfl))) fun c2=>ab (fun c4=>fun wv1 h_wv1=>eE h (by subst_vars;simp only [Fl.norm]at *;(simp only [File.flags, *];rfl))) fun c4=>eE h (by subst_vars;simp only [Fl.norm]at *;(simp [File.flags, *];done)))
def iM:Ctr Un:=⟨[.enc 6,.one (.int .u32)],[],[],[],fun f w K=>Fl.Ok f∧(0≤(w:Int)∧(w:Int)<4294967296)∧K ⟨(.tuple #[(.agg ⟨Fl.cells (File.dI f w)⟩),(.int .i64 (File.eM w))]),(some (.t [none,none])),[],[],[]⟩⟩
def BZ(f:Fl)(w:Int)(Q:Ou Un→Prop):Prop:=
 ∀(gv:Nat),
 ∀(s:Fl),s=(Fl.norm f)→
 Fl.Ok s→
 ∀(gv1:Nat),
 ∀(s1:Fl),s1=Fl.zero→
 Fl.Ok s1→
 ∀x8:Bool,x8=((u32.wrap (BitVec.ofInt u32.bits w &&& BitVec.ofInt u32.bits 1).toNat:Int) !=0)→
 ∀x11:Bool,x11=((u32.wrap (BitVec.ofInt u32.bits w &&& BitVec.ofInt u32.bits 2).toNat:Int) !=0)→
 ∀x14:Bool,x14=((u32.wrap (BitVec.ofInt u32.bits w &&& BitVec.ofInt u32.bits 4).toNat:Int) !=0)→
 True∧
 ∀(s2:Fl),s2=({s with z:=x8}:Fl)→
 Fl.Ok s2→
 True∧
 ∀(s3:Fl),s3=({s2 with n:=x11}:Fl)→
 Fl.Ok s3→
 True∧
 ∀(s4:Fl),s4=({s3 with l:=x14}:Fl)→
 Fl.Ok s4→
 True∧
 split ((File.flags (Fl.norm s4)) !=w) (
  True∧
  ∀(s5:Fl),s5=Fl.zero→
  Fl.Ok s5→
  True∧
  Q ⟨(.tuple #[(.agg ⟨Fl.cells s5⟩),(.int .i64 80)]),(some (.t [none,none])),[],[],[]⟩) (
  True∧
  True∧
  ∀(s5:Fl),s5=(Fl.norm s4)→
  Fl.Ok s5→
  True∧
  Q ⟨(.tuple #[(.agg ⟨Fl.cells s5⟩),(.int .i64 0)]),(some (.t [none,none])),[],[],[]⟩)
theorem B0:Vc2 Un Tryz.prog (aN [(150,k9)]) [8,11,14] Tryz.f137 .leaf [] iM=(∀(f:Fl) w,∀Q,(iM.body f w Q)→BZ f w Q):=by kernel_rfl
theorem BY:LV Un Tryz.prog 137 iM:=verify Tryz.func137 aa (tb:= [(150,k9)]) ⟨Hj,trivial⟩ (by kernel_rfl) (B0.mpr fun f w Q h=>by
 obtain⟨hp0,hp1,h⟩:=h
 exact fun gv=>fun s h_s f1=>fun gv1=>fun s1 h_s1 f2=>fun x8 h_x8=>fun x11 h_x11=>fun x14 h_x14=>aj trivial fun _=>fun s2 h_s2 f4=>aj trivial fun _=>fun s3 h_s3 f6=>aj trivial fun _=>fun s4 h_s4 f8=>aj trivial fun _=>bh (fun c1=>aj trivial fun _=>fun s5 h_s5 f11=>aj trivial fun _=>(by(have e4:Fl.norm s4= {f with z:=x8,n:=x11,l:=x14}:=by rw [Fl.norm_eq (show Fl.Ok s4 by assumption),h_s4,h_s3,h_s2,h_s,Fl.norm_eq hp0]);(rw [gQ 0 1 (by decide) (by omega) hp1]at h_x8);(rw [gQ 1 2 (by decide) (by omega) hp1]at h_x11);(rw [gQ 2 4 (by decide) (by omega) hp1]at h_x14);have hi:=File.xH hp1;(have h0:File.eB w=false:=(by rw [e4,h_x8,h_x11,h_x14]at c1;simp only [File.flags]at c1;rw [hi]at c1;simpa using c1));exact aF h (congrArg (fun l=>Value.tuple (List.toArray l)) (ah (congrArg (fun s:Fl=>Value.agg ⟨Fl.cells s⟩) (by rw [File.oU h0,h_s5])) (ah (congrArg (Value.int .i64) (by rw [File.oV h0])) rfl))) rfl rfl)) fun c1=>aj trivial fun _=>aj trivial fun _=>fun s5 h_s5 f15=>aj trivial fun _=>(by(have e4:Fl.norm s4= {f with z:=x8,n:=x11,l:=x14}:=by rw [Fl.norm_eq (show Fl.Ok s4 by assumption),h_s4,h_s3,h_s2,h_s,Fl.norm_eq hp0]);(rw [gQ 0 1 (by decide) (by omega) hp1]at h_x8);(rw [gQ 1 2 (by decide) (by omega) hp1]at h_x11);(rw [gQ 2 4 (by decide) (by omega) hp1]at h_x14);have hi:=File.xH hp1;(have h0:File.eB w=true:=(by rw [e4,h_x8,h_x11,h_x14]at c1;simp only [File.flags]at c1;rw [hi]at c1;simpa using c1));have h2:=File.DC h0;exact aF h (congrArg (fun l=>Value.tuple (List.toArray l)) (ah (congrArg (fun s:Fl=>Value.agg ⟨Fl.cells s⟩) (by rw [File.ry h0,h_s5,e4,h_x8,h_x11,h_x14,h2.1,h2.2.1,h2.2.2])) (ah (congrArg (Value.int .i64) (by rw [File.rz h0])) rfl))) rfl rfl))
def fG:Ctr Un:=⟨[.enc 6,.one (.int .u32)],[],[],[],fun f w K=>Fl.Ok f∧(0≤(w:Int)∧(w:Int)<4294967296)∧K ⟨(.tuple #[(.agg ⟨Fl.cells (File.dI f w)⟩),(.int .i64 (File.eM w))]),(some (.t [none,none])),[],[],[]⟩⟩
def vX(f:Fl)(w:Int)(Q:Ou Un→Prop):Prop:=
 ∀(gv:Nat),
 ∀(s:Fl),s=(Fl.norm f)→
 Fl.Ok s→
 ∀(gv1:Nat),
 ∀(s1:Fl),s1=Fl.zero→
 Fl.Ok s1→
 ∃J:Bool→Prop,(
  split (w !=0) (
   split (w !=1) (
    split (w !=2) (
     split (w !=4) (
      J (w !=6)) (
      J false)) (
     J false)) (
    J false)) (
   J false))∧∀(_gv2:Nat→Value)(x23:Bool),J x23→
 split x23 (
  True∧
  ∀(s2:Fl),s2=Fl.zero→
  Fl.Ok s2→
  True∧
  Q ⟨(.tuple #[(.agg ⟨Fl.cells s2⟩),(.int .i64 80)]),(some (.t [none,none])),[],[],[]⟩) (
  True∧
  ∀(s2:Fl),s2=({s with z:=((w:Int)==1)}:Fl)→
  Fl.Ok s2→
  ∃J1:Fl→Prop,(
   split (w==2) (
    True∧
    ∀(s3:Fl),s3=({s2 with n:=true}:Fl)→
    Fl.Ok s3→
    J1 s3) (
    True∧
    ∀(s3:Fl),s3=({s2 with n:=((w:Int)==6)}:Fl)→
    Fl.Ok s3→
    J1 s3))∧∀(_gv3:Nat→Value)(s0:Fl),J1 s0→
  Fl.Ok s0→
  ∃J2:Fl→Prop,(
   split (w==4) (
    True∧
    ∀(s3:Fl),s3=({s0 with l:=true}:Fl)→
    Fl.Ok s3→
    J2 s3) (
    True∧
    ∀(s3:Fl),s3=({s0 with l:=((w:Int)==6)}:Fl)→
    Fl.Ok s3→
    J2 s3))∧∀(_gv4:Nat→Value)(s01:Fl),J2 s01→
  Fl.Ok s01→
  True∧
  True∧
  ∀(s3:Fl),s3=(Fl.norm s01)→
  Fl.Ok s3→
  True∧
  Q ⟨(.tuple #[(.agg ⟨Fl.cells s3⟩),(.int .i64 0)]),(some (.t [none,none])),[],[],[]⟩)
theorem vY:Vc2 Un Tryz.prog (aN []) [] Tryz.f157 (.r' (.two (.two (.node [] (some ⟨[(23,(.one .bool))],[],upN 6 18,[]⟩) [] [] .leaf .leaf) .leaf) (.r' (.two (.node [] (some ⟨[],[],upN 28 7,[(0,(.ob 10))]⟩) [] [] .leaf .leaf) (.two (.node [] (some ⟨[],[],upN 35 7,[(0,(.ob 10))]⟩) [] [] .leaf .leaf) .leaf))))) [] fG=(∀(f:Fl) w,∀Q,(fG.body f w Q)→vX f w Q):=by kernel_rfl
theorem vW:LV Un Tryz.prog 157 fG:=verify Tryz.func157 aa (tb:= []) trivial (by kernel_rfl) (vY.mpr fun f w Q h=>by
 obtain⟨hp0,hp1,h⟩:=h
 exact fun gv=>fun s h_s f1=>fun gv1=>fun s1 h_s1 f2=>aY (((w:Int) !=0) && (((w:Int) !=1) && (((w:Int) !=2) && (((w:Int) !=4) && ((w:Int) !=6))))) (ab (fun c1=>ab (fun c2=>ab (fun c3=>ab (fun c4=>(by grind)) fun c4=>(by grind)) fun c3=>(by grind)) fun c2=>(by grind)) fun c1=>(by grind))<| bz (fun c5=>aj trivial fun _=>fun s2 h_s2 f4=>aj trivial fun _=>(by(have h0:File.eB w=false:=(by(grind [File.eB])));exact aF h (congrArg (fun l=>Value.tuple (List.toArray l)) (ah (congrArg (fun s:Fl=>Value.agg ⟨Fl.cells s⟩) (by rw [File.oU h0,h_s2])) (ah (congrArg (Value.int .i64) (by rw [File.oV h0])) rfl))) rfl rfl)) fun c5=>aj trivial fun _=>fun s2 h_s2 f7=>⟨fun s0=>(s0= {s2 with n:=decide (w=2∨w=6)}),aA (fun c6=>aj trivial fun _=>fun s3 h_s3 f9=>(by grind)) fun c6=>aj trivial fun _=>fun s3 h_s3 f11=>(by grind),fun _ s0 g1=>fun f12=>⟨fun s01=>(s01= {s0 with l:=decide (w=4∨w=6)}),aA (fun c7=>aj trivial fun _=>fun s3 h_s3 f14=>(by grind)) fun c7=>aj trivial fun _=>fun s3 h_s3 f16=>(by grind),fun _ s01 g2=>fun f17=>aj trivial fun _=>aj trivial fun _=>fun s3 h_s3 f20=>aj trivial fun _=>(by(have h0:File.eB w=true:=(by(grind [File.eB])));exact aF h (congrArg (fun l=>Value.tuple (List.toArray l)) (ah (congrArg (fun s:Fl=>Value.agg ⟨Fl.cells s⟩) (by(rw [File.ry h0,h_s3,Fl.norm_eq (show Fl.Ok s01 by assumption),g2,g1,h_s2,h_s,Fl.norm_eq hp0];grind))) (ah (congrArg (Value.int .i64) (by rw [File.rz h0])) rfl))) rfl rfl)⟩⟩)
def lI:Ctr Un:=⟨[.one (.sl 0)],[],[.lst 1 false 22],[],fun A c l K=>((∀x∈l,0≤x.v∧x.v<4294967296))∧K ⟨(.tuple #[(.agg ⟨Fl.cells (File.unpack l)⟩),(.int .i64 (File.cZ l))]),(some (.t [none,none])),[],[],[]⟩⟩
def EW(A:Option Addr)(c:Nat)(l:List U32)(Q:Ou Un→Prop):Prop:=
 ∀(gv:Nat),
 ∀(s:Fl),s=Fl.zero→
 Fl.Ok s→
 split ((l.length:Int) !=17) (
  True∧
  ∀(s1:Fl),s1=Fl.zero→
  Fl.Ok s1→
  True∧
  Q ⟨(.tuple #[(.agg ⟨Fl.cells s1⟩),(.int .i64 80)]),(some (.t [none,none])),[],[],[]⟩) (
  (0<l.length∧15≤l.length)∧
  (15≤l.length)∧
  (0≤(15:Int)∧(15:Int)<(l.length:Int))∧
  ∀(gv1:Nat),
  ∀(s1:Fl),s1=Fl.zero→
  Fl.Ok s1→
  True∧
  ∀(s2:Fl),s2=(Fl.mk [U32.mk ((l.getD 0 (U32.mk 0)).v),U32.mk ((l.getD 1 (U32.mk 0)).v),U32.mk ((l.getD 2 (U32.mk 0)).v),U32.mk ((l.getD 3 (U32.mk 0)).v),U32.mk ((l.getD 4 (U32.mk 0)).v),U32.mk ((l.getD 5 (U32.mk 0)).v),U32.mk ((l.getD 6 (U32.mk 0)).v),U32.mk ((l.getD 7 (U32.mk 0)).v),U32.mk ((l.getD 8 (U32.mk 0)).v),U32.mk ((l.getD 9 (U32.mk 0)).v),U32.mk ((l.getD 10 (U32.mk 0)).v),U32.mk ((l.getD 11 (U32.mk 0)).v),U32.mk ((l.getD 12 (U32.mk 0)).v),U32.mk ((l.getD 13 (U32.mk 0)).v),U32.mk ((l.getD 14 (U32.mk 0)).v)] ((l.getD (Int.toNat 15) (U32.mk 0)).v) false false false)→
  Fl.Ok s2→
  True∧
  (0≤(16:Int)∧(16:Int)<(l.length:Int))∧
  Fl.Ok (Fl.norm s2)∧
  (0≤((l.getD (Int.toNat 16) (U32.mk 0)).v)∧((l.getD (Int.toNat 16) (U32.mk 0)).v)<4294967296)∧
  True∧
  ∀(s3:Fl),s3=(Fl.norm (File.dI (Fl.norm s2) ((l.getD (Int.toNat 16) (U32.mk 0)).v)))→
  Fl.Ok s3→
  ∃J:Bool→Prop,(
   split ((File.eM ((l.getD (Int.toNat 16) (U32.mk 0)).v))==0) (
    True∧
    J (bd ⟨Fl.cells s3⟩ ⟨Fl.cells Fl.zero⟩)) (
    J false))∧∀(_gv2:Nat→Value)(x31:Bool),J x31→
  split x31 (
   True∧
   ∀(s4:Fl),s4=Fl.zero→
   Fl.Ok s4→
   True∧
   Q ⟨(.tuple #[(.agg ⟨Fl.cells s4⟩),(.int .i64 0)]),(some (.t [none,none])),[],[],[]⟩) (
   True∧
   True∧
   ∀(s4:Fl),s4=(Fl.norm s3)→
   Fl.Ok s4→
   True∧
   Q ⟨(.tuple #[(.agg ⟨Fl.cells s4⟩),(.int .i64 (File.eM ((l.getD (Int.toNat 16) (U32.mk 0)).v)))]),(some (.t [none,none])),[],[],[]⟩))
theorem EX:Vc2 Un Tryz.prog (aN [(137,iM)]) [] Tryz.f110 (.r' (.r' (.two (.node [] none [] [(2,[0]),(5,[0])] .leaf .leaf) (.two (.node [] none [] [(0,[2]),(3,[0])] .leaf .leaf) (.two (.two (.node [] (some ⟨[(31,(.one .bool))],[],upN 25 7,[]⟩) [] [] .leaf .leaf) .leaf) .leaf))))) [] lI=(∀A c (l:List U32),∀Q,(((∀x∈l,0≤x.v∧x.v<4294967296))∧Q ⟨(.tuple #[(.agg ⟨Fl.cells (File.unpack l)⟩),(.int .i64 (File.cZ l))]),(some (.t [none,none])),[],[],[]⟩)→EW A c l Q):=by kernel_rfl
theorem EV:LV Un Tryz.prog 110 lI:=verify Tryz.func110 aa (tb:= [(137,iM)]) ⟨BY,trivial⟩ (by kernel_rfl) (EX.mpr fun A c l Q h=>by
 obtain⟨hp0,h⟩:=h
 exact fun gv=>fun s h_s f1=>bh (fun c1=>aj trivial fun _=>fun s1 h_s1 f3=>aj trivial fun _=>(by(have h0:¬l.length=17:=by omega);exact aF h (congrArg (fun l=>Value.tuple (List.toArray l)) (ah (congrArg (fun s:Fl=>Value.agg ⟨Fl.cells s⟩) (by rw [(File.jL h0).1,h_s1])) (ah (congrArg (Value.int .i64) (by rw [(File.jL h0).2])) rfl))) rfl rfl)) fun c1=>aj (by omega) fun s5=>aj (by omega) fun s6=>aj (by omega) fun s7=>fun gv1=>fun s1 h_s1 f8=>aj trivial fun _=>fun s2 h_s2 f10=>aj trivial fun _=>aj (by omega) fun s12=>aj (Fl.Co _) fun s13=>aj (File.rq hp0 _) fun s14=>aj trivial fun _=>fun s3 h_s3 f16=>aY ((((File.eM ((l.getD (Int.toNat 16) (U32.mk 0)).v)):Int)==0) && (bd ⟨Fl.cells s3⟩ ⟨Fl.cells Fl.zero⟩)) (ab (fun c2=>aj trivial fun _=>(by grind)) fun c2=>(by grind))<| bz (fun c3=>aj trivial fun _=>fun s4 h_s4 f19=>aj trivial fun _=>(by(have h0:l.length=17:=by omega);have hu:=File.kA h0;(have e2:Fl.norm s2=File.bare l:=by rw [Fl.norm_eq (show Fl.Ok s2 by assumption),h_s2,File.bare_eq h0]);(have e3:s3=File.dI (File.bare l) (l.getD 16 (U32.mk 0)).v:=by rw [h_s3,e2];exact Fl.norm_eq (File.mj h0 _));(have hz:=Fl.Ib (show Fl.Ok s3 by assumption) c3.2);exact aF h (congrArg (fun l=>Value.tuple (List.toArray l)) (ah (congrArg (fun s:Fl=>Value.agg ⟨Fl.cells s⟩) (by rw [hu.1,← e3,hz,h_s4])) (ah (congrArg (Value.int .i64) (by(rw [hu.2];simpa using c3.1))) rfl))) rfl rfl)) fun c3=>aj trivial fun _=>aj trivial fun _=>fun s4 h_s4 f23=>aj trivial fun _=>(by(have h0:l.length=17:=by omega);have hu:=File.kA h0;(have e2:Fl.norm s2=File.bare l:=by rw [Fl.norm_eq (show Fl.Ok s2 by assumption),h_s2,File.bare_eq h0]);(have e3:s3=File.dI (File.bare l) (l.getD 16 (U32.mk 0)).v:=by rw [h_s3,e2];exact Fl.norm_eq (File.mj h0 _));exact aF h (congrArg (fun l=>Value.tuple (List.toArray l)) (ah (congrArg (fun s:Fl=>Value.agg ⟨Fl.cells s⟩) (by(rw [hu.1,← e3,h_s4];exact(Fl.norm_eq ‹_›).symm))) (ah (congrArg (Value.int .i64) (by exact hu.2)) rfl))) rfl rfl))
def iZ:Ctr Un:=⟨[.one (.sl 0)],[],[.lst 1 false 22],[],fun A c l K=>((∀x∈l,0≤x.v∧x.v<4294967296))∧K ⟨(.tuple #[(.agg ⟨Fl.cells (File.unpack l)⟩),(.int .i64 (File.cZ l))]),(some (.t [none,none])),[],[],[]⟩⟩
def zh(A:Option Addr)(c:Nat)(l:List U32)(Q:Ou Un→Prop):Prop:=
 ∀(gv:Nat),
 ∀(s:Fl),s=Fl.zero→
 Fl.Ok s→
 split ((l.length:Int) !=17) (
  True∧
  ∀(s1:Fl),s1=Fl.zero→
  Fl.Ok s1→
  True∧
  Q ⟨(.tuple #[(.agg ⟨Fl.cells s1⟩),(.int .i64 80)]),(some (.t [none,none])),[],[],[]⟩) (
  ∀(gv1:Nat),
  ∀(s1:Fl),s1=Fl.zero→
  Fl.Ok s1→
  ∀i:Int,i=0→
  ∃I:Nat→Int→Fl→Prop,(∃m,I m i s1)∧∀(m:Nat)(_gv2:Nat→Value)(i1:Int)(s2:Fl),I m i1 s2→
  Fl.Ok s2→
  split (decide (i1<15)) (
   (0≤i1∧i1<(l.length:Int))∧
   ((0≤i1∧i1<((Fl.rs s2).length:Int))∧i1<(15:Int))∧
   True∧
   ∀(s3:Fl),s3=(Fl.sQ s2 i1.toNat (U32.mk ((l.getD i1.toNat (U32.mk 0)).v)))→
   Fl.Ok s3→
   ∀i2:Int,i2=(i64.wrap (i1+1))→
   ∃m1,m1<m∧I m1 i2 s3) (
   (0≤(15:Int)∧(15:Int)<(l.length:Int))∧
   True∧
   ∀(s3:Fl),s3=({s2 with pc:=(l.getD (Int.toNat 15) (U32.mk 0)).v}:Fl)→
   Fl.Ok s3→
   True∧
   (0≤(16:Int)∧(16:Int)<(l.length:Int))∧
   Fl.Ok (Fl.norm s3)∧
   (0≤((l.getD (Int.toNat 16) (U32.mk 0)).v)∧((l.getD (Int.toNat 16) (U32.mk 0)).v)<4294967296)∧
   True∧
   ∀(s4:Fl),s4=(Fl.norm (File.dI (Fl.norm s3) ((l.getD (Int.toNat 16) (U32.mk 0)).v)))→
   Fl.Ok s4→
   True∧
   Q ⟨(.tuple #[(.agg ⟨Fl.cells s4⟩),(.int .i64 (File.eM ((l.getD (Int.toNat 16) (U32.mk 0)).v)))]),(some (.t [none,none])),[],[],[]⟩))
theorem zi:Vc2 Un Tryz.prog (aN [(157,fG)]) [5] Tryz.f149 (.r' (.r' (.r' (.two (.r' (.two (.node [] (some ⟨[(5,(.one (.int .i64)))],[],[5]++upN 10 11,[(2,(.ob 10))]⟩) [] [] .leaf .leaf) .leaf)) (.r' (.two (.node [] none [] [(0,[2]),(3,[0])] .leaf .leaf) .leaf)))))) [] iZ=(∀A c (l:List U32),∀Q,(((∀x∈l,0≤x.v∧x.v<4294967296))∧Q ⟨(.tuple #[(.agg ⟨Fl.cells (File.unpack l)⟩),(.int .i64 (File.cZ l))]),(some (.t [none,none])),[],[],[]⟩)→zh A c l Q):=by kernel_rfl
theorem zg:LV Un Tryz.prog 149 iZ:=verify Tryz.func149 aa (tb:= [(157,fG)]) ⟨vW,trivial⟩ (by kernel_rfl) (zi.mpr fun A c l Q h=>by
 obtain⟨hp0,h⟩:=h
 exact fun gv=>fun s h_s f1=>bh (fun c1=>aj trivial fun _=>fun s1 h_s1 f3=>aj trivial fun _=>(by(have h0:¬l.length=17:=by omega);exact aF h (congrArg (fun l=>Value.tuple (List.toArray l)) (ah (congrArg (fun s:Fl=>Value.agg ⟨Fl.cells s⟩) (by rw [(File.jL h0).1,h_s1])) (ah (congrArg (Value.int .i64) (by rw [(File.jL h0).2])) rfl))) rfl rfl)) fun c1=>fun gv1=>fun s1 h_s1 f5=>fun i h_i=>⟨fun m i1 s2=>(m=(15 - i1).toNat)∧(0≤i1∧i1≤15)∧(s2=File.part l i1),⟨_,rfl,(by omega),(by rw [h_s1,h_i];rfl)⟩,fun m _ i1 s2 ⟨hm,hi,hs⟩=>fun f6=>au (fun c2=>aj (by omega) fun s7=>aj (by(have h9:s2.rs.length=15:=(show Fl.Ok s2 by assumption));omega) fun s8=>aj trivial fun _=>fun s3 h_s3 f10=>fun i2 h_i2=>⟨_,(by rw [h_i2,af (by omega)];omega),rfl,(by rw [h_i2,af (by omega)];omega),(by rw [h_s3,hs,h_i2];exact File.Dr (by omega) (by omega))⟩) fun c2=>aj (by omega) fun s11=>aj trivial fun _=>fun s3 h_s3 f13=>aj trivial fun _=>aj (by omega) fun s15=>aj (Fl.Co _) fun s16=>aj (File.rq hp0 _) fun s17=>aj trivial fun _=>fun s4 h_s4 f19=>aj trivial fun _=>(by(have h0:l.length=17:=by omega);have hu:=File.kA h0;(have e2:Fl.norm s3=File.bare l:=by rw [Fl.norm_eq (show Fl.Ok s3 by assumption),h_s3,hs,File.FJ ‹_› hi.2];rfl);(have e3:s4=File.dI (File.bare l) (l.getD 16 (U32.mk 0)).v:=by rw [h_s4,e2];exact Fl.norm_eq (File.mj h0 _));exact aF h (congrArg (fun l=>Value.tuple (List.toArray l)) (ah (congrArg (fun s:Fl=>Value.agg ⟨Fl.cells s⟩) (by rw [hu.1,e3])) (ah (congrArg (Value.int .i64) (by exact hu.2)) rfl))) rfl rfl)⟩)
end Go.Proofs.YtbjlecpmgocoeaaGreatDoor
end
section
set_option maxRecDepth 10000
set_option maxHeartbeats 1000000
namespace Go.Proofs.YtbjlecpmgocoeaaGreatDoor
open Go Go.RowKit V
open Go.IntKind (i64 u32 u64)
theorem Ll {w:World}:
 Calls Tryz.prog 87 #[] w fun e w'=>∃v,e= .returned v∧∃g:Nat,∃L:DgL,v= .pointer (some (Addr.mk g 0 none))∧nG w' g L Dg.new∧(∀k,L.X g k→w.heap.size≤k)∧Pu w w':=by
 refine AX ?_
 have hp:=Ch.refl (fun _=>False) w
 refine Calls.mono (Fz) ?_
 rintro e wv ⟨_,rfl,rfl,q_wv⟩
 refine⟨_,_,_,_,_,_,_,_,rfl,?_⟩
 refine mkd fun gv wv1 m_gv=>?_
 have b_gv:=m_gv.blk
 have hp:=Ch.made (Ch.pu hp q_wv) m_gv
 exact⟨gv,⟨fun _=>False,none,0,0⟩,rfl,⟨⟨_,b_gv⟩,Rd.nil,fun h=>h⟩,by have:=m_gv.num;have:=q_wv.size;rintro k (rfl | hk);omega;exact hk.elim,hp⟩
theorem Lm {g:Nat} {L:DgL} {D:Dg} {Z:Nat→Prop} {wordsA:Option Addr} {wordsN:Nat} {wordsC:Nat} {l:List U32} {K:List Int} {w:World}(h:nG w g L D)(hz:Rd w Z wordsA wordsN wordsC l)(hk:gF w 1 K)(ok:D.Ok)(hlen:l.length≤1099511627776)(hzg:¬Z g)(hg1:¬g=1):
 Calls Tryz.prog 89 #[(.pointer (some (Addr.mk g 0 none))),(.slice wordsA wordsN wordsC)] w fun e w'=>∃v,e= .returned v∧∃L':DgL,v= .tuple #[]∧nG w' g L' (D.add K l)∧(∀k,(L'.X g) k→(L.X g) k∨w.heap.size≤k)∧Ch (L.X g) w w':=by
 refine AZ (some (Addr.mk g 0 none)) _ _ _ ?_
 have hn:=ok.n
 have hz0:=hz
 have hg9:=h.lt g (.inl rfl)
 have hp:=Ch.refl (L.X g) w
 have lt_h:=h.lt
 have lt_hz:=hz.lt
 have lt_hk:=hk.lt
 obtain⟨⟨hT,hb⟩,hr,hoff⟩:=h
 have lt_hr:=hr.lt
 refine ak _ rfl ⟨_,hb.at rfl,?_⟩
 refine au (fun c1=>?_) (fun c1=>?_)
 ·exact⟨L,rfl,by have hc:(l.length:Int)>36028797018963968 - D.n:=(by have:=hz.len;rw [af (by omega)]at c1;omega);rw [Dg.add,if_pos hc];exact⟨⟨_,hb⟩,hr,hoff⟩,fun k hk=>.inl hk,hp⟩
 ·have hzl:=hz.len
  have hrl:=hr.len
  have hn:=ok.n
  have hwl:=ok.len
  have hcap:=hr.cap
  rw [af (by omega)]at c1
  refine ak _ rfl ⟨_,hb.at rfl,ak _ rfl (aL hb (by simp) fun wv s_wv=>?_)⟩
  have hb:Blk wv g #[(.int .u32 D.st.a),(.int .u32 D.st.b),(.int .u32 D.st.c),(.int .u32 D.st.d),(.int .u32 D.st.e),(.int .u32 D.st.f),(.int .u32 D.st.g),(.int .u32 D.st.h),(.int .i64 (i64.wrap (D.n+((wordsN:Nat):Int)))),(.slice L.a L.n L.c)] _:=s_wv.blk.cast (by kernel_rfl)
  refine⟨bXU [] [3,7,12] wv.drew (fun _=>False),?_⟩
  have hb:=Blk.drew hb
  refine ak _ rfl ⟨.inl (by decide),_,_,_,hb.at rfl,ak _ rfl ⟨.inl (by decide),_,_,_,hb.at rfl,ak _ rfl ⟨.inl (by decide),_,_,_,hb.at rfl,⟨by omega,⟨by omega,?_⟩⟩⟩⟩⟩
  have hr:=(hr.ch s_wv.ch (fun k hx e=>(hoff) (e▸hx))).pu (Pu.aI _)
  rintro x36A e_x36A x36N e_x36N x36C e_x36C
  have r_x36A:=Rd.all hr e_x36A e_x36N e_x36C (by omega) (by omega)
  have hz:=(hz.ch s_wv.ch (fun k hx e=>(hzg) (e▸hx))).pu (Pu.aI _)
  have hp:=Ch.drew (Ch.call hp s_wv.ch (by exact fun k hk=>.inl (.inl hk)))
  refine Kh mQ r_x36A (by omega) hz (by omega) (by omega) fun A_wv1 c_wv1 wv1 o_wv1 q_wv1=>?_
  refine bXU.ri q_wv1 (by decide) ?_
  have hp:=Ch.pu hp q_wv1
  have hz:=hz.pu q_wv1
  have hk:=((hk.ch s_wv.ch (fun k hx e=>(hg1) (e▸hx))).pu (Pu.aI _)).pu q_wv1
  have hb:=Pu.blk q_wv1 hb
  refine⟨fun mz leftA leftN leftC W=>∃Z_ll:Nat→Prop,∃ll:List U32,∃S:S8,∃n2:Int,mz=ll.length∧(bJ K S ll=bJ K D.st (D.waits++l))∧(¬Z_ll g)∧(ll.length≤1099511627800)∧(n2=D.n+l.length)∧Rd W Z_ll leftA leftN leftC ll∧Ch (L.X g) w W∧Rd W Z wordsA wordsN wordsC l∧gF W 1 K∧Blk W g #[(.int .u32 S.a),(.int .u32 S.b),(.int .u32 S.c),(.int .u32 S.d),(.int .u32 S.e),(.int .u32 S.f),(.int .u32 S.g),(.int .u32 S.h),(.int .i64 n2),(.slice L.a L.n L.c)] hT,⟨_,(fun k=>(L.Y k∨wv.drew.heap.size≤k)∧k<wv1.heap.size),(D.waits++l),D.st,_,rfl,rfl,(by rintro⟨h | h,_⟩;exact hoff h;exact absurd (Nat.lt_of_lt_of_le hg9 (Nat.le_trans s_wv.kept.size h)) (Nat.lt_irrefl _)),(by rw [List.length_append];omega),(by rw [af (by omega)];omega),o_wv1,hp,hz,hk,hb⟩,?_⟩
  rintro _ _ leftA leftN leftC wv2 ⟨Z_ll,ll,S,n2,rfl,hI,hlz,hlb,hn2,h_ll,hp,hz,hk,hb⟩
  refine au (fun c2=>?_) (fun c2=>?_)
  ·refine⟨bXU [] [4,7] wv2.drew (fun _=>False),?_⟩
   have hb:=Blk.drew hb
   have h_ll:=h_ll.pu (Pu.aI _)
   refine ak _ rfl ⟨.inl (by decide),_,_,_,_,_,_,_,_,⟨hb.at2 rfl,hb.at2 rfl,hb.at2 rfl,hb.at2 rfl,hb.at2 rfl,hb.at2 rfl,hb.at2 rfl,hb.at2 rfl⟩,⟨by omega,?_⟩⟩
   obtain⟨p3,ha3,hz3,hc3⟩:=h_ll.u32 (by omega)
   refine ak p3 ha3 ⟨.inl (by decide),_,_,_,_,_,_,_,_,_,_,_,_,_,_,_,_,⟨hc3 0 (by omega),hc3 1 (by omega),hc3 2 (by omega),hc3 3 (by omega),hc3 4 (by omega),hc3 5 (by omega),hc3 6 (by omega),hc3 7 (by omega),hc3 8 (by omega),hc3 9 (by omega),hc3 10 (by omega),hc3 11 (by omega),hc3 12 (by omega),hc3 13 (by omega),hc3 14 (by omega),hc3 15 (by omega)⟩,?_⟩
   have hk:=hk.pu (Pu.aI _)
   refine Calls.mono (JE hk _ _ _ _ _ _ _ _ _ _ _ _ _ _ _ _ _ _ _ _ _ _ _ _) ?_
   rintro e wv3 ⟨_,rfl,rfl,q_wv3⟩
   refine⟨_,_,_,_,_,_,_,_,rfl,?_⟩
   refine bXU.ri q_wv3 (by decide) ?_
   have hb:=Pu.blk q_wv3 hb
   refine ak _ rfl (aL hb (by simp) fun wv4 s_wv4=>?_)
   have hb:Blk wv4 g #[(.int .u32 ((dw K (S8.mk S.a S.b S.c S.d S.e S.f S.g S.h) [((ll.getD 0 ⟨0⟩).v),((ll.getD 1 ⟨0⟩).v),((ll.getD 2 ⟨0⟩).v),((ll.getD 3 ⟨0⟩).v),((ll.getD 4 ⟨0⟩).v),((ll.getD 5 ⟨0⟩).v),((ll.getD 6 ⟨0⟩).v),((ll.getD 7 ⟨0⟩).v),((ll.getD 8 ⟨0⟩).v),((ll.getD 9 ⟨0⟩).v),((ll.getD 10 ⟨0⟩).v),((ll.getD 11 ⟨0⟩).v),((ll.getD 12 ⟨0⟩).v),((ll.getD 13 ⟨0⟩).v),((ll.getD 14 ⟨0⟩).v),((ll.getD 15 ⟨0⟩).v)]).a)),(.int .u32 ((dw K (S8.mk S.a S.b S.c S.d S.e S.f S.g S.h) [((ll.getD 0 ⟨0⟩).v),((ll.getD 1 ⟨0⟩).v),((ll.getD 2 ⟨0⟩).v),((ll.getD 3 ⟨0⟩).v),((ll.getD 4 ⟨0⟩).v),((ll.getD 5 ⟨0⟩).v),((ll.getD 6 ⟨0⟩).v),((ll.getD 7 ⟨0⟩).v),((ll.getD 8 ⟨0⟩).v),((ll.getD 9 ⟨0⟩).v),((ll.getD 10 ⟨0⟩).v),((ll.getD 11 ⟨0⟩).v),((ll.getD 12 ⟨0⟩).v),((ll.getD 13 ⟨0⟩).v),((ll.getD 14 ⟨0⟩).v),((ll.getD 15 ⟨0⟩).v)]).b)),(.int .u32 ((dw K (S8.mk S.a S.b S.c S.d S.e S.f S.g S.h) [((ll.getD 0 ⟨0⟩).v),((ll.getD 1 ⟨0⟩).v),((ll.getD 2 ⟨0⟩).v),((ll.getD 3 ⟨0⟩).v),((ll.getD 4 ⟨0⟩).v),((ll.getD 5 ⟨0⟩).v),((ll.getD 6 ⟨0⟩).v),((ll.getD 7 ⟨0⟩).v),((ll.getD 8 ⟨0⟩).v),((ll.getD 9 ⟨0⟩).v),((ll.getD 10 ⟨0⟩).v),((ll.getD 11 ⟨0⟩).v),((ll.getD 12 ⟨0⟩).v),((ll.getD 13 ⟨0⟩).v),((ll.getD 14 ⟨0⟩).v),((ll.getD 15 ⟨0⟩).v)]).c)),(.int .u32 ((dw K (S8.mk S.a S.b S.c S.d S.e S.f S.g S.h) [((ll.getD 0 ⟨0⟩).v),((ll.getD 1 ⟨0⟩).v),((ll.getD 2 ⟨0⟩).v),((ll.getD 3 ⟨0⟩).v),((ll.getD 4 ⟨0⟩).v),((ll.getD 5 ⟨0⟩).v),((ll.getD 6 ⟨0⟩).v),((ll.getD 7 ⟨0⟩).v),((ll.getD 8 ⟨0⟩).v),((ll.getD 9 ⟨0⟩).v),((ll.getD 10 ⟨0⟩).v),((ll.getD 11 ⟨0⟩).v),((ll.getD 12 ⟨0⟩).v),((ll.getD 13 ⟨0⟩).v),((ll.getD 14 ⟨0⟩).v),((ll.getD 15 ⟨0⟩).v)]).d)),(.int .u32 ((dw K (S8.mk S.a S.b S.c S.d S.e S.f S.g S.h) [((ll.getD 0 ⟨0⟩).v),((ll.getD 1 ⟨0⟩).v),((ll.getD 2 ⟨0⟩).v),((ll.getD 3 ⟨0⟩).v),((ll.getD 4 ⟨0⟩).v),((ll.getD 5 ⟨0⟩).v),((ll.getD 6 ⟨0⟩).v),((ll.getD 7 ⟨0⟩).v),((ll.getD 8 ⟨0⟩).v),((ll.getD 9 ⟨0⟩).v),((ll.getD 10 ⟨0⟩).v),((ll.getD 11 ⟨0⟩).v),((ll.getD 12 ⟨0⟩).v),((ll.getD 13 ⟨0⟩).v),((ll.getD 14 ⟨0⟩).v),((ll.getD 15 ⟨0⟩).v)]).e)),(.int .u32 ((dw K (S8.mk S.a S.b S.c S.d S.e S.f S.g S.h) [((ll.getD 0 ⟨0⟩).v),((ll.getD 1 ⟨0⟩).v),((ll.getD 2 ⟨0⟩).v),((ll.getD 3 ⟨0⟩).v),((ll.getD 4 ⟨0⟩).v),((ll.getD 5 ⟨0⟩).v),((ll.getD 6 ⟨0⟩).v),((ll.getD 7 ⟨0⟩).v),((ll.getD 8 ⟨0⟩).v),((ll.getD 9 ⟨0⟩).v),((ll.getD 10 ⟨0⟩).v),((ll.getD 11 ⟨0⟩).v),((ll.getD 12 ⟨0⟩).v),((ll.getD 13 ⟨0⟩).v),((ll.getD 14 ⟨0⟩).v),((ll.getD 15 ⟨0⟩).v)]).f)),(.int .u32 ((dw K (S8.mk S.a S.b S.c S.d S.e S.f S.g S.h) [((ll.getD 0 ⟨0⟩).v),((ll.getD 1 ⟨0⟩).v),((ll.getD 2 ⟨0⟩).v),((ll.getD 3 ⟨0⟩).v),((ll.getD 4 ⟨0⟩).v),((ll.getD 5 ⟨0⟩).v),((ll.getD 6 ⟨0⟩).v),((ll.getD 7 ⟨0⟩).v),((ll.getD 8 ⟨0⟩).v),((ll.getD 9 ⟨0⟩).v),((ll.getD 10 ⟨0⟩).v),((ll.getD 11 ⟨0⟩).v),((ll.getD 12 ⟨0⟩).v),((ll.getD 13 ⟨0⟩).v),((ll.getD 14 ⟨0⟩).v),((ll.getD 15 ⟨0⟩).v)]).g)),(.int .u32 ((dw K (S8.mk S.a S.b S.c S.d S.e S.f S.g S.h) [((ll.getD 0 ⟨0⟩).v),((ll.getD 1 ⟨0⟩).v),((ll.getD 2 ⟨0⟩).v),((ll.getD 3 ⟨0⟩).v),((ll.getD 4 ⟨0⟩).v),((ll.getD 5 ⟨0⟩).v),((ll.getD 6 ⟨0⟩).v),((ll.getD 7 ⟨0⟩).v),((ll.getD 8 ⟨0⟩).v),((ll.getD 9 ⟨0⟩).v),((ll.getD 10 ⟨0⟩).v),((ll.getD 11 ⟨0⟩).v),((ll.getD 12 ⟨0⟩).v),((ll.getD 13 ⟨0⟩).v),((ll.getD 14 ⟨0⟩).v),((ll.getD 15 ⟨0⟩).v)]).h)),(.int .i64 n2),(.slice L.a L.n L.c)] _:=s_wv4.blk.cast (by kernel_rfl)
   refine bXU.grow s_wv4.ch ?_
   refine⟨by omega,?_⟩
   have h_ll:=(h_ll.pu q_wv3).ch s_wv4.ch (fun k hx e=>(hlz) (e▸hx))
   rintro x43A e_x43A x43N e_x43N x43C e_x43C
   have r_x43A:=Rd.from_ (lo:=16) h_ll e_x43A e_x43N e_x43C (by omega) (by have:=h_ll.cap;omega)
   have hp:=Ch.call (Ch.pu (Ch.drew hp) q_wv3) s_wv4.ch (by exact fun k hk=>.inl (.inl hk))
   have hz:=((hz.pu (Pu.aI _)).pu q_wv3).ch s_wv4.ch (fun k hx e=>(hzg) (e▸hx))
   have hk:=(hk.pu q_wv3).ch s_wv4.ch (fun k hx e=>(hg1) (e▸hx))
   exact⟨_,by rw [List.length_drop];have:=h_ll.len;omega,Z_ll,(ll.drop 16),(dw K S ((ll.take 16).map U32.v)),n2,rfl,(by rw [← hI,← ek (by have:=h_ll.len;omega)]),hlz,(by rw [List.length_drop];omega),hn2,r_x43A,hp,hz,hk,hb.cast (kP (congrArg (Value.int .u32) (by rw [jM (by have:=h_ll.len;omega)])) (congrArg (Value.int .u32) (by rw [jM (by have:=h_ll.len;omega)])) (congrArg (Value.int .u32) (by rw [jM (by have:=h_ll.len;omega)])) (congrArg (Value.int .u32) (by rw [jM (by have:=h_ll.len;omega)])) (congrArg (Value.int .u32) (by rw [jM (by have:=h_ll.len;omega)])) (congrArg (Value.int .u32) (by rw [jM (by have:=h_ll.len;omega)])) (congrArg (Value.int .u32) (by rw [jM (by have:=h_ll.len;omega)])) (congrArg (Value.int .u32) (by rw [jM (by have:=h_ll.len;omega)])) (rfl) (rfl))⟩
  ·have hsz2:=hp.size
   have hog:¬wv2.heap.size≤g:=by omega
   refine nr mQ h_ll (by omega) (by omega) fun A_wv3 c_wv3 wv3 o_wv3 q_wv3=>?_
   have hb:=Pu.blk q_wv3 hb
   refine ak _ rfl (aL hb (by simp) fun wv4 s_wv4=>?_)
   have hb:Blk wv4 g #[(.int .u32 S.a),(.int .u32 S.b),(.int .u32 S.c),(.int .u32 S.d),(.int .u32 S.e),(.int .u32 S.f),(.int .u32 S.g),(.int .u32 S.h),(.int .i64 n2),(.slice A_wv3 leftN c_wv3)] _:=s_wv4.blk.cast (by kernel_rfl)
   have o_wv3:=o_wv3.ch s_wv4.ch (fun k hx e=>hog (e▸hx.1))
   have hp:=Ch.call (Ch.pu hp q_wv3) s_wv4.ch (by exact fun k hk=>.inl (.inl hk))
   exact⟨⟨fun k=>wv2.heap.size≤k∧k<wv4.heap.size,A_wv3,leftN,c_wv3⟩,rfl,by have hn:=ok.n;have hc:¬(l.length:Int)>36028797018963968 - D.n:=(by have:=hz0.len;omega);have ha:bJ K D.st (D.waits++l)=(S,ll):=(by rw [← hI,dE (by have:=h_ll.len;omega)]);rw [Dg.add,if_neg hc,ha];exact⟨⟨_,Blk.cast hb (by rw [← hn2])⟩,(o_wv3).JK (fun k hk=>⟨hk.1.1,hk.2⟩) (fun k hk=>hk.2),fun h=>absurd h.1 hog⟩,fun k hk=>hk.elim (fun e=>.inl (.inl e)) (fun h=>.inr (Nat.le_trans hsz2 h.1)),hp⟩
theorem KI {g:Nat} {L:DgL} {D:Dg} {w:World}(h:nG w g L D)(ok:D.Ok):
 Calls Tryz.prog 91 #[(.pointer (some (Addr.mk g 0 none)))] w fun e w'=>∃v,e= .returned v∧v= .agg (aZ D.save)∧Pu w w':=by
 refine yM (some (Addr.mk g 0 none)) ?_
 have hwn:=h.rd.len
 have hwl:=ok.len
 have hp:=Ch.refl (fun _=>False) w
 have lt_h:=h.lt
 obtain⟨⟨hT,hb⟩,hr,hoff⟩:=h
 have lt_hr:=hr.lt
 refine mkd fun gv wv m_gv=>?_
 have lo_gv:=m_gv.lo hp
 have ne_g_gv:=m_gv.ne hb
 have b_gv:Blk wv gv (aZ (List.replicate 26 0)) _:=m_gv.blk.cast (fw _ _)
 have hp:=Ch.made hp m_gv
 have hb:=Made.old m_gv hb
 refine mkd fun gv1 wv1 m_gv1=>?_
 have lo_gv1:=m_gv1.lo hp
 have ne_g_gv1:=m_gv1.ne hb
 have ne_gv_gv1:=m_gv1.ne b_gv
 have b_gv1:Blk wv1 gv1 (aZ (List.replicate 26 0)) _:=m_gv1.blk.cast (fw _ _)
 refine⟨bXU [] [] wv1.drew (fun _=>False),?_⟩
 refine⟨by omega,?_⟩
 rintro _ rfl _ rfl _ rfl
 refine ak _ rfl ?_
 rintro _ rfl _ rfl _ rfl
 have b_gv1:=Blk.drew b_gv1
 have hb:=Blk.drew (Made.old m_gv1 hb)
 refine ni mV b_gv1 (o:=0) rfl (by(simp;done)) (cU.pre (Z:=fun _=>True) (o:=0) (r:= [D.st.a,D.st.b,D.st.c,D.st.d,D.st.e,D.st.f,D.st.g,D.st.h]) hb trivial rfl (by(simp;done)) (by rfl) (by rfl)) (by(simp;done)) fun wv2 s_wv2=>?_
 have b_gv1:=s_wv2.blk
 refine bXU.ri s_wv2.ch (by decide) ?_
 refine⟨bXU [] [3,10] wv2.drew (fun _=>False),?_⟩
 have hb:=Blk.drew (Ch.blk s_wv2.ch hb (ne_g_gv1))
 have b_gv1:=Blk.drew b_gv1
 refine ak _ rfl ⟨.inl (by decide),_,hb.at rfl,ak _ rfl ⟨.inl (by decide),_,hb.at rfl,⟨by decide,bV (i:=8) b_gv1 (by(simp;done)) fun wv3 s_wv3=>?_⟩⟩⟩
 have b_gv1:=s_wv3.blk
 refine bXU.ri s_wv3.ch (by decide) ?_
 refine⟨by decide,bV (i:=9) b_gv1 (by(simp;done)) fun wv4 s_wv4=>?_⟩
 have b_gv1:=s_wv4.blk
 refine bXU.grow s_wv4.ch ?_
 refine⟨bXU [] [4] wv4.drew (fun _=>False),?_⟩
 refine⟨by omega,?_⟩
 rintro _ rfl _ rfl _ rfl
 have hb:=Blk.drew (Ch.blk s_wv4.ch (Ch.blk s_wv3.ch hb (ne_g_gv1)) (ne_g_gv1))
 refine ak _ rfl ⟨.inl (by decide),_,_,_,hb.at rfl,?_⟩
 have b_gv1:=Blk.drew b_gv1
 have hr:=(((((((hr.pu m_gv.pu).pu m_gv1.pu).pu (Pu.aI _)).ch s_wv2.ch (fun k hx e=>(fun hx=>absurd (lt_hr _ hx) (Nat.not_lt.2 lo_gv1)) (e▸hx))).pu (Pu.aI _)).ch s_wv3.ch (fun k hx e=>(fun hx=>absurd (lt_hr _ hx) (Nat.not_lt.2 lo_gv1)) (e▸hx))).ch s_wv4.ch (fun k hx e=>(fun hx=>absurd (lt_hr _ hx) (Nat.not_lt.2 lo_gv1)) (e▸hx))).pu (Pu.aI _)
 refine ni mV b_gv1 (o:=10) rfl (by(simp;done)) (hr).ints (by(simp;omega)) fun wv5 s_wv5=>?_
 have b_gv1:=s_wv5.blk
 refine bXU.ri s_wv5.ch (by decide) ?_
 have b_gv:=Ch.blk s_wv5.ch (Blk.drew (Ch.blk s_wv4.ch (Ch.blk s_wv3.ch (Blk.drew (Ch.blk s_wv2.ch (Blk.drew (Made.old m_gv1 b_gv)) (ne_gv_gv1))) (ne_gv_gv1)) (ne_gv_gv1))) (ne_gv_gv1)
 refine⟨aZ (fu (((fu (List.replicate 26 0) 0 ([D.st.a,D.st.b,D.st.c,D.st.d,D.st.e,D.st.f,D.st.g,D.st.h].take (min (8 - 0) ((Int.toNat 8) - 0)))).set 8 (u32.wrap ((u64.wrap D.n:Int).fdiv (2 ^ 32)))).set 9 (u32.wrap D.n)) 10 ((List.map U32.v D.waits).take (min L.n (26 - (Int.toNat 10))))),b_gv1.nQ (by(simp;done)),⟨by rw [eu];(simp;done),qL,lu b_gv (by(simp;done)) fun wv6 s_wv6=>?_⟩⟩
 have b_gv:=s_wv6.blk
 refine⟨aZ (fu (((fu (List.replicate 26 0) 0 ([D.st.a,D.st.b,D.st.c,D.st.d,D.st.e,D.st.f,D.st.g,D.st.h].take (min (8 - 0) ((Int.toNat 8) - 0)))).set 8 (u32.wrap ((u64.wrap D.n:Int).fdiv (2 ^ 32)))).set 9 (u32.wrap D.n)) 10 ((List.map U32.v D.waits).take (min L.n (26 - (Int.toNat 10))))),b_gv.nQ (by(simp;done)),?_⟩
 have hp:=Ch.call (Ch.call (Ch.drew (Ch.call (Ch.call (Ch.drew (Ch.call (Ch.drew (Ch.made hp m_gv1)) s_wv2.ch (by exact fun k e=>.inr (e▸lo_gv1)))) s_wv3.ch (by exact fun k e=>.inr (e▸lo_gv1))) s_wv4.ch (by exact fun k e=>.inr (e▸lo_gv1)))) s_wv5.ch (by exact fun k e=>.inr (e▸lo_gv1))) s_wv6.ch (by exact fun k e=>.inr (e▸lo_gv))
 exact⟨congrArg (fun l=>Value.agg (aZ l)) (by exact Dg.save_eq ok (Dg.Fp ok.n) (u32_eq _) hwn),hp⟩
theorem JM {w:World}:
 Calls Tryz.prog 88 #[] w fun e w'=>∃v,e= .returned v∧v= .agg #[(.int .u32 S8.first.a),(.int .u32 S8.first.b),(.int .u32 S8.first.c),(.int .u32 S8.first.d),(.int .u32 S8.first.e),(.int .u32 S8.first.f),(.int .u32 S8.first.g),(.int .u32 S8.first.h),(.slice none 0 0),(.int .i64 0)]∧Pu w w':=by
 refine v8 ?_
 have hp:=Ch.refl (fun _=>False) w
 refine mkd fun gv wv m_gv=>?_
 have lo_gv:=m_gv.lo hp
 have b_gv:=m_gv.blk
 refine Calls.mono (xi) ?_
 rintro e wv1 ⟨_,rfl,rfl,q_wv1⟩
 have b_gv:=Pu.blk q_wv1 b_gv
 refine⟨_,_,_,_,_,_,_,_,rfl,bC b_gv rfl fun wv2 s_wv2=>?_⟩
 have b_gv:=s_wv2.blk
 refine⟨_,_,_,_,_,_,_,_,_,_,_,_,⟨b_gv.at rfl,b_gv.at rfl,b_gv.at rfl,b_gv.at rfl,b_gv.at rfl,b_gv.at rfl,b_gv.at rfl,b_gv.at rfl,b_gv.at rfl,b_gv.at rfl⟩,?_⟩
 have hp:=Ch.call (Ch.pu (Ch.made hp m_gv) q_wv1) s_wv2.ch (by exact fun k e=>.inr (e▸lo_gv))
 exact⟨rfl,hp⟩
theorem HQ {Zd:Nat→Prop} {diA:Option Addr} {diN:Nat} {diC:Nat} {wl:List U32} {w:World}(hd:Rd w Zd diA diN diC wl)(da:Int)(db:Int)(dc:Int)(dd:Int)(de:Int)(df:Int)(dg:Int)(dh:Int)(dj:Int)(ok:(Dg.mk (S8.mk da db dc dd de df dg dh) dj wl).Ok):
 Calls Tryz.prog 92 #[(.agg #[(.int .u32 da),(.int .u32 db),(.int .u32 dc),(.int .u32 dd),(.int .u32 de),(.int .u32 df),(.int .u32 dg),(.int .u32 dh),(.slice diA diN diC),(.int .i64 dj)])] w fun e w'=>∃v,e= .returned v∧v= .agg (aZ (Dg.mk (S8.mk da db dc dd de df dg dh) dj wl).save)∧Pu w w':=by
 refine tm _ _ _ _ _ _ _ _ _ _ _ _ ?_
 have hwn:=hd.len
 have hwl:wl.length=(dj % 16).toNat:=ok.len
 have hn:0≤dj∧dj≤36028797018963968:=ok.n
 have hp:=Ch.refl (fun _=>False) w
 have lt_hd:=hd.lt
 refine mkd fun gv wv m_gv=>?_
 have b_gv:=m_gv.blk
 have hp:=Ch.made hp m_gv
 refine mkd fun gv1 wv1 m_gv1=>?_
 have lo_gv1:=m_gv1.lo hp
 have ne_gv_gv1:=m_gv1.ne b_gv
 have b_gv1:Blk wv1 gv1 (aZ (List.replicate 26 0)) _:=m_gv1.blk.cast (fw _ _)
 have hp:=Ch.made hp m_gv1
 have b_gv:=Made.old m_gv1 b_gv
 refine mkd fun gv2 wv2 m_gv2=>?_
 have lo_gv2:=m_gv2.lo hp
 have ne_gv_gv2:=m_gv2.ne b_gv
 have ne_gv1_gv2:=m_gv2.ne b_gv1
 have b_gv2:Blk wv2 gv2 (aZ (List.replicate 26 0)) _:=m_gv2.blk.cast (fw _ _)
 rintro _ rfl
 have hp:=Ch.made hp m_gv2
 have hd:=((hd.pu m_gv.pu).pu m_gv1.pu).pu m_gv2.pu
 have b_gv:=Made.old m_gv2 b_gv
 have b_gv1:=Made.old m_gv2 b_gv1
 refine⟨fun mz i1 W=>Ch (fun _=>False) w W∧Rd W Zd diA diN diC wl∧(∃T,Blk W gv #[(.int .u32 da),(.int .u32 db),(.int .u32 dc),(.int .u32 dd),(.int .u32 de),(.int .u32 df),(.int .u32 dg),(.int .u32 dh),(.slice diA diN diC),(.int .i64 dj)] T)∧(∃T,Blk W gv1 (aZ (List.replicate 26 0)) T)∧((mz=8∧i1=0∧(∃T,Blk W gv2 (aZ (List.replicate 26 0)) T))∨(mz=7∧i1=1∧(∃T,Blk W gv2 (aZ ((List.replicate 26 0).set 0 da)) T))∨(mz=6∧i1=2∧(∃T,Blk W gv2 (aZ (((List.replicate 26 0).set 0 da).set 1 db)) T))∨(mz=5∧i1=3∧(∃T,Blk W gv2 (aZ ((((List.replicate 26 0).set 0 da).set 1 db).set 2 dc)) T))∨(mz=4∧i1=4∧(∃T,Blk W gv2 (aZ (((((List.replicate 26 0).set 0 da).set 1 db).set 2 dc).set 3 dd)) T))∨(mz=3∧i1=5∧(∃T,Blk W gv2 (aZ ((((((List.replicate 26 0).set 0 da).set 1 db).set 2 dc).set 3 dd).set 4 de)) T))∨(mz=2∧i1=6∧(∃T,Blk W gv2 (aZ (((((((List.replicate 26 0).set 0 da).set 1 db).set 2 dc).set 3 dd).set 4 de).set 5 df)) T))∨(mz=1∧i1=7∧(∃T,Blk W gv2 (aZ ((((((((List.replicate 26 0).set 0 da).set 1 db).set 2 dc).set 3 dd).set 4 de).set 5 df).set 6 dg)) T))∨(mz=0∧i1=8∧(∃T,Blk W gv2 (aZ (((((((((List.replicate 26 0).set 0 da).set 1 db).set 2 dc).set 3 dd).set 4 de).set 5 df).set 6 dg).set 7 dh)) T))),⟨_,hp,hd,⟨_,b_gv⟩,⟨_,b_gv1⟩,.inl ⟨rfl,rfl,⟨_,b_gv2⟩⟩⟩,?_⟩
 rintro _ _ i1 wv3 ⟨hp,hd,⟨_,b_gv⟩,⟨_,b_gv1⟩,hU⟩
 rcases hU with⟨rfl,rfl,⟨_,b_gv2⟩⟩ | ⟨rfl,rfl,⟨_,b_gv2⟩⟩ | ⟨rfl,rfl,⟨_,b_gv2⟩⟩ | ⟨rfl,rfl,⟨_,b_gv2⟩⟩ | ⟨rfl,rfl,⟨_,b_gv2⟩⟩ | ⟨rfl,rfl,⟨_,b_gv2⟩⟩ | ⟨rfl,rfl,⟨_,b_gv2⟩⟩ | ⟨rfl,rfl,⟨_,b_gv2⟩⟩ | ⟨rfl,rfl,⟨_,b_gv2⟩⟩
 ·refine aV ⟨by decide,⟨_,b_gv.at2 rfl,⟨by decide,bV (i:=0) b_gv2 (by(simp;done)) fun wv4 s_wv4=>?_⟩⟩⟩
  have b_gv2:=s_wv4.blk
  rintro _ rfl
  have hp:=Ch.call hp s_wv4.ch (by exact fun k e=>.inr (e▸lo_gv2))
  have hd:=hd.ch s_wv4.ch (fun k hx e=>(fun hx=>absurd (lt_hd _ hx) (Nat.not_lt.2 lo_gv2)) (e▸hx))
  have b_gv:=Ch.blk s_wv4.ch b_gv (ne_gv_gv2)
  have b_gv1:=Ch.blk s_wv4.ch b_gv1 (ne_gv1_gv2)
  exact⟨7,by decide,hp,hd,⟨_,b_gv⟩,⟨_,b_gv1⟩,.inr (.inl ⟨rfl,rfl,⟨_,b_gv2⟩⟩)⟩
 ·refine aV ⟨by decide,⟨_,b_gv.at2 rfl,⟨by decide,bV (i:=1) b_gv2 (by(simp;done)) fun wv4 s_wv4=>?_⟩⟩⟩
  have b_gv2:=s_wv4.blk
  rintro _ rfl
  have hp:=Ch.call hp s_wv4.ch (by exact fun k e=>.inr (e▸lo_gv2))
  have hd:=hd.ch s_wv4.ch (fun k hx e=>(fun hx=>absurd (lt_hd _ hx) (Nat.not_lt.2 lo_gv2)) (e▸hx))
  have b_gv:=Ch.blk s_wv4.ch b_gv (ne_gv_gv2)
  have b_gv1:=Ch.blk s_wv4.ch b_gv1 (ne_gv1_gv2)
  exact⟨6,by decide,hp,hd,⟨_,b_gv⟩,⟨_,b_gv1⟩,.inr (.inr (.inl ⟨rfl,rfl,⟨_,b_gv2⟩⟩))⟩
 ·refine aV ⟨by decide,⟨_,b_gv.at2 rfl,⟨by decide,bV (i:=2) b_gv2 (by(simp;done)) fun wv4 s_wv4=>?_⟩⟩⟩
  have b_gv2:=s_wv4.blk
  rintro _ rfl
  have hp:=Ch.call hp s_wv4.ch (by exact fun k e=>.inr (e▸lo_gv2))
  have hd:=hd.ch s_wv4.ch (fun k hx e=>(fun hx=>absurd (lt_hd _ hx) (Nat.not_lt.2 lo_gv2)) (e▸hx))
  have b_gv:=Ch.blk s_wv4.ch b_gv (ne_gv_gv2)
  have b_gv1:=Ch.blk s_wv4.ch b_gv1 (ne_gv1_gv2)
  exact⟨5,by decide,hp,hd,⟨_,b_gv⟩,⟨_,b_gv1⟩,.inr (.inr (.inr (.inl ⟨rfl,rfl,⟨_,b_gv2⟩⟩)))⟩
 ·refine aV ⟨by decide,⟨_,b_gv.at2 rfl,⟨by decide,bV (i:=3) b_gv2 (by(simp;done)) fun wv4 s_wv4=>?_⟩⟩⟩
  have b_gv2:=s_wv4.blk
  rintro _ rfl
  have hp:=Ch.call hp s_wv4.ch (by exact fun k e=>.inr (e▸lo_gv2))
  have hd:=hd.ch s_wv4.ch (fun k hx e=>(fun hx=>absurd (lt_hd _ hx) (Nat.not_lt.2 lo_gv2)) (e▸hx))
  have b_gv:=Ch.blk s_wv4.ch b_gv (ne_gv_gv2)
  have b_gv1:=Ch.blk s_wv4.ch b_gv1 (ne_gv1_gv2)
  exact⟨4,by decide,hp,hd,⟨_,b_gv⟩,⟨_,b_gv1⟩,.inr (.inr (.inr (.inr (.inl ⟨rfl,rfl,⟨_,b_gv2⟩⟩))))⟩
 ·refine aV ⟨by decide,⟨_,b_gv.at2 rfl,⟨by decide,bV (i:=4) b_gv2 (by(simp;done)) fun wv4 s_wv4=>?_⟩⟩⟩
  have b_gv2:=s_wv4.blk
  rintro _ rfl
  have hp:=Ch.call hp s_wv4.ch (by exact fun k e=>.inr (e▸lo_gv2))
  have hd:=hd.ch s_wv4.ch (fun k hx e=>(fun hx=>absurd (lt_hd _ hx) (Nat.not_lt.2 lo_gv2)) (e▸hx))
  have b_gv:=Ch.blk s_wv4.ch b_gv (ne_gv_gv2)
  have b_gv1:=Ch.blk s_wv4.ch b_gv1 (ne_gv1_gv2)
  exact⟨3,by decide,hp,hd,⟨_,b_gv⟩,⟨_,b_gv1⟩,.inr (.inr (.inr (.inr (.inr (.inl ⟨rfl,rfl,⟨_,b_gv2⟩⟩)))))⟩
 ·refine aV ⟨by decide,⟨_,b_gv.at2 rfl,⟨by decide,bV (i:=5) b_gv2 (by(simp;done)) fun wv4 s_wv4=>?_⟩⟩⟩
  have b_gv2:=s_wv4.blk
  rintro _ rfl
  have hp:=Ch.call hp s_wv4.ch (by exact fun k e=>.inr (e▸lo_gv2))
  have hd:=hd.ch s_wv4.ch (fun k hx e=>(fun hx=>absurd (lt_hd _ hx) (Nat.not_lt.2 lo_gv2)) (e▸hx))
  have b_gv:=Ch.blk s_wv4.ch b_gv (ne_gv_gv2)
  have b_gv1:=Ch.blk s_wv4.ch b_gv1 (ne_gv1_gv2)
  exact⟨2,by decide,hp,hd,⟨_,b_gv⟩,⟨_,b_gv1⟩,.inr (.inr (.inr (.inr (.inr (.inr (.inl ⟨rfl,rfl,⟨_,b_gv2⟩⟩))))))⟩
 ·refine aV ⟨by decide,⟨_,b_gv.at2 rfl,⟨by decide,bV (i:=6) b_gv2 (by(simp;done)) fun wv4 s_wv4=>?_⟩⟩⟩
  have b_gv2:=s_wv4.blk
  rintro _ rfl
  have hp:=Ch.call hp s_wv4.ch (by exact fun k e=>.inr (e▸lo_gv2))
  have hd:=hd.ch s_wv4.ch (fun k hx e=>(fun hx=>absurd (lt_hd _ hx) (Nat.not_lt.2 lo_gv2)) (e▸hx))
  have b_gv:=Ch.blk s_wv4.ch b_gv (ne_gv_gv2)
  have b_gv1:=Ch.blk s_wv4.ch b_gv1 (ne_gv1_gv2)
  exact⟨1,by decide,hp,hd,⟨_,b_gv⟩,⟨_,b_gv1⟩,.inr (.inr (.inr (.inr (.inr (.inr (.inr (.inl ⟨rfl,rfl,⟨_,b_gv2⟩⟩)))))))⟩
 ·refine aV ⟨by decide,⟨_,b_gv.at2 rfl,⟨by decide,bV (i:=7) b_gv2 (by(simp;done)) fun wv4 s_wv4=>?_⟩⟩⟩
  have b_gv2:=s_wv4.blk
  rintro _ rfl
  have hp:=Ch.call hp s_wv4.ch (by exact fun k e=>.inr (e▸lo_gv2))
  have hd:=hd.ch s_wv4.ch (fun k hx e=>(fun hx=>absurd (lt_hd _ hx) (Nat.not_lt.2 lo_gv2)) (e▸hx))
  have b_gv:=Ch.blk s_wv4.ch b_gv (ne_gv_gv2)
  have b_gv1:=Ch.blk s_wv4.ch b_gv1 (ne_gv1_gv2)
  exact⟨0,by decide,hp,hd,⟨_,b_gv⟩,⟨_,b_gv1⟩,.inr (.inr (.inr (.inr (.inr (.inr (.inr (.inr (⟨rfl,rfl,⟨_,b_gv2⟩⟩))))))))⟩
 ·refine dS ⟨_,b_gv.at rfl,⟨by decide,bV (i:=8) b_gv2 (by(simp;done)) fun wv4 s_wv4=>?_⟩⟩
  have b_gv2:=s_wv4.blk
  have b_gv:=Ch.blk s_wv4.ch b_gv (ne_gv_gv2)
  refine⟨_,b_gv.at rfl,⟨by decide,bV (i:=9) b_gv2 (by(simp;done)) fun wv5 s_wv5=>?_⟩⟩
  have b_gv2:=s_wv5.blk
  rintro _ rfl
  have hp:=Ch.call (Ch.call hp s_wv4.ch (by exact fun k e=>.inr (e▸lo_gv2))) s_wv5.ch (by exact fun k e=>.inr (e▸lo_gv2))
  have hd:=(hd.ch s_wv4.ch (fun k hx e=>(fun hx=>absurd (lt_hd _ hx) (Nat.not_lt.2 lo_gv2)) (e▸hx))).ch s_wv5.ch (fun k hx e=>(fun hx=>absurd (lt_hd _ hx) (Nat.not_lt.2 lo_gv2)) (e▸hx))
  have b_gv:=Ch.blk s_wv5.ch b_gv (ne_gv_gv2)
  have b_gv1:=Ch.blk s_wv5.ch (Ch.blk s_wv4.ch b_gv1 (ne_gv1_gv2)) (ne_gv1_gv2)
  refine⟨fun mz i3 W=>mz=(16 - i3).toNat∧(0≤i3∧i3≤diN)∧Ch (fun _=>False) w W∧Rd W Zd diA diN diC wl∧(∃T,Blk W gv #[(.int .u32 da),(.int .u32 db),(.int .u32 dc),(.int .u32 dd),(.int .u32 de),(.int .u32 df),(.int .u32 dg),(.int .u32 dh),(.slice diA diN diC),(.int .i64 dj)] T)∧(∃T,Blk W gv1 (aZ (List.replicate 26 0)) T)∧(∃T,Blk W gv2 (aZ (fu (((((((((((List.replicate 26 0).set 0 da).set 1 db).set 2 dc).set 3 dd).set 4 de).set 5 df).set 6 dg).set 7 dh).set 8 (u32.wrap ((u64.wrap dj:Int).fdiv (2 ^ 32)))).set 9 (u32.wrap (u64.wrap dj))) 10 ((wl.map U32.v).take i3.toNat))) T),⟨_,rfl,(by omega),hp,hd,⟨_,b_gv⟩,⟨_,b_gv1⟩,⟨_,b_gv2.cast (congrArg aZ (by rfl))⟩⟩,?_⟩
  rintro _ _ i3 wv6 ⟨rfl,h0,hp,hd,⟨_,b_gv⟩,⟨_,b_gv1⟩,⟨_,b_gv2⟩⟩
  refine⟨_,_,_,b_gv.at rfl,?_⟩
  refine au (fun c1=>?_) (fun c1=>?_)
  ·refine⟨_,_,_,b_gv.at rfl,?_⟩
   obtain⟨p2,x2,ha2,hx2,hz2,hc2⟩:=hd.ld (i:=i3) (by omega) (by omega)
   refine⟨by constructor<;>omega,ak p2 ha2 ⟨_,hc2 0 (by decide),⟨by(simp only [IntKind.wrap_i64];omega),jN b_gv2 (by(simp only [wR,List.length_set,List.length_replicate,IntKind.wrap_i64];omega)) fun wv7 s_wv7=>?_⟩⟩⟩
   have b_gv2:=s_wv7.blk
   rintro _ rfl
   have hp:=Ch.call hp s_wv7.ch (by exact fun k e=>.inr (e▸lo_gv2))
   have hd:=hd.ch s_wv7.ch (fun k hx e=>(fun hx=>absurd (lt_hd _ hx) (Nat.not_lt.2 lo_gv2)) (e▸hx))
   have b_gv:=Ch.blk s_wv7.ch b_gv (ne_gv_gv2)
   have b_gv1:=Ch.blk s_wv7.ch b_gv1 (ne_gv1_gv2)
   exact⟨_,by rw [IntKind.wrap_i64];omega,rfl,by rw [IntKind.wrap_i64];omega,hp,hd,⟨_,b_gv⟩,⟨_,b_gv1⟩,⟨_,b_gv2.cast (congrArg aZ (by exact Dd (by omega) hx2))⟩⟩
  ·refine⟨aZ (fu (((((((((((List.replicate 26 0).set 0 da).set 1 db).set 2 dc).set 3 dd).set 4 de).set 5 df).set 6 dg).set 7 dh).set 8 (u32.wrap ((u64.wrap dj:Int).fdiv (2 ^ 32)))).set 9 (u32.wrap (u64.wrap dj))) 10 ((wl.map U32.v).take i3.toNat)),b_gv2.nQ (by(simp;done)),⟨by rw [eu];(simp;done),qL,lu b_gv1 (by(simp;done)) fun wv7 s_wv7=>?_⟩⟩
   have b_gv1:=s_wv7.blk
   refine⟨aZ (fu (((((((((((List.replicate 26 0).set 0 da).set 1 db).set 2 dc).set 3 dd).set 4 de).set 5 df).set 6 dg).set 7 dh).set 8 (u32.wrap ((u64.wrap dj:Int).fdiv (2 ^ 32)))).set 9 (u32.wrap (u64.wrap dj))) 10 ((wl.map U32.v).take i3.toNat)),b_gv1.nQ (by(simp;done)),?_⟩
   have hp:=Ch.call hp s_wv7.ch (by exact fun k e=>.inr (e▸lo_gv1))
   exact⟨congrArg (fun l=>Value.agg (aZ l)) (by have e:=i3;have e2:i3.toNat=min diN 16:=(by omega);rw [e2];refine Dg.save_eq ok (Dg.Fp hn) ?_ hwn;rw [dQ (by omega),u32_eq]),hp⟩
theorem JN {Zd:Nat→Prop} {diA:Option Addr} {diN:Nat} {diC:Nat} {wl:List U32} {Z:Nat→Prop} {wordsA:Option Addr} {wordsN:Nat} {wordsC:Nat} {l:List U32} {K:List Int} {w:World}(hd:Rd w Zd diA diN diC wl)(hz:Rd w Z wordsA wordsN wordsC l)(hk:gF w 2 K)(da:Int)(db:Int)(dc:Int)(dd:Int)(de:Int)(df:Int)(dg:Int)(dh:Int)(dj:Int)(ok:(Dg.mk (S8.mk da db dc dd de df dg dh) dj wl).Ok)(hlen:l.length≤1099511627776):
 Calls Tryz.prog 90 #[(.agg #[(.int .u32 da),(.int .u32 db),(.int .u32 dc),(.int .u32 dd),(.int .u32 de),(.int .u32 df),(.int .u32 dg),(.int .u32 dh),(.slice diA diN diC),(.int .i64 dj)]),(.slice wordsA wordsN wordsC)] w fun e w'=>∃v,e= .returned v∧∃Z':Nat→Prop,∃A':Option Addr,∃N':Nat,∃C':Nat,v= .agg #[(.int .u32 (((Dg.mk (S8.mk da db dc dd de df dg dh) dj wl).add K l).st.a)),(.int .u32 (((Dg.mk (S8.mk da db dc dd de df dg dh) dj wl).add K l).st.b)),(.int .u32 (((Dg.mk (S8.mk da db dc dd de df dg dh) dj wl).add K l).st.c)),(.int .u32 (((Dg.mk (S8.mk da db dc dd de df dg dh) dj wl).add K l).st.d)),(.int .u32 (((Dg.mk (S8.mk da db dc dd de df dg dh) dj wl).add K l).st.e)),(.int .u32 (((Dg.mk (S8.mk da db dc dd de df dg dh) dj wl).add K l).st.f)),(.int .u32 (((Dg.mk (S8.mk da db dc dd de df dg dh) dj wl).add K l).st.g)),(.int .u32 (((Dg.mk (S8.mk da db dc dd de df dg dh) dj wl).add K l).st.h)),(.slice A' N' C'),(.int .i64 (((Dg.mk (S8.mk da db dc dd de df dg dh) dj wl).add K l).n))]∧Rd w' Z' A' N' C' ((Dg.mk (S8.mk da db dc dd de df dg dh) dj wl).add K l).waits∧(∀k,Z' k→Zd k∨w.heap.size≤k)∧((l.length:Int)≤36028797018963968 - dj→Own w' Z' 22 A' N' C' ((Dg.mk (S8.mk da db dc dd de df dg dh) dj wl).add K l).waits∧∀k,Z' k→w.heap.size≤k)∧Pu w w':=by
 refine v9 _ _ _ _ _ _ _ _ _ _ _ _ _ _ _ ?_
 have hwn:=hd.len
 have hzn:=hz.len
 have hwl:wl.length=(dj % 16).toNat:=ok.len
 have hn:0≤dj∧dj≤36028797018963968:=ok.n
 have hp:=Ch.refl (fun _=>False) w
 have lt_hd:=hd.lt
 have lt_hz:=hz.lt
 have lt_hk:=hk.lt
 refine mkd fun gv wv m_gv=>?_
 have b_gv:=m_gv.blk
 have hp:=Ch.made hp m_gv
 refine mkd fun gv1 wv1 m_gv1=>?_
 have lo_gv1:=m_gv1.lo hp
 have ne_gv_gv1:=m_gv1.ne b_gv
 have b_gv1:=m_gv1.blk
 have b_gv:=Made.old m_gv1 b_gv
 refine⟨_,b_gv.at rfl,?_⟩
 refine au (fun c1=>?_) (fun c1=>?_)
 ·rw [af (by omega)]at c1
  have hr:((Dg.mk (S8.mk da db dc dd de df dg dh) dj wl).add K l)=(Dg.mk (S8.mk da db dc dd de df dg dh) dj wl):=by rw [Dg.add,if_pos (by rw [hzn];exact c1)]
  refine⟨_,_,_,_,_,_,_,_,_,_,_,_,⟨b_gv.at rfl,b_gv.at rfl,b_gv.at rfl,b_gv.at rfl,b_gv.at rfl,b_gv.at rfl,b_gv.at rfl,b_gv.at rfl,b_gv.at rfl,b_gv.at rfl⟩,bC b_gv1 rfl fun wv2 s_wv2=>?_⟩
  have b_gv1:=s_wv2.blk
  refine⟨_,_,_,_,_,_,_,_,_,_,_,_,⟨b_gv1.at rfl,b_gv1.at rfl,b_gv1.at rfl,b_gv1.at rfl,b_gv1.at rfl,b_gv1.at rfl,b_gv1.at rfl,b_gv1.at rfl,b_gv1.at rfl,b_gv1.at rfl⟩,?_⟩
  have hd:=((hd.pu m_gv.pu).pu m_gv1.pu).ch s_wv2.ch (fun k hx e=>(fun hx=>absurd (lt_hd _ hx) (Nat.not_lt.2 lo_gv1)) (e▸hx))
  have hp:=Ch.call (Ch.made hp m_gv1) s_wv2.ch (by exact fun k e=>.inr (e▸lo_gv1))
  exact⟨Zd,_,_,_,by rw [hr],by rw [hr];exact hd,fun k h=>.inl h,fun hh=>by rw [hzn]at hh;omega,hp⟩
 ·rw [af (by omega)]at c1
  refine⟨_,_,_,b_gv.at rfl,?_⟩
  have hd:=(hd.pu m_gv.pu).pu m_gv1.pu
  have hp:=Ch.made hp m_gv1
  refine nr mQ hd (by omega) (by omega) fun A_wv2 c_wv2 wv2 o_wv2 q_wv2=>?_
  have b_gv:=Pu.blk q_wv2 b_gv
  refine⟨_,_,_,_,_,_,_,_,⟨b_gv.at2 rfl,b_gv.at2 rfl,b_gv.at2 rfl,b_gv.at2 rfl,b_gv.at2 rfl,b_gv.at2 rfl,b_gv.at2 rfl,b_gv.at2 rfl⟩,⟨_,b_gv.at rfl,?_⟩⟩
  have hp:=Ch.pu hp q_wv2
  have b_gv1:=Pu.blk q_wv2 b_gv1
  refine mkd fun gv2 wv3 m_gv2=>?_
  have lo_gv2:=m_gv2.lo hp
  have ne_gv_gv2:=m_gv2.ne b_gv
  have ne_gv1_gv2:=m_gv2.ne b_gv1
  have b_gv2:=m_gv2.blk
  refine bC b_gv2 rfl fun wv4 s_wv4=>?_
  have b_gv2:=s_wv4.blk
  rintro _ rfl
  have o_wv2:=(o_wv2.pu m_gv2.pu).ch s_wv4.ch (fun k hx e=>absurd hx.2 (by have:=m_gv2.num;omega))
  have hp:=Ch.call (Ch.made hp m_gv2) s_wv4.ch (by exact fun k e=>.inr (e▸lo_gv2))
  have hd:=((hd.pu q_wv2).pu m_gv2.pu).ch s_wv4.ch (fun k hx e=>(fun hx=>absurd (lt_hd _ hx) (Nat.not_lt.2 lo_gv2)) (e▸hx))
  have hz:=((((hz.pu m_gv.pu).pu m_gv1.pu).pu q_wv2).pu m_gv2.pu).ch s_wv4.ch (fun k hx e=>(fun hx=>absurd (lt_hz _ hx) (Nat.not_lt.2 lo_gv2)) (e▸hx))
  have hk:=((((hk.pu m_gv.pu).pu m_gv1.pu).pu q_wv2).pu m_gv2.pu).ch s_wv4.ch (fun k hx e=>(fun hx=>absurd (lt_hk _ hx) (Nat.not_lt.2 lo_gv2)) (e▸hx))
  have b_gv1:=Ch.blk s_wv4.ch (Made.old m_gv2 b_gv1) (ne_gv1_gv2)
  refine⟨fun mz waitA waitN waitC i1 W=>∃wl2:List U32,∃S:S8,∃n2:Int,mz=(wordsN - i1).toNat∧(0≤i1∧i1≤wordsN)∧(bJ K (S8.mk da db dc dd de df dg dh) (wl++l.take i1.toNat)=(S,wl2))∧(wl2.length<16)∧(n2=dj+l.length)∧Own W (fun k=>w.heap.size≤k∧k≠gv1∧k≠gv2) 22 waitA waitN waitC wl2∧Ch (fun _=>False) w W∧Rd W Zd diA diN diC wl∧Rd W Z wordsA wordsN wordsC l∧gF W 2 K∧Blk W gv1 #[(.int .u32 0),(.int .u32 0),(.int .u32 0),(.int .u32 0),(.int .u32 0),(.int .u32 0),(.int .u32 0),(.int .u32 0),(.slice none 0 0),(.int .i64 0)] 130∧Blk W gv2 #[(.int .u32 S.a),(.int .u32 S.b),(.int .u32 S.c),(.int .u32 S.d),(.int .u32 S.e),(.int .u32 S.f),(.int .u32 S.g),(.int .u32 S.h),(.slice none 0 0),(.int .i64 n2)] 130,⟨_,wl,(S8.mk da db dc dd de df dg dh),_,rfl,(by omega),(by simpa using dE (by omega)),(by omega),(by rw [af (by omega)];omega),(o_wv2).to (by intro k h1 h2;have e1:=m_gv1.lt;have e2:=m_gv2.num;have e3:=m_gv.kept.size;have e4:=m_gv1.kept.size;refine⟨?_,?_,?_⟩<;>omega),hp,hd,hz,hk,b_gv1,b_gv2⟩,?_⟩
  rintro _ _ waitA waitN waitC i1 wv5 ⟨wl2,S,n2,rfl,h0,hI,hwb,hn2,h_wl2,hp,hd,hz,hk,b_gv1,b_gv2⟩
  refine au (fun c2=>?_) (fun c2=>?_)
  ·have hwn2:=h_wl2.len
   obtain⟨p3,x3,ha3,hx3,hz3,hc3⟩:=hz.ld (i:=i1) (by omega) (by omega)
   refine⟨by omega,ak p3 ha3 ⟨_,hc3 0 (by decide),?_⟩⟩
   refine mkd fun gv4 wv6 m_gv4=>?_
   have ne_gv2_gv4:=m_gv4.ne b_gv2
   have b_gv4:=m_gv4.blk
   have h_wl2:=h_wl2.pu m_gv4.pu
   have hp:=Ch.made hp m_gv4
   refine h_wl2.app mQ b_gv4 (x:=(⟨x3.v⟩:U32)) (by rfl) (by omega) (by omega) (by have h1:=b_gv1.lt;have h2:=b_gv2.lt;have h3:=m_gv4.kept.size;have h4:=hp.size;refine⟨?_,?_,?_⟩<;>omega) fun A_wv7 c_wv7 wv7 h_wl2 q_wv7=>?_
   refine aA (fun c4=>?_) (fun c4=>?_)
   ·refine⟨bXU [] [1,4] wv7.drew (fun _=>False),?_⟩
    have b_gv2:=Blk.drew (Ch.blk q_wv7 (Made.old m_gv4 b_gv2) (fun h=>h.2.2 rfl))
    have h_wl2:=h_wl2.pu (Pu.aI _)
    refine⟨.inl (by decide),_,_,_,_,_,_,_,_,⟨b_gv2.at2 rfl,b_gv2.at2 rfl,b_gv2.at2 rfl,b_gv2.at2 rfl,b_gv2.at2 rfl,b_gv2.at2 rfl,b_gv2.at2 rfl,b_gv2.at2 rfl⟩,⟨by omega,?_⟩⟩
    obtain⟨p5,ha5,hz5,hc5⟩:=h_wl2.rd.u32 (by omega)
    refine ak p5 ha5 ⟨.inl (by decide),_,_,_,_,_,_,_,_,_,_,_,_,_,_,_,_,⟨hc5 0 (by omega),hc5 1 (by omega),hc5 2 (by omega),hc5 3 (by omega),hc5 4 (by omega),hc5 5 (by omega),hc5 6 (by omega),hc5 7 (by omega),hc5 8 (by omega),hc5 9 (by omega),hc5 10 (by omega),hc5 11 (by omega),hc5 12 (by omega),hc5 13 (by omega),hc5 14 (by omega),hc5 15 (by omega)⟩,?_⟩
    have hk:=((hk.pu m_gv4.pu).ch q_wv7 (fun k hx hy=>by have h1:=lt_hk k hx;omega)).pu (Pu.aI _)
    refine Calls.mono (FH hk _ _ _ _ _ _ _ _ _ _ _ _ _ _ _ _ _ _ _ _ _ _ _ _) ?_
    rintro e wv8 ⟨_,rfl,rfl,q_wv8⟩
    refine⟨_,_,_,_,_,_,_,_,rfl,?_⟩
    refine bXU.grow q_wv8 ?_
    have b_gv2:=Pu.blk q_wv8 b_gv2
    refine aL b_gv2 (by simp) fun wv9 s_wv9=>?_
    have b_gv2:Blk wv9 gv2 #[(.int .u32 ((dw K (S8.mk S.a S.b S.c S.d S.e S.f S.g S.h) [(((wl2++ [(⟨x3.v⟩:U32)]).getD 0 ⟨0⟩).v),(((wl2++ [(⟨x3.v⟩:U32)]).getD 1 ⟨0⟩).v),(((wl2++ [(⟨x3.v⟩:U32)]).getD 2 ⟨0⟩).v),(((wl2++ [(⟨x3.v⟩:U32)]).getD 3 ⟨0⟩).v),(((wl2++ [(⟨x3.v⟩:U32)]).getD 4 ⟨0⟩).v),(((wl2++ [(⟨x3.v⟩:U32)]).getD 5 ⟨0⟩).v),(((wl2++ [(⟨x3.v⟩:U32)]).getD 6 ⟨0⟩).v),(((wl2++ [(⟨x3.v⟩:U32)]).getD 7 ⟨0⟩).v),(((wl2++ [(⟨x3.v⟩:U32)]).getD 8 ⟨0⟩).v),(((wl2++ [(⟨x3.v⟩:U32)]).getD 9 ⟨0⟩).v),(((wl2++ [(⟨x3.v⟩:U32)]).getD 10 ⟨0⟩).v),(((wl2++ [(⟨x3.v⟩:U32)]).getD 11 ⟨0⟩).v),(((wl2++ [(⟨x3.v⟩:U32)]).getD 12 ⟨0⟩).v),(((wl2++ [(⟨x3.v⟩:U32)]).getD 13 ⟨0⟩).v),(((wl2++ [(⟨x3.v⟩:U32)]).getD 14 ⟨0⟩).v),(((wl2++ [(⟨x3.v⟩:U32)]).getD 15 ⟨0⟩).v)]).a)),(.int .u32 ((dw K (S8.mk S.a S.b S.c S.d S.e S.f S.g S.h) [(((wl2++ [(⟨x3.v⟩:U32)]).getD 0 ⟨0⟩).v),(((wl2++ [(⟨x3.v⟩:U32)]).getD 1 ⟨0⟩).v),(((wl2++ [(⟨x3.v⟩:U32)]).getD 2 ⟨0⟩).v),(((wl2++ [(⟨x3.v⟩:U32)]).getD 3 ⟨0⟩).v),(((wl2++ [(⟨x3.v⟩:U32)]).getD 4 ⟨0⟩).v),(((wl2++ [(⟨x3.v⟩:U32)]).getD 5 ⟨0⟩).v),(((wl2++ [(⟨x3.v⟩:U32)]).getD 6 ⟨0⟩).v),(((wl2++ [(⟨x3.v⟩:U32)]).getD 7 ⟨0⟩).v),(((wl2++ [(⟨x3.v⟩:U32)]).getD 8 ⟨0⟩).v),(((wl2++ [(⟨x3.v⟩:U32)]).getD 9 ⟨0⟩).v),(((wl2++ [(⟨x3.v⟩:U32)]).getD 10 ⟨0⟩).v),(((wl2++ [(⟨x3.v⟩:U32)]).getD 11 ⟨0⟩).v),(((wl2++ [(⟨x3.v⟩:U32)]).getD 12 ⟨0⟩).v),(((wl2++ [(⟨x3.v⟩:U32)]).getD 13 ⟨0⟩).v),(((wl2++ [(⟨x3.v⟩:U32)]).getD 14 ⟨0⟩).v),(((wl2++ [(⟨x3.v⟩:U32)]).getD 15 ⟨0⟩).v)]).b)),(.int .u32 ((dw K (S8.mk S.a S.b S.c S.d S.e S.f S.g S.h) [(((wl2++ [(⟨x3.v⟩:U32)]).getD 0 ⟨0⟩).v),(((wl2++ [(⟨x3.v⟩:U32)]).getD 1 ⟨0⟩).v),(((wl2++ [(⟨x3.v⟩:U32)]).getD 2 ⟨0⟩).v),(((wl2++ [(⟨x3.v⟩:U32)]).getD 3 ⟨0⟩).v),(((wl2++ [(⟨x3.v⟩:U32)]).getD 4 ⟨0⟩).v),(((wl2++ [(⟨x3.v⟩:U32)]).getD 5 ⟨0⟩).v),(((wl2++ [(⟨x3.v⟩:U32)]).getD 6 ⟨0⟩).v),(((wl2++ [(⟨x3.v⟩:U32)]).getD 7 ⟨0⟩).v),(((wl2++ [(⟨x3.v⟩:U32)]).getD 8 ⟨0⟩).v),(((wl2++ [(⟨x3.v⟩:U32)]).getD 9 ⟨0⟩).v),(((wl2++ [(⟨x3.v⟩:U32)]).getD 10 ⟨0⟩).v),(((wl2++ [(⟨x3.v⟩:U32)]).getD 11 ⟨0⟩).v),(((wl2++ [(⟨x3.v⟩:U32)]).getD 12 ⟨0⟩).v),(((wl2++ [(⟨x3.v⟩:U32)]).getD 13 ⟨0⟩).v),(((wl2++ [(⟨x3.v⟩:U32)]).getD 14 ⟨0⟩).v),(((wl2++ [(⟨x3.v⟩:U32)]).getD 15 ⟨0⟩).v)]).c)),(.int .u32 ((dw K (S8.mk S.a S.b S.c S.d S.e S.f S.g S.h) [(((wl2++ [(⟨x3.v⟩:U32)]).getD 0 ⟨0⟩).v),(((wl2++ [(⟨x3.v⟩:U32)]).getD 1 ⟨0⟩).v),(((wl2++ [(⟨x3.v⟩:U32)]).getD 2 ⟨0⟩).v),(((wl2++ [(⟨x3.v⟩:U32)]).getD 3 ⟨0⟩).v),(((wl2++ [(⟨x3.v⟩:U32)]).getD 4 ⟨0⟩).v),(((wl2++ [(⟨x3.v⟩:U32)]).getD 5 ⟨0⟩).v),(((wl2++ [(⟨x3.v⟩:U32)]).getD 6 ⟨0⟩).v),(((wl2++ [(⟨x3.v⟩:U32)]).getD 7 ⟨0⟩).v),(((wl2++ [(⟨x3.v⟩:U32)]).getD 8 ⟨0⟩).v),(((wl2++ [(⟨x3.v⟩:U32)]).getD 9 ⟨0⟩).v),(((wl2++ [(⟨x3.v⟩:U32)]).getD 10 ⟨0⟩).v),(((wl2++ [(⟨x3.v⟩:U32)]).getD 11 ⟨0⟩).v),(((wl2++ [(⟨x3.v⟩:U32)]).getD 12 ⟨0⟩).v),(((wl2++ [(⟨x3.v⟩:U32)]).getD 13 ⟨0⟩).v),(((wl2++ [(⟨x3.v⟩:U32)]).getD 14 ⟨0⟩).v),(((wl2++ [(⟨x3.v⟩:U32)]).getD 15 ⟨0⟩).v)]).d)),(.int .u32 ((dw K (S8.mk S.a S.b S.c S.d S.e S.f S.g S.h) [(((wl2++ [(⟨x3.v⟩:U32)]).getD 0 ⟨0⟩).v),(((wl2++ [(⟨x3.v⟩:U32)]).getD 1 ⟨0⟩).v),(((wl2++ [(⟨x3.v⟩:U32)]).getD 2 ⟨0⟩).v),(((wl2++ [(⟨x3.v⟩:U32)]).getD 3 ⟨0⟩).v),(((wl2++ [(⟨x3.v⟩:U32)]).getD 4 ⟨0⟩).v),(((wl2++ [(⟨x3.v⟩:U32)]).getD 5 ⟨0⟩).v),(((wl2++ [(⟨x3.v⟩:U32)]).getD 6 ⟨0⟩).v),(((wl2++ [(⟨x3.v⟩:U32)]).getD 7 ⟨0⟩).v),(((wl2++ [(⟨x3.v⟩:U32)]).getD 8 ⟨0⟩).v),(((wl2++ [(⟨x3.v⟩:U32)]).getD 9 ⟨0⟩).v),(((wl2++ [(⟨x3.v⟩:U32)]).getD 10 ⟨0⟩).v),(((wl2++ [(⟨x3.v⟩:U32)]).getD 11 ⟨0⟩).v),(((wl2++ [(⟨x3.v⟩:U32)]).getD 12 ⟨0⟩).v),(((wl2++ [(⟨x3.v⟩:U32)]).getD 13 ⟨0⟩).v),(((wl2++ [(⟨x3.v⟩:U32)]).getD 14 ⟨0⟩).v),(((wl2++ [(⟨x3.v⟩:U32)]).getD 15 ⟨0⟩).v)]).e)),(.int .u32 ((dw K (S8.mk S.a S.b S.c S.d S.e S.f S.g S.h) [(((wl2++ [(⟨x3.v⟩:U32)]).getD 0 ⟨0⟩).v),(((wl2++ [(⟨x3.v⟩:U32)]).getD 1 ⟨0⟩).v),(((wl2++ [(⟨x3.v⟩:U32)]).getD 2 ⟨0⟩).v),(((wl2++ [(⟨x3.v⟩:U32)]).getD 3 ⟨0⟩).v),(((wl2++ [(⟨x3.v⟩:U32)]).getD 4 ⟨0⟩).v),(((wl2++ [(⟨x3.v⟩:U32)]).getD 5 ⟨0⟩).v),(((wl2++ [(⟨x3.v⟩:U32)]).getD 6 ⟨0⟩).v),(((wl2++ [(⟨x3.v⟩:U32)]).getD 7 ⟨0⟩).v),(((wl2++ [(⟨x3.v⟩:U32)]).getD 8 ⟨0⟩).v),(((wl2++ [(⟨x3.v⟩:U32)]).getD 9 ⟨0⟩).v),(((wl2++ [(⟨x3.v⟩:U32)]).getD 10 ⟨0⟩).v),(((wl2++ [(⟨x3.v⟩:U32)]).getD 11 ⟨0⟩).v),(((wl2++ [(⟨x3.v⟩:U32)]).getD 12 ⟨0⟩).v),(((wl2++ [(⟨x3.v⟩:U32)]).getD 13 ⟨0⟩).v),(((wl2++ [(⟨x3.v⟩:U32)]).getD 14 ⟨0⟩).v),(((wl2++ [(⟨x3.v⟩:U32)]).getD 15 ⟨0⟩).v)]).f)),(.int .u32 ((dw K (S8.mk S.a S.b S.c S.d S.e S.f S.g S.h) [(((wl2++ [(⟨x3.v⟩:U32)]).getD 0 ⟨0⟩).v),(((wl2++ [(⟨x3.v⟩:U32)]).getD 1 ⟨0⟩).v),(((wl2++ [(⟨x3.v⟩:U32)]).getD 2 ⟨0⟩).v),(((wl2++ [(⟨x3.v⟩:U32)]).getD 3 ⟨0⟩).v),(((wl2++ [(⟨x3.v⟩:U32)]).getD 4 ⟨0⟩).v),(((wl2++ [(⟨x3.v⟩:U32)]).getD 5 ⟨0⟩).v),(((wl2++ [(⟨x3.v⟩:U32)]).getD 6 ⟨0⟩).v),(((wl2++ [(⟨x3.v⟩:U32)]).getD 7 ⟨0⟩).v),(((wl2++ [(⟨x3.v⟩:U32)]).getD 8 ⟨0⟩).v),(((wl2++ [(⟨x3.v⟩:U32)]).getD 9 ⟨0⟩).v),(((wl2++ [(⟨x3.v⟩:U32)]).getD 10 ⟨0⟩).v),(((wl2++ [(⟨x3.v⟩:U32)]).getD 11 ⟨0⟩).v),(((wl2++ [(⟨x3.v⟩:U32)]).getD 12 ⟨0⟩).v),(((wl2++ [(⟨x3.v⟩:U32)]).getD 13 ⟨0⟩).v),(((wl2++ [(⟨x3.v⟩:U32)]).getD 14 ⟨0⟩).v),(((wl2++ [(⟨x3.v⟩:U32)]).getD 15 ⟨0⟩).v)]).g)),(.int .u32 ((dw K (S8.mk S.a S.b S.c S.d S.e S.f S.g S.h) [(((wl2++ [(⟨x3.v⟩:U32)]).getD 0 ⟨0⟩).v),(((wl2++ [(⟨x3.v⟩:U32)]).getD 1 ⟨0⟩).v),(((wl2++ [(⟨x3.v⟩:U32)]).getD 2 ⟨0⟩).v),(((wl2++ [(⟨x3.v⟩:U32)]).getD 3 ⟨0⟩).v),(((wl2++ [(⟨x3.v⟩:U32)]).getD 4 ⟨0⟩).v),(((wl2++ [(⟨x3.v⟩:U32)]).getD 5 ⟨0⟩).v),(((wl2++ [(⟨x3.v⟩:U32)]).getD 6 ⟨0⟩).v),(((wl2++ [(⟨x3.v⟩:U32)]).getD 7 ⟨0⟩).v),(((wl2++ [(⟨x3.v⟩:U32)]).getD 8 ⟨0⟩).v),(((wl2++ [(⟨x3.v⟩:U32)]).getD 9 ⟨0⟩).v),(((wl2++ [(⟨x3.v⟩:U32)]).getD 10 ⟨0⟩).v),(((wl2++ [(⟨x3.v⟩:U32)]).getD 11 ⟨0⟩).v),(((wl2++ [(⟨x3.v⟩:U32)]).getD 12 ⟨0⟩).v),(((wl2++ [(⟨x3.v⟩:U32)]).getD 13 ⟨0⟩).v),(((wl2++ [(⟨x3.v⟩:U32)]).getD 14 ⟨0⟩).v),(((wl2++ [(⟨x3.v⟩:U32)]).getD 15 ⟨0⟩).v)]).h)),(.slice none 0 0),(.int .i64 n2)] _:=s_wv9.blk.cast (by kernel_rfl)
    refine bXU.grow s_wv9.ch ?_
    rintro _ rfl
    have hp:=Ch.call (Ch.pu (Ch.drew (Ch.call hp q_wv7 (by intro k hk;exact .inr hk.1))) q_wv8) s_wv9.ch (by exact fun k e=>.inr (e▸lo_gv2))
    have hd:=((((hd.pu m_gv4.pu).ch q_wv7 (fun k hx hy=>by have h1:=lt_hd k hx;omega)).pu (Pu.aI _)).pu q_wv8).ch s_wv9.ch (fun k hx e=>(fun hx=>absurd (lt_hd _ hx) (Nat.not_lt.2 lo_gv2)) (e▸hx))
    have hz:=((((hz.pu m_gv4.pu).ch q_wv7 (fun k hx hy=>by have h1:=lt_hz k hx;omega)).pu (Pu.aI _)).pu q_wv8).ch s_wv9.ch (fun k hx e=>(fun hx=>absurd (lt_hz _ hx) (Nat.not_lt.2 lo_gv2)) (e▸hx))
    have hk:=(hk.pu q_wv8).ch s_wv9.ch (fun k hx e=>(fun hx=>absurd (lt_hk _ hx) (Nat.not_lt.2 lo_gv2)) (e▸hx))
    have b_gv1:=Ch.blk s_wv9.ch (Pu.blk q_wv8 (Blk.drew (Ch.blk q_wv7 (Made.old m_gv4 b_gv1) (fun h=>h.2.1 rfl)))) (ne_gv1_gv2)
    exact⟨_,by rw [IntKind.wrap_i64];omega,([]),(dw K S ((wl2++ [x3]).map U32.v)),n2,rfl,by rw [IntKind.wrap_i64];omega,by rw [pf hI (by omega) hx3,if_pos (by omega)],by simp,hn2,Own.nil,hp,hd,hz,hk,b_gv1,b_gv2.cast (kP (congrArg (Value.int .u32) (by rw [o8 (by simp;omega)])) (congrArg (Value.int .u32) (by rw [o8 (by simp;omega)])) (congrArg (Value.int .u32) (by rw [o8 (by simp;omega)])) (congrArg (Value.int .u32) (by rw [o8 (by simp;omega)])) (congrArg (Value.int .u32) (by rw [o8 (by simp;omega)])) (congrArg (Value.int .u32) (by rw [o8 (by simp;omega)])) (congrArg (Value.int .u32) (by rw [o8 (by simp;omega)])) (congrArg (Value.int .u32) (by rw [o8 (by simp;omega)])) (rfl) (rfl))⟩
   ·rintro _ rfl
    have hp:=Ch.call hp q_wv7 (by intro k hk;exact .inr hk.1)
    have hd:=(hd.pu m_gv4.pu).ch q_wv7 (fun k hx hy=>by have h1:=lt_hd k hx;omega)
    have hz:=(hz.pu m_gv4.pu).ch q_wv7 (fun k hx hy=>by have h1:=lt_hz k hx;omega)
    have hk:=(hk.pu m_gv4.pu).ch q_wv7 (fun k hx hy=>by have h1:=lt_hk k hx;omega)
    have b_gv1:=Ch.blk q_wv7 (Made.old m_gv4 b_gv1) (fun h=>h.2.1 rfl)
    have b_gv2:=Ch.blk q_wv7 (Made.old m_gv4 b_gv2) (fun h=>h.2.2 rfl)
    exact⟨_,by rw [IntKind.wrap_i64];omega,(wl2++ [(⟨x3.v⟩:U32)]),S,n2,rfl,by rw [IntKind.wrap_i64];omega,by rw [pf hI (by omega) hx3,if_neg (by omega)],by simp;omega,hn2,h_wl2,hp,hd,hz,hk,b_gv1,b_gv2⟩
  ·have hi:i1.toNat=l.length:=by omega
   have hr:((Dg.mk (S8.mk da db dc dd de df dg dh) dj wl).add K l)=⟨S,n2,wl2⟩:=by rw [hi,List.take_of_length_le (Nat.le_refl _)]at hI;rw [Dg.add,if_neg (by rw [hzn];exact c1),hI,hn2]
   have hlt:=h_wl2.len
   refine aL b_gv2 (by simp) fun wv6 s_wv6=>?_
   have b_gv2:Blk wv6 gv2 #[(.int .u32 S.a),(.int .u32 S.b),(.int .u32 S.c),(.int .u32 S.d),(.int .u32 S.e),(.int .u32 S.f),(.int .u32 S.g),(.int .u32 S.h),(.slice waitA waitN waitC),(.int .i64 n2)] _:=s_wv6.blk.cast (by kernel_rfl)
   have b_gv1:=Ch.blk s_wv6.ch b_gv1 (ne_gv1_gv2)
   refine⟨_,_,_,_,_,_,_,_,_,_,_,_,⟨b_gv2.at rfl,b_gv2.at rfl,b_gv2.at rfl,b_gv2.at rfl,b_gv2.at rfl,b_gv2.at rfl,b_gv2.at rfl,b_gv2.at rfl,b_gv2.at rfl,b_gv2.at rfl⟩,bC b_gv1 rfl fun wv7 s_wv7=>?_⟩
   have b_gv1:=s_wv7.blk
   refine⟨_,_,_,_,_,_,_,_,_,_,_,_,⟨b_gv1.at rfl,b_gv1.at rfl,b_gv1.at rfl,b_gv1.at rfl,b_gv1.at rfl,b_gv1.at rfl,b_gv1.at rfl,b_gv1.at rfl,b_gv1.at rfl,b_gv1.at rfl⟩,?_⟩
   have h_wl2:=(h_wl2.ch s_wv6.ch (fun k hx e=>hx.2.2 e)).ch s_wv7.ch (fun k hx e=>hx.2.1 e)
   have hp:=Ch.call (Ch.call hp s_wv6.ch (by exact fun k e=>.inr (e▸lo_gv2))) s_wv7.ch (by exact fun k e=>.inr (e▸lo_gv1))
   exact⟨_,_,_,_,by rw [hr],by rw [hr];exact(h_wl2).rd,by intro k h;exact .inr h.1.1,fun _=>⟨by rw [hr];exact(h_wl2).within,by intro k h;exact h.1.1⟩,hp⟩
theorem KJ {Z:Nat→Prop} {wordsA:Option Addr} {wordsN:Nat} {wordsC:Nat} {l:List U32} {w:World}(hz:Rd w Z wordsA wordsN wordsC l)(hw:∀x∈l,0≤x.v∧x.v<4294967296):
 Calls Tryz.prog 103 #[(.slice wordsA wordsN wordsC)] w fun e w'=>∃v,e= .returned v∧∃p:Option Addr,v= .tuple #[(.pointer p),(.int .i64 (Dg.aE l))]∧(Dg.aE l=0→∃g L,p=some (Addr.mk g 0 none)∧nG w' g L (Dg.load l)∧∀k,L.X g k→w.heap.size≤k)∧Pu w w':=by
 refine yO _ _ _ ?_
 have hl:=hz.len
 have hcap:=hz.cap
 have hp:=Ch.refl (fun _=>False) w
 have lt_hz:=hz.lt
 refine bh (fun c1=>?_) (fun c1=>?_)
 ·exact⟨none,congrArg Value.tuple (kO (rfl) (congrArg (Value.int .i64) (by rw [Dg.jX (by omega)]))),fun h=>absurd h (by rw [Dg.jX (by omega)];omega),hp⟩
 ·have hl26:l.length=26:=by omega
  have hnO:=Dg.nOf_eq hw hl26
  refine⟨by omega,?_⟩
  obtain⟨p2,ha2,hz2,hc2⟩:=hz.u32 (by omega)
  refine ak p2 ha2 ?_
  have hz:=hz.pu (Pu.aI _)
  refine⟨_,hc2 8 (by omega),⟨by omega,?_⟩⟩
  obtain⟨p3,ha3,hz3,hc3⟩:=hz.u32 (by omega)
  refine ak p3 ha3 ⟨_,hc3 9 (by omega),?_⟩
  rintro n e_n
  obtain rfl:n=Dg.nOf l:=e_n.trans (by exact hnO.1)
  refine⟨by omega,⟨by omega,?_⟩⟩
  rintro x23A e_x23A x23N e_x23N x23C e_x23C
  have r_x23A:=Rd.cut (lo:=0) (hi:=(Int.toNat 8)) hz e_x23A e_x23N e_x23C (by omega) (by omega) (by omega)
  refine⟨by omega,?_⟩
  obtain⟨p4,ha4,hz4,hc4⟩:=r_x23A.u32 (by omega)
  refine ak p4 ha4 ⟨_,_,_,_,_,_,_,_,⟨hc4 0 (by omega),hc4 1 (by omega),hc4 2 (by omega),hc4 3 (by omega),hc4 4 (by omega),hc4 5 (by omega),hc4 6 (by omega),hc4 7 (by omega)⟩,?_⟩
  have hp:=Ch.drew hp
  refine mkd fun gv wv m_gv=>?_
  have lo_gv:=m_gv.lo hp
  have b_gv:=m_gv.blk
  refine⟨_,?_,fun _ x43 wv1 h=>h⟩
  refine⟨bXU [9] [] wv.drew (fun _=>False),?_⟩
  refine au (fun c5=>?_) (fun c5=>?_)
  ·refine aV ?_
   have hp:=Ch.drew (Ch.made hp m_gv)
   exact⟨none,congrArg Value.tuple (kO (rfl) (congrArg (Value.int .i64) (by rw [Dg.ew hl26 (.inl c5)]))),fun h=>absurd h (by rw [Dg.ew hl26 (.inl c5)];omega),hp⟩
  ·refine au (fun c6=>?_) (fun c6=>?_)
   ·have b_gv:=Blk.drew b_gv
    refine⟨.inr ⟨by decide,bX.ld b_gv (fun h=>h) _⟩,_,_,_,_,_,_,_,_,⟨b_gv.at2 rfl,b_gv.at2 rfl,b_gv.at2 rfl,b_gv.at2 rfl,b_gv.at2 rfl,b_gv.at2 rfl,b_gv.at2 rfl,b_gv.at2 rfl⟩,?_⟩
    refine Calls.mono (Fz) ?_
    rintro e wv1 ⟨_,rfl,rfl,q_wv1⟩
    refine⟨_,_,_,_,_,_,_,_,rfl,?_⟩
    refine bXU.cw q_wv1 (by decide) ?_
    refine aQ (fun c7=>?_) (fun c7=>?_)
    ·have hst:Dg.jb l≠S8.first:=by intro h;simp [Dg.jb,S8.first]at h;simp [bd,eqL,km,S8.first,h]at c7
     have hp:=Ch.pu (Ch.drew (Ch.made hp m_gv)) q_wv1
     exact⟨none,congrArg Value.tuple (kO (rfl) (congrArg (Value.int .i64) (by rw [Dg.ew hl26 (.inr ⟨c6,hst⟩)]))),fun h=>absurd h (by rw [Dg.ew hl26 (.inr ⟨c6,hst⟩)];omega),hp⟩
    ·have hst:Dg.jb l=S8.first:=by simp [bd,eqL,km,S8.first]at c7;simp [Dg.jb,S8.first,c7]
     have hg:¬(Dg.nOf l>36028797018963968∨(Dg.nOf l<16∧Dg.jb l≠S8.first)):=by rintro(h | h);exact c5 h;exact h.2 hst
     rintro waits e_waits
     obtain rfl:waits=Dg.nOf l % 16:=e_waits.trans (by rw [Int.tmod_eq_emod_of_nonneg hnO.2.1,af (by omega)])
     refine⟨by(simp only [IntKind.wrap_i64];omega),?_⟩
     have hz:=((hz.pu m_gv.pu).pu (Pu.aI _)).pu q_wv1
     rintro x50A e_x50A x50N e_x50N x50C e_x50C
     have r_x50A:=Rd.from_ (lo:=(Int.toNat (i64.wrap (10+(Dg.nOf l % 16))))) hz e_x50A e_x50N e_x50C (by(rw [Dg.lo_eq];omega)) (by have:=hz.cap;omega)
     have hp:=Ch.pu (Ch.drew (Ch.made hp m_gv)) q_wv1
     have b_gv:=Pu.blk q_wv1 b_gv
     refine⟨fun mz x52 W=>mz=(x50N - x52).toNat∧(0≤x52∧x52≤x50N)∧(∀(i:Nat)(x:U32),i<x52.toNat→(l.drop (10+(Dg.nOf l % 16).toNat))[i]? =some x→x.v=0)∧Ch (fun _=>False) w W∧Rd W Z wordsA wordsN wordsC l∧Blk W gv #[(.int .u32 ((((l.drop 0).take ((Int.toNat 8) - 0)).getD 0 ⟨0⟩).v)),(.int .u32 ((((l.drop 0).take ((Int.toNat 8) - 0)).getD 1 ⟨0⟩).v)),(.int .u32 ((((l.drop 0).take ((Int.toNat 8) - 0)).getD 2 ⟨0⟩).v)),(.int .u32 ((((l.drop 0).take ((Int.toNat 8) - 0)).getD 3 ⟨0⟩).v)),(.int .u32 ((((l.drop 0).take ((Int.toNat 8) - 0)).getD 4 ⟨0⟩).v)),(.int .u32 ((((l.drop 0).take ((Int.toNat 8) - 0)).getD 5 ⟨0⟩).v)),(.int .u32 ((((l.drop 0).take ((Int.toNat 8) - 0)).getD 6 ⟨0⟩).v)),(.int .u32 ((((l.drop 0).take ((Int.toNat 8) - 0)).getD 7 ⟨0⟩).v)),(.int .i64 (i64.wrap (Dg.nOf l))),(.slice none 0 0)] 178∧Rd W Z x50A x50N x50C (l.drop (Int.toNat (i64.wrap (10+(Dg.nOf l % 16))))),⟨_,rfl,(by omega),(by intro i x h;omega),hp,hz,b_gv,r_x50A⟩,?_⟩
     rintro _ _ x52 wv2 ⟨rfl,h0,hq,hp,hz,b_gv,r_x50A⟩
     refine au (fun c8=>?_) (fun c8=>?_)
     ·obtain⟨p9,x9,ha9,hx9,hz9,hc9⟩:=r_x50A.ld (i:=x52) (by omega) (by omega)
      refine⟨by constructor<;>omega,ak p9 ha9 ⟨_,hc9 0 (by decide),?_⟩⟩
      refine bh (fun c10=>?_) (fun c10=>?_)
      ·exact⟨none,congrArg Value.tuple (kO (rfl) (congrArg (Value.int .i64) (by rw [Dg.lo_eq]at hx9;rw [Dg.cx hl26 hg hx9 c10]))),fun h=>absurd h (by rw [Dg.cx hl26 hg (Dg.lo_eq▸hx9) c10];omega),hp⟩
      ·exact⟨_,by rw [IntKind.wrap_i64];omega,rfl,by rw [IntKind.wrap_i64];omega,by rw [af (by omega)];intro i x hi hx;by_cases he:i=x52.toNat;(subst he;(rw [Dg.lo_eq]at hx9;rw [hx]at hx9;injection hx9 with e;rw [e];simpa using c10));exact hq i x (by omega) hx,hp,hz,b_gv,r_x50A⟩
     ·have hz9:=hp
      have hgw:gv<wv2.heap.size:=b_gv.lt
      refine⟨by(simp only [IntKind.wrap_i64];omega),⟨by(simp only [IntKind.wrap_i64];omega),⟨by(simp only [IntKind.wrap_i64];omega),?_⟩⟩⟩
      rintro x65A e_x65A x65N e_x65N x65C e_x65C
      have r_x65A:=Rd.cut (lo:=10) (hi:=(Int.toNat (i64.wrap (10+(Dg.nOf l % 16))))) hz e_x65A e_x65N e_x65C (by(rw [Dg.lo_eq];omega)) (by(rw [Dg.lo_eq];omega)) (by omega)
      refine nr mQ r_x65A (by have:= @Dg.lo_eq l;omega) (by have:= @Dg.lo_eq l;omega) fun A_wv3 c_wv3 wv3 o_wv3 q_wv3=>?_
      have b_gv:=Pu.blk q_wv3 b_gv
      refine aL b_gv (by simp) fun wv4 s_wv4=>?_
      have b_gv:Blk wv4 gv #[(.int .u32 ((((l.drop 0).take ((Int.toNat 8) - 0)).getD 0 ⟨0⟩).v)),(.int .u32 ((((l.drop 0).take ((Int.toNat 8) - 0)).getD 1 ⟨0⟩).v)),(.int .u32 ((((l.drop 0).take ((Int.toNat 8) - 0)).getD 2 ⟨0⟩).v)),(.int .u32 ((((l.drop 0).take ((Int.toNat 8) - 0)).getD 3 ⟨0⟩).v)),(.int .u32 ((((l.drop 0).take ((Int.toNat 8) - 0)).getD 4 ⟨0⟩).v)),(.int .u32 ((((l.drop 0).take ((Int.toNat 8) - 0)).getD 5 ⟨0⟩).v)),(.int .u32 ((((l.drop 0).take ((Int.toNat 8) - 0)).getD 6 ⟨0⟩).v)),(.int .u32 ((((l.drop 0).take ((Int.toNat 8) - 0)).getD 7 ⟨0⟩).v)),(.int .i64 (i64.wrap (Dg.nOf l))),(.slice A_wv3 x65N c_wv3)] _:=s_wv4.blk.cast (by kernel_rfl)
      have o_wv3:=o_wv3.ch s_wv4.ch (fun k hx e=>absurd hx.1 (by omega))
      have hp:=Ch.call (Ch.pu hp q_wv3) s_wv4.ch (by exact fun k e=>.inr (e▸lo_gv))
      exact⟨_,congrArg Value.tuple (kO (rfl) (congrArg (Value.int .i64) (by rw [(Dg.jW hl26 hg (fun i x hx=>hq i x (by have:=(List.getElem?_eq_some_iff.1 hx).1;rw [List.length_drop]at this;have:= @Dg.lo_eq l;omega) hx))]))),fun _=>⟨gv,⟨fun k=>(wv2.heap.size≤k∧k<wv3.heap.size)∧k<wv4.heap.size,A_wv3,x65N,c_wv3⟩,rfl,⟨⟨_,Blk.cast b_gv (by simp [Dg.load,Dg.jb];have:=hnO.2;exact(af (x:=Dg.nOf l) (by omega)).symm)⟩,by have h9:=(o_wv3).rd;have h8:= @Dg.lo_eq l;have e:Dg.load l=⟨Dg.jb l,Dg.nOf l,(l.drop 10).take (Int.toNat (i64.wrap (10+Dg.nOf l % 16)) - 10)⟩:=(by rw [h8,Nat.add_sub_cancel_left];rfl);rw [e];exact h9,by intro h;exact absurd h.1.1 (by have:=m_gv.num;have:=hz9.size;omega)⟩,fun k hk=>hk.elim (fun e=>by rw [e];exact lo_gv) (fun h=>by have:=hz9.size;have:=h.1.1;omega)⟩,hp⟩
   ·have hg:¬(Dg.nOf l>36028797018963968∨(Dg.nOf l<16∧Dg.jb l≠S8.first)):=by rintro(h | h);exact c5 h;exact c6 h.1
    refine dS ?_
    rintro waits e_waits
    obtain rfl:waits=Dg.nOf l % 16:=e_waits.trans (by rw [Int.tmod_eq_emod_of_nonneg hnO.2.1,af (by omega)])
    refine⟨by(simp only [IntKind.wrap_i64];omega),?_⟩
    have hz:=(hz.pu m_gv.pu).pu (Pu.aI _)
    rintro x50A e_x50A x50N e_x50N x50C e_x50C
    have r_x50A:=Rd.from_ (lo:=(Int.toNat (i64.wrap (10+(Dg.nOf l % 16))))) hz e_x50A e_x50N e_x50C (by(rw [Dg.lo_eq];omega)) (by have:=hz.cap;omega)
    have hp:=Ch.drew (Ch.made hp m_gv)
    have b_gv:=Blk.drew b_gv
    refine⟨fun mz x52 W=>mz=(x50N - x52).toNat∧(0≤x52∧x52≤x50N)∧(∀(i:Nat)(x:U32),i<x52.toNat→(l.drop (10+(Dg.nOf l % 16).toNat))[i]? =some x→x.v=0)∧Ch (fun _=>False) w W∧Rd W Z wordsA wordsN wordsC l∧Blk W gv #[(.int .u32 ((((l.drop 0).take ((Int.toNat 8) - 0)).getD 0 ⟨0⟩).v)),(.int .u32 ((((l.drop 0).take ((Int.toNat 8) - 0)).getD 1 ⟨0⟩).v)),(.int .u32 ((((l.drop 0).take ((Int.toNat 8) - 0)).getD 2 ⟨0⟩).v)),(.int .u32 ((((l.drop 0).take ((Int.toNat 8) - 0)).getD 3 ⟨0⟩).v)),(.int .u32 ((((l.drop 0).take ((Int.toNat 8) - 0)).getD 4 ⟨0⟩).v)),(.int .u32 ((((l.drop 0).take ((Int.toNat 8) - 0)).getD 5 ⟨0⟩).v)),(.int .u32 ((((l.drop 0).take ((Int.toNat 8) - 0)).getD 6 ⟨0⟩).v)),(.int .u32 ((((l.drop 0).take ((Int.toNat 8) - 0)).getD 7 ⟨0⟩).v)),(.int .i64 (i64.wrap (Dg.nOf l))),(.slice none 0 0)] 178∧Rd W Z x50A x50N x50C (l.drop (Int.toNat (i64.wrap (10+(Dg.nOf l % 16))))),⟨_,rfl,(by omega),(by intro i x h;omega),hp,hz,b_gv,r_x50A⟩,?_⟩
    rintro _ _ x52 wv2 ⟨rfl,h0,hq,hp,hz,b_gv,r_x50A⟩
    refine au (fun c11=>?_) (fun c11=>?_)
    ·obtain⟨p12,x12,ha12,hx12,hz12,hc12⟩:=r_x50A.ld (i:=x52) (by omega) (by omega)
     refine⟨by constructor<;>omega,ak p12 ha12 ⟨_,hc12 0 (by decide),?_⟩⟩
     refine bh (fun c13=>?_) (fun c13=>?_)
     ·exact⟨none,congrArg Value.tuple (kO (rfl) (congrArg (Value.int .i64) (by rw [Dg.lo_eq]at hx12;rw [Dg.cx hl26 hg hx12 c13]))),fun h=>absurd h (by rw [Dg.cx hl26 hg (Dg.lo_eq▸hx12) c13];omega),hp⟩
     ·exact⟨_,by rw [IntKind.wrap_i64];omega,rfl,by rw [IntKind.wrap_i64];omega,by rw [af (by omega)];intro i x hi hx;by_cases he:i=x52.toNat;(subst he;(rw [Dg.lo_eq]at hx12;rw [hx]at hx12;injection hx12 with e;rw [e];simpa using c13));exact hq i x (by omega) hx,hp,hz,b_gv,r_x50A⟩
    ·have hz9:=hp
     have hgw:gv<wv2.heap.size:=b_gv.lt
     refine⟨by(simp only [IntKind.wrap_i64];omega),⟨by(simp only [IntKind.wrap_i64];omega),⟨by(simp only [IntKind.wrap_i64];omega),?_⟩⟩⟩
     rintro x65A e_x65A x65N e_x65N x65C e_x65C
     have r_x65A:=Rd.cut (lo:=10) (hi:=(Int.toNat (i64.wrap (10+(Dg.nOf l % 16))))) hz e_x65A e_x65N e_x65C (by(rw [Dg.lo_eq];omega)) (by(rw [Dg.lo_eq];omega)) (by omega)
     refine nr mQ r_x65A (by have:= @Dg.lo_eq l;omega) (by have:= @Dg.lo_eq l;omega) fun A_wv3 c_wv3 wv3 o_wv3 q_wv3=>?_
     have b_gv:=Pu.blk q_wv3 b_gv
     refine aL b_gv (by simp) fun wv4 s_wv4=>?_
     have b_gv:Blk wv4 gv #[(.int .u32 ((((l.drop 0).take ((Int.toNat 8) - 0)).getD 0 ⟨0⟩).v)),(.int .u32 ((((l.drop 0).take ((Int.toNat 8) - 0)).getD 1 ⟨0⟩).v)),(.int .u32 ((((l.drop 0).take ((Int.toNat 8) - 0)).getD 2 ⟨0⟩).v)),(.int .u32 ((((l.drop 0).take ((Int.toNat 8) - 0)).getD 3 ⟨0⟩).v)),(.int .u32 ((((l.drop 0).take ((Int.toNat 8) - 0)).getD 4 ⟨0⟩).v)),(.int .u32 ((((l.drop 0).take ((Int.toNat 8) - 0)).getD 5 ⟨0⟩).v)),(.int .u32 ((((l.drop 0).take ((Int.toNat 8) - 0)).getD 6 ⟨0⟩).v)),(.int .u32 ((((l.drop 0).take ((Int.toNat 8) - 0)).getD 7 ⟨0⟩).v)),(.int .i64 (i64.wrap (Dg.nOf l))),(.slice A_wv3 x65N c_wv3)] _:=s_wv4.blk.cast (by kernel_rfl)
     have o_wv3:=o_wv3.ch s_wv4.ch (fun k hx e=>absurd hx.1 (by omega))
     have hp:=Ch.call (Ch.pu hp q_wv3) s_wv4.ch (by exact fun k e=>.inr (e▸lo_gv))
     exact⟨_,congrArg Value.tuple (kO (rfl) (congrArg (Value.int .i64) (by rw [(Dg.jW hl26 hg (fun i x hx=>hq i x (by have:=(List.getElem?_eq_some_iff.1 hx).1;rw [List.length_drop]at this;have:= @Dg.lo_eq l;omega) hx))]))),fun _=>⟨gv,⟨fun k=>(wv2.heap.size≤k∧k<wv3.heap.size)∧k<wv4.heap.size,A_wv3,x65N,c_wv3⟩,rfl,⟨⟨_,Blk.cast b_gv (by simp [Dg.load,Dg.jb];have:=hnO.2;exact(af (x:=Dg.nOf l) (by omega)).symm)⟩,by have h9:=(o_wv3).rd;have h8:= @Dg.lo_eq l;have e:Dg.load l=⟨Dg.jb l,Dg.nOf l,(l.drop 10).take (Int.toNat (i64.wrap (10+Dg.nOf l % 16)) - 10)⟩:=(by rw [h8,Nat.add_sub_cancel_left];rfl);rw [e];exact h9,by intro h;exact absurd h.1.1 (by have:=m_gv.num;have:=hz9.size;omega)⟩,fun k hk=>hk.elim (fun e=>by rw [e];exact lo_gv) (fun h=>by have:=hz9.size;have:=h.1.1;omega)⟩,hp⟩
theorem HR {Z:Nat→Prop} {wordsA:Option Addr} {wordsN:Nat} {wordsC:Nat} {l:List U32} {w:World}(hz:Rd w Z wordsA wordsN wordsC l)(hw:∀x∈l,0≤x.v∧x.v<4294967296):
 Calls Tryz.prog 144 #[(.slice wordsA wordsN wordsC)] w fun e w'=>∃v,e= .returned v∧∃Z':Nat→Prop,∃A':Option Addr,∃N':Nat,∃C':Nat,v= .tuple #[(.agg #[(.int .u32 ((Dg.dz l).st.a)),(.int .u32 ((Dg.dz l).st.b)),(.int .u32 ((Dg.dz l).st.c)),(.int .u32 ((Dg.dz l).st.d)),(.int .u32 ((Dg.dz l).st.e)),(.int .u32 ((Dg.dz l).st.f)),(.int .u32 ((Dg.dz l).st.g)),(.int .u32 ((Dg.dz l).st.h)),(.slice A' N' C'),(.int .i64 ((Dg.dz l).n))]),(.int .i64 (Dg.aE l))]∧Rd w' Z' A' N' C' (Dg.dz l).waits∧(∀k,Z' k→w.heap.size≤k)∧Pu w w':=by
 refine tn _ _ _ ?_
 have hl:=hz.len
 have hp:=Ch.refl (fun _=>False) w
 have lt_hz:=hz.lt
 refine mkd fun gv wv m_gv=>?_
 have lo_gv:=m_gv.lo hp
 have b_gv:=m_gv.blk
 refine bh (fun c1=>?_) (fun c1=>?_)
 ·have hE:=Dg.jX (l:=l) (by omega)
  refine bC b_gv rfl fun wv1 s_wv1=>?_
  have b_gv:=s_wv1.blk
  refine⟨_,_,_,_,_,_,_,_,_,_,_,_,⟨b_gv.at rfl,b_gv.at rfl,b_gv.at rfl,b_gv.at rfl,b_gv.at rfl,b_gv.at rfl,b_gv.at rfl,b_gv.at rfl,b_gv.at rfl,b_gv.at rfl⟩,?_⟩
  have hp:=Ch.call (Ch.made hp m_gv) s_wv1.ch (by exact fun k e=>.inr (e▸lo_gv))
  exact⟨fun _=>False,none,0,0,congrArg Value.tuple (kO (congrArg Value.agg (kP (congrArg (Value.int .u32) (by(rw [Dg.aD hE];rfl))) (congrArg (Value.int .u32) (by(rw [Dg.aD hE];rfl))) (congrArg (Value.int .u32) (by(rw [Dg.aD hE];rfl))) (congrArg (Value.int .u32) (by(rw [Dg.aD hE];rfl))) (congrArg (Value.int .u32) (by(rw [Dg.aD hE];rfl))) (congrArg (Value.int .u32) (by(rw [Dg.aD hE];rfl))) (congrArg (Value.int .u32) (by(rw [Dg.aD hE];rfl))) (congrArg (Value.int .u32) (by(rw [Dg.aD hE];rfl))) (by rfl) (congrArg (Value.int .i64) (by(rw [Dg.aD hE];rfl))))) (congrArg (Value.int .i64) (by exact hE.symm))),by rw [Dg.aD hE];exact Rd.nil,fun k h=>h.elim,hp⟩
 ·have hl26:l.length=26:=by omega
  have hnO:=(Dg.nOf_eq hw hl26).2
  have hp:=Ch.made hp m_gv
  refine mkd fun gv1 wv1 m_gv1=>?_
  have lo_gv1:=m_gv1.lo hp
  have ne_gv_gv1:=m_gv1.ne b_gv
  have b_gv1:=m_gv1.blk
  rintro _ rfl
  have hp:=Ch.made hp m_gv1
  have hz:=(hz.pu m_gv.pu).pu m_gv1.pu
  have b_gv:=Made.old m_gv1 b_gv
  refine⟨fun mz i1 W=>Ch (fun _=>False) w W∧Rd W Z wordsA wordsN wordsC l∧(∃T,Blk W gv #[(.int .u32 0),(.int .u32 0),(.int .u32 0),(.int .u32 0),(.int .u32 0),(.int .u32 0),(.int .u32 0),(.int .u32 0),(.slice none 0 0),(.int .i64 0)] T)∧((mz=8∧i1=0∧(∃T,Blk W gv1 #[(.int .u32 0),(.int .u32 0),(.int .u32 0),(.int .u32 0),(.int .u32 0),(.int .u32 0),(.int .u32 0),(.int .u32 0),(.slice none 0 0),(.int .i64 0)] T))∨(mz=7∧i1=1∧(∃T,Blk W gv1 #[(.int .u32 ((l.getD 0 ⟨0⟩).v)),(.int .u32 0),(.int .u32 0),(.int .u32 0),(.int .u32 0),(.int .u32 0),(.int .u32 0),(.int .u32 0),(.slice none 0 0),(.int .i64 0)] T))∨(mz=6∧i1=2∧(∃T,Blk W gv1 #[(.int .u32 ((l.getD 0 ⟨0⟩).v)),(.int .u32 ((l.getD 1 ⟨0⟩).v)),(.int .u32 0),(.int .u32 0),(.int .u32 0),(.int .u32 0),(.int .u32 0),(.int .u32 0),(.slice none 0 0),(.int .i64 0)] T))∨(mz=5∧i1=3∧(∃T,Blk W gv1 #[(.int .u32 ((l.getD 0 ⟨0⟩).v)),(.int .u32 ((l.getD 1 ⟨0⟩).v)),(.int .u32 ((l.getD 2 ⟨0⟩).v)),(.int .u32 0),(.int .u32 0),(.int .u32 0),(.int .u32 0),(.int .u32 0),(.slice none 0 0),(.int .i64 0)] T))∨(mz=4∧i1=4∧(∃T,Blk W gv1 #[(.int .u32 ((l.getD 0 ⟨0⟩).v)),(.int .u32 ((l.getD 1 ⟨0⟩).v)),(.int .u32 ((l.getD 2 ⟨0⟩).v)),(.int .u32 ((l.getD 3 ⟨0⟩).v)),(.int .u32 0),(.int .u32 0),(.int .u32 0),(.int .u32 0),(.slice none 0 0),(.int .i64 0)] T))∨(mz=3∧i1=5∧(∃T,Blk W gv1 #[(.int .u32 ((l.getD 0 ⟨0⟩).v)),(.int .u32 ((l.getD 1 ⟨0⟩).v)),(.int .u32 ((l.getD 2 ⟨0⟩).v)),(.int .u32 ((l.getD 3 ⟨0⟩).v)),(.int .u32 ((l.getD 4 ⟨0⟩).v)),(.int .u32 0),(.int .u32 0),(.int .u32 0),(.slice none 0 0),(.int .i64 0)] T))∨(mz=2∧i1=6∧(∃T,Blk W gv1 #[(.int .u32 ((l.getD 0 ⟨0⟩).v)),(.int .u32 ((l.getD 1 ⟨0⟩).v)),(.int .u32 ((l.getD 2 ⟨0⟩).v)),(.int .u32 ((l.getD 3 ⟨0⟩).v)),(.int .u32 ((l.getD 4 ⟨0⟩).v)),(.int .u32 ((l.getD 5 ⟨0⟩).v)),(.int .u32 0),(.int .u32 0),(.slice none 0 0),(.int .i64 0)] T))∨(mz=1∧i1=7∧(∃T,Blk W gv1 #[(.int .u32 ((l.getD 0 ⟨0⟩).v)),(.int .u32 ((l.getD 1 ⟨0⟩).v)),(.int .u32 ((l.getD 2 ⟨0⟩).v)),(.int .u32 ((l.getD 3 ⟨0⟩).v)),(.int .u32 ((l.getD 4 ⟨0⟩).v)),(.int .u32 ((l.getD 5 ⟨0⟩).v)),(.int .u32 ((l.getD 6 ⟨0⟩).v)),(.int .u32 0),(.slice none 0 0),(.int .i64 0)] T))∨(mz=0∧i1=8∧(∃T,Blk W gv1 #[(.int .u32 ((l.getD 0 ⟨0⟩).v)),(.int .u32 ((l.getD 1 ⟨0⟩).v)),(.int .u32 ((l.getD 2 ⟨0⟩).v)),(.int .u32 ((l.getD 3 ⟨0⟩).v)),(.int .u32 ((l.getD 4 ⟨0⟩).v)),(.int .u32 ((l.getD 5 ⟨0⟩).v)),(.int .u32 ((l.getD 6 ⟨0⟩).v)),(.int .u32 ((l.getD 7 ⟨0⟩).v)),(.slice none 0 0),(.int .i64 0)] T))),⟨_,hp,hz,⟨_,b_gv⟩,.inl ⟨rfl,rfl,⟨_,b_gv1⟩⟩⟩,?_⟩
  rintro _ _ i1 wv2 ⟨hp,hz,⟨_,b_gv⟩,hU⟩
  rcases hU with⟨rfl,rfl,⟨_,b_gv1⟩⟩ | ⟨rfl,rfl,⟨_,b_gv1⟩⟩ | ⟨rfl,rfl,⟨_,b_gv1⟩⟩ | ⟨rfl,rfl,⟨_,b_gv1⟩⟩ | ⟨rfl,rfl,⟨_,b_gv1⟩⟩ | ⟨rfl,rfl,⟨_,b_gv1⟩⟩ | ⟨rfl,rfl,⟨_,b_gv1⟩⟩ | ⟨rfl,rfl,⟨_,b_gv1⟩⟩ | ⟨rfl,rfl,⟨_,b_gv1⟩⟩
  ·refine aV ⟨by omega,?_⟩
   obtain⟨p2,ha2,hz2,hc2⟩:=hz.u32 (by omega)
   refine ak p2 ha2 ⟨_,hc2 0 (by omega),⟨by decide,eV b_gv1 (by simp) fun wv3 s_wv3=>?_⟩⟩
   have b_gv1:Blk wv3 gv1 #[(.int .u32 ((l.getD 0 ⟨0⟩).v)),(.int .u32 0),(.int .u32 0),(.int .u32 0),(.int .u32 0),(.int .u32 0),(.int .u32 0),(.int .u32 0),(.slice none 0 0),(.int .i64 0)] _:=s_wv3.blk.cast (by kernel_rfl)
   rintro _ rfl
   have hp:=Ch.call hp s_wv3.ch (by exact fun k e=>.inr (e▸lo_gv1))
   have hz:=hz.ch s_wv3.ch (fun k hx e=>(fun hx=>absurd (lt_hz _ hx) (Nat.not_lt.2 lo_gv1)) (e▸hx))
   have b_gv:=Ch.blk s_wv3.ch b_gv (ne_gv_gv1)
   exact⟨7,by decide,hp,hz,⟨_,b_gv⟩,.inr (.inl ⟨rfl,rfl,⟨_,b_gv1⟩⟩)⟩
  ·refine aV ⟨by omega,?_⟩
   obtain⟨p3,ha3,hz3,hc3⟩:=hz.u32 (by omega)
   refine ak p3 ha3 ⟨_,hc3 1 (by omega),⟨by decide,eV b_gv1 (by simp) fun wv3 s_wv3=>?_⟩⟩
   have b_gv1:Blk wv3 gv1 #[(.int .u32 ((l.getD 0 ⟨0⟩).v)),(.int .u32 ((l.getD 1 ⟨0⟩).v)),(.int .u32 0),(.int .u32 0),(.int .u32 0),(.int .u32 0),(.int .u32 0),(.int .u32 0),(.slice none 0 0),(.int .i64 0)] _:=s_wv3.blk.cast (by kernel_rfl)
   rintro _ rfl
   have hp:=Ch.call hp s_wv3.ch (by exact fun k e=>.inr (e▸lo_gv1))
   have hz:=hz.ch s_wv3.ch (fun k hx e=>(fun hx=>absurd (lt_hz _ hx) (Nat.not_lt.2 lo_gv1)) (e▸hx))
   have b_gv:=Ch.blk s_wv3.ch b_gv (ne_gv_gv1)
   exact⟨6,by decide,hp,hz,⟨_,b_gv⟩,.inr (.inr (.inl ⟨rfl,rfl,⟨_,b_gv1⟩⟩))⟩
  ·refine aV ⟨by omega,?_⟩
   obtain⟨p4,ha4,hz4,hc4⟩:=hz.u32 (by omega)
   refine ak p4 ha4 ⟨_,hc4 2 (by omega),⟨by decide,eV b_gv1 (by simp) fun wv3 s_wv3=>?_⟩⟩
   have b_gv1:Blk wv3 gv1 #[(.int .u32 ((l.getD 0 ⟨0⟩).v)),(.int .u32 ((l.getD 1 ⟨0⟩).v)),(.int .u32 ((l.getD 2 ⟨0⟩).v)),(.int .u32 0),(.int .u32 0),(.int .u32 0),(.int .u32 0),(.int .u32 0),(.slice none 0 0),(.int .i64 0)] _:=s_wv3.blk.cast (by kernel_rfl)
   rintro _ rfl
   have hp:=Ch.call hp s_wv3.ch (by exact fun k e=>.inr (e▸lo_gv1))
   have hz:=hz.ch s_wv3.ch (fun k hx e=>(fun hx=>absurd (lt_hz _ hx) (Nat.not_lt.2 lo_gv1)) (e▸hx))
   have b_gv:=Ch.blk s_wv3.ch b_gv (ne_gv_gv1)
   exact⟨5,by decide,hp,hz,⟨_,b_gv⟩,.inr (.inr (.inr (.inl ⟨rfl,rfl,⟨_,b_gv1⟩⟩)))⟩
  ·refine aV ⟨by omega,?_⟩
   obtain⟨p5,ha5,hz5,hc5⟩:=hz.u32 (by omega)
   refine ak p5 ha5 ⟨_,hc5 3 (by omega),⟨by decide,eV b_gv1 (by simp) fun wv3 s_wv3=>?_⟩⟩
   have b_gv1:Blk wv3 gv1 #[(.int .u32 ((l.getD 0 ⟨0⟩).v)),(.int .u32 ((l.getD 1 ⟨0⟩).v)),(.int .u32 ((l.getD 2 ⟨0⟩).v)),(.int .u32 ((l.getD 3 ⟨0⟩).v)),(.int .u32 0),(.int .u32 0),(.int .u32 0),(.int .u32 0),(.slice none 0 0),(.int .i64 0)] _:=s_wv3.blk.cast (by kernel_rfl)
   rintro _ rfl
   have hp:=Ch.call hp s_wv3.ch (by exact fun k e=>.inr (e▸lo_gv1))
   have hz:=hz.ch s_wv3.ch (fun k hx e=>(fun hx=>absurd (lt_hz _ hx) (Nat.not_lt.2 lo_gv1)) (e▸hx))
   have b_gv:=Ch.blk s_wv3.ch b_gv (ne_gv_gv1)
   exact⟨4,by decide,hp,hz,⟨_,b_gv⟩,.inr (.inr (.inr (.inr (.inl ⟨rfl,rfl,⟨_,b_gv1⟩⟩))))⟩
  ·refine aV ⟨by omega,?_⟩
   obtain⟨p6,ha6,hz6,hc6⟩:=hz.u32 (by omega)
   refine ak p6 ha6 ⟨_,hc6 4 (by omega),⟨by decide,eV b_gv1 (by simp) fun wv3 s_wv3=>?_⟩⟩
   have b_gv1:Blk wv3 gv1 #[(.int .u32 ((l.getD 0 ⟨0⟩).v)),(.int .u32 ((l.getD 1 ⟨0⟩).v)),(.int .u32 ((l.getD 2 ⟨0⟩).v)),(.int .u32 ((l.getD 3 ⟨0⟩).v)),(.int .u32 ((l.getD 4 ⟨0⟩).v)),(.int .u32 0),(.int .u32 0),(.int .u32 0),(.slice none 0 0),(.int .i64 0)] _:=s_wv3.blk.cast (by kernel_rfl)
   rintro _ rfl
   have hp:=Ch.call hp s_wv3.ch (by exact fun k e=>.inr (e▸lo_gv1))
   have hz:=hz.ch s_wv3.ch (fun k hx e=>(fun hx=>absurd (lt_hz _ hx) (Nat.not_lt.2 lo_gv1)) (e▸hx))
   have b_gv:=Ch.blk s_wv3.ch b_gv (ne_gv_gv1)
   exact⟨3,by decide,hp,hz,⟨_,b_gv⟩,.inr (.inr (.inr (.inr (.inr (.inl ⟨rfl,rfl,⟨_,b_gv1⟩⟩)))))⟩
  ·refine aV ⟨by omega,?_⟩
   obtain⟨p7,ha7,hz7,hc7⟩:=hz.u32 (by omega)
   refine ak p7 ha7 ⟨_,hc7 5 (by omega),⟨by decide,eV b_gv1 (by simp) fun wv3 s_wv3=>?_⟩⟩
   have b_gv1:Blk wv3 gv1 #[(.int .u32 ((l.getD 0 ⟨0⟩).v)),(.int .u32 ((l.getD 1 ⟨0⟩).v)),(.int .u32 ((l.getD 2 ⟨0⟩).v)),(.int .u32 ((l.getD 3 ⟨0⟩).v)),(.int .u32 ((l.getD 4 ⟨0⟩).v)),(.int .u32 ((l.getD 5 ⟨0⟩).v)),(.int .u32 0),(.int .u32 0),(.slice none 0 0),(.int .i64 0)] _:=s_wv3.blk.cast (by kernel_rfl)
   rintro _ rfl
   have hp:=Ch.call hp s_wv3.ch (by exact fun k e=>.inr (e▸lo_gv1))
   have hz:=hz.ch s_wv3.ch (fun k hx e=>(fun hx=>absurd (lt_hz _ hx) (Nat.not_lt.2 lo_gv1)) (e▸hx))
   have b_gv:=Ch.blk s_wv3.ch b_gv (ne_gv_gv1)
   exact⟨2,by decide,hp,hz,⟨_,b_gv⟩,.inr (.inr (.inr (.inr (.inr (.inr (.inl ⟨rfl,rfl,⟨_,b_gv1⟩⟩))))))⟩
  ·refine aV ⟨by omega,?_⟩
   obtain⟨p8,ha8,hz8,hc8⟩:=hz.u32 (by omega)
   refine ak p8 ha8 ⟨_,hc8 6 (by omega),⟨by decide,eV b_gv1 (by simp) fun wv3 s_wv3=>?_⟩⟩
   have b_gv1:Blk wv3 gv1 #[(.int .u32 ((l.getD 0 ⟨0⟩).v)),(.int .u32 ((l.getD 1 ⟨0⟩).v)),(.int .u32 ((l.getD 2 ⟨0⟩).v)),(.int .u32 ((l.getD 3 ⟨0⟩).v)),(.int .u32 ((l.getD 4 ⟨0⟩).v)),(.int .u32 ((l.getD 5 ⟨0⟩).v)),(.int .u32 ((l.getD 6 ⟨0⟩).v)),(.int .u32 0),(.slice none 0 0),(.int .i64 0)] _:=s_wv3.blk.cast (by kernel_rfl)
   rintro _ rfl
   have hp:=Ch.call hp s_wv3.ch (by exact fun k e=>.inr (e▸lo_gv1))
   have hz:=hz.ch s_wv3.ch (fun k hx e=>(fun hx=>absurd (lt_hz _ hx) (Nat.not_lt.2 lo_gv1)) (e▸hx))
   have b_gv:=Ch.blk s_wv3.ch b_gv (ne_gv_gv1)
   exact⟨1,by decide,hp,hz,⟨_,b_gv⟩,.inr (.inr (.inr (.inr (.inr (.inr (.inr (.inl ⟨rfl,rfl,⟨_,b_gv1⟩⟩)))))))⟩
  ·refine aV ⟨by omega,?_⟩
   obtain⟨p9,ha9,hz9,hc9⟩:=hz.u32 (by omega)
   refine ak p9 ha9 ⟨_,hc9 7 (by omega),⟨by decide,eV b_gv1 (by simp) fun wv3 s_wv3=>?_⟩⟩
   have b_gv1:Blk wv3 gv1 #[(.int .u32 ((l.getD 0 ⟨0⟩).v)),(.int .u32 ((l.getD 1 ⟨0⟩).v)),(.int .u32 ((l.getD 2 ⟨0⟩).v)),(.int .u32 ((l.getD 3 ⟨0⟩).v)),(.int .u32 ((l.getD 4 ⟨0⟩).v)),(.int .u32 ((l.getD 5 ⟨0⟩).v)),(.int .u32 ((l.getD 6 ⟨0⟩).v)),(.int .u32 ((l.getD 7 ⟨0⟩).v)),(.slice none 0 0),(.int .i64 0)] _:=s_wv3.blk.cast (by kernel_rfl)
   rintro _ rfl
   have hp:=Ch.call hp s_wv3.ch (by exact fun k e=>.inr (e▸lo_gv1))
   have hz:=hz.ch s_wv3.ch (fun k hx e=>(fun hx=>absurd (lt_hz _ hx) (Nat.not_lt.2 lo_gv1)) (e▸hx))
   have b_gv:=Ch.blk s_wv3.ch b_gv (ne_gv_gv1)
   exact⟨0,by decide,hp,hz,⟨_,b_gv⟩,.inr (.inr (.inr (.inr (.inr (.inr (.inr (.inr (⟨rfl,rfl,⟨_,b_gv1⟩⟩))))))))⟩
  ·refine dS ⟨by omega,?_⟩
   obtain⟨p10,ha10,hz10,hc10⟩:=hz.u32 (by omega)
   refine ak p10 ha10 ?_
   have hz:=hz.pu (Pu.aI _)
   refine⟨_,hc10 8 (by omega),⟨by omega,?_⟩⟩
   obtain⟨p11,ha11,hz11,hc11⟩:=hz.u32 (by omega)
   refine ak p11 ha11 ⟨_,hc11 9 (by omega),?_⟩
   rintro n e_n
   obtain rfl:n=Dg.nOf l:=e_n.trans (by exact Dg.H3 hw hl26)
   refine⟨_,?_,fun _ x44 wv3 h=>h⟩
   refine⟨bXU [7] [] wv2.drew.drew (fun _=>False),?_⟩
   refine au (fun c12=>?_) (fun c12=>?_)
   ·have hE:=Dg.ew hl26 (.inl c12)
    have b_gv:=Blk.drew (Blk.drew b_gv)
    refine aV (bC b_gv rfl fun wv4 s_wv4=>?_)
    have b_gv:=s_wv4.blk
    refine⟨_,_,_,_,_,_,_,_,_,_,_,_,⟨b_gv.at rfl,b_gv.at rfl,b_gv.at rfl,b_gv.at rfl,b_gv.at rfl,b_gv.at rfl,b_gv.at rfl,b_gv.at rfl,b_gv.at rfl,b_gv.at rfl⟩,?_⟩
    have hp:=Ch.call (Ch.drew (Ch.drew hp)) s_wv4.ch (by exact fun k e=>.inr (e▸lo_gv))
    exact⟨fun _=>False,none,0,0,congrArg Value.tuple (kO (congrArg Value.agg (kP (congrArg (Value.int .u32) (by(rw [Dg.aD hE];rfl))) (congrArg (Value.int .u32) (by(rw [Dg.aD hE];rfl))) (congrArg (Value.int .u32) (by(rw [Dg.aD hE];rfl))) (congrArg (Value.int .u32) (by(rw [Dg.aD hE];rfl))) (congrArg (Value.int .u32) (by(rw [Dg.aD hE];rfl))) (congrArg (Value.int .u32) (by(rw [Dg.aD hE];rfl))) (congrArg (Value.int .u32) (by(rw [Dg.aD hE];rfl))) (congrArg (Value.int .u32) (by(rw [Dg.aD hE];rfl))) (by rfl) (congrArg (Value.int .i64) (by(rw [Dg.aD hE];rfl))))) (congrArg (Value.int .i64) (by exact hE.symm))),by rw [Dg.aD hE];exact Rd.nil,fun k h=>h.elim,hp⟩
   ·refine au (fun c13=>?_) (fun c13=>?_)
    ·have b_gv1:=Blk.drew (Blk.drew b_gv1)
     refine⟨.inr ⟨by decide,bX.ld b_gv1 (fun h=>h) _⟩,_,_,_,_,_,_,_,_,⟨b_gv1.at2 rfl,b_gv1.at2 rfl,b_gv1.at2 rfl,b_gv1.at2 rfl,b_gv1.at2 rfl,b_gv1.at2 rfl,b_gv1.at2 rfl,b_gv1.at2 rfl⟩,?_⟩
     refine Calls.mono (xi) ?_
     rintro e wv3 ⟨_,rfl,rfl,q_wv3⟩
     refine⟨_,_,_,_,_,_,_,_,rfl,?_⟩
     refine bXU.cw q_wv3 (by decide) ?_
     refine aQ (fun c14=>?_) (fun c14=>?_)
     ·have hst:Dg.jb l≠S8.first:=by intro h;simp [Dg.jb,S8.first]at h;simp [bd,eqL,km,S8.first,h]at c14
      have hE:=Dg.ew hl26 (.inr ⟨c13,hst⟩)
      have b_gv:=Pu.blk q_wv3 (Blk.drew (Blk.drew b_gv))
      refine bC b_gv rfl fun wv4 s_wv4=>?_
      have b_gv:=s_wv4.blk
      refine⟨_,_,_,_,_,_,_,_,_,_,_,_,⟨b_gv.at rfl,b_gv.at rfl,b_gv.at rfl,b_gv.at rfl,b_gv.at rfl,b_gv.at rfl,b_gv.at rfl,b_gv.at rfl,b_gv.at rfl,b_gv.at rfl⟩,?_⟩
      have hp:=Ch.call (Ch.pu (Ch.drew (Ch.drew hp)) q_wv3) s_wv4.ch (by exact fun k e=>.inr (e▸lo_gv))
      exact⟨fun _=>False,none,0,0,congrArg Value.tuple (kO (congrArg Value.agg (kP (congrArg (Value.int .u32) (by(rw [Dg.aD hE];rfl))) (congrArg (Value.int .u32) (by(rw [Dg.aD hE];rfl))) (congrArg (Value.int .u32) (by(rw [Dg.aD hE];rfl))) (congrArg (Value.int .u32) (by(rw [Dg.aD hE];rfl))) (congrArg (Value.int .u32) (by(rw [Dg.aD hE];rfl))) (congrArg (Value.int .u32) (by(rw [Dg.aD hE];rfl))) (congrArg (Value.int .u32) (by(rw [Dg.aD hE];rfl))) (congrArg (Value.int .u32) (by(rw [Dg.aD hE];rfl))) (by rfl) (congrArg (Value.int .i64) (by(rw [Dg.aD hE];rfl))))) (congrArg (Value.int .i64) (by exact hE.symm))),by rw [Dg.aD hE];exact Rd.nil,fun k h=>h.elim,hp⟩
     ·have hst:Dg.jb l=S8.first:=by simp [bd,eqL,km,S8.first]at c14;simp [Dg.jb,S8.first,c14]
      have hg:¬(Dg.nOf l>36028797018963968∨(Dg.nOf l<16∧Dg.jb l≠S8.first)):=by rintro(h | h);exact c12 h;exact h.2 hst
      have b_gv1:=Pu.blk q_wv3 b_gv1
      refine aL b_gv1 (by simp) fun wv4 s_wv4=>?_
      have b_gv1:Blk wv4 gv1 #[(.int .u32 ((l.getD 0 ⟨0⟩).v)),(.int .u32 ((l.getD 1 ⟨0⟩).v)),(.int .u32 ((l.getD 2 ⟨0⟩).v)),(.int .u32 ((l.getD 3 ⟨0⟩).v)),(.int .u32 ((l.getD 4 ⟨0⟩).v)),(.int .u32 ((l.getD 5 ⟨0⟩).v)),(.int .u32 ((l.getD 6 ⟨0⟩).v)),(.int .u32 ((l.getD 7 ⟨0⟩).v)),(.slice none 0 0),(.int .i64 (i64.wrap (Dg.nOf l)))] _:=s_wv4.blk.cast (by kernel_rfl)
      rintro _ rfl
      have hp:=Ch.call (Ch.pu (Ch.drew (Ch.drew hp)) q_wv3) s_wv4.ch (by exact fun k e=>.inr (e▸lo_gv1))
      have hz:=((hz.pu (Pu.aI _)).pu q_wv3).ch s_wv4.ch (fun k hx e=>(fun hx=>absurd (lt_hz _ hx) (Nat.not_lt.2 lo_gv1)) (e▸hx))
      have b_gv:=Ch.blk s_wv4.ch (Pu.blk q_wv3 (Blk.drew (Blk.drew b_gv))) (ne_gv_gv1)
      refine⟨fun mz i3 W=>∃A8:Option Addr,∃N8:Nat,∃C8:Nat,∃wl2:List U32,mz=(26 - i3).toNat∧(10≤i3∧i3≤26)∧(wl2=(l.drop 10).take (min (i3.toNat - 10) (Dg.nOf l % 16).toNat))∧(∀(i:Nat)(x:U32),i+(10+(Dg.nOf l % 16).toNat)<i3.toNat→(l.drop (10+(Dg.nOf l % 16).toNat))[i]? =some x→x.v=0)∧Own W (fun k=>w.heap.size≤k∧k≠gv∧k≠gv1) 22 A8 N8 C8 wl2∧Ch (fun _=>False) w W∧Rd W Z wordsA wordsN wordsC l∧(∃T,Blk W gv #[(.int .u32 0),(.int .u32 0),(.int .u32 0),(.int .u32 0),(.int .u32 0),(.int .u32 0),(.int .u32 0),(.int .u32 0),(.slice none 0 0),(.int .i64 0)] T)∧(∃T,Blk W gv1 #[(.int .u32 ((l.getD 0 ⟨0⟩).v)),(.int .u32 ((l.getD 1 ⟨0⟩).v)),(.int .u32 ((l.getD 2 ⟨0⟩).v)),(.int .u32 ((l.getD 3 ⟨0⟩).v)),(.int .u32 ((l.getD 4 ⟨0⟩).v)),(.int .u32 ((l.getD 5 ⟨0⟩).v)),(.int .u32 ((l.getD 6 ⟨0⟩).v)),(.int .u32 ((l.getD 7 ⟨0⟩).v)),(.slice A8 N8 C8),(.int .i64 (Dg.nOf l))] T),⟨_,none,0,0,([]),rfl,(by omega),(by simp),(by intro i x h;omega),Own.nil,hp,hz,⟨_,b_gv⟩,⟨_,b_gv1.cast (kP (congrArg (Value.int .u32) (by rfl)) (congrArg (Value.int .u32) (by rfl)) (congrArg (Value.int .u32) (by rfl)) (congrArg (Value.int .u32) (by rfl)) (congrArg (Value.int .u32) (by rfl)) (congrArg (Value.int .u32) (by rfl)) (congrArg (Value.int .u32) (by rfl)) (congrArg (Value.int .u32) (by rfl)) rfl (congrArg (Value.int .i64) (by exact(af (by omega)).symm)))⟩⟩,?_⟩
      rintro _ _ i3 wv5 ⟨A8,N8,C8,wl2,rfl,h0,hv,hq,h_wl2,hp,hz,⟨_,b_gv⟩,⟨_,b_gv1⟩⟩
      refine au (fun c15=>?_) (fun c15=>?_)
      ·refine au (fun c16=>?_) (fun c16=>?_)
       ·rw [Int.tmod_eq_emod_of_nonneg hnO.1,af (x:=Dg.nOf l % 16) (by omega),af (by omega)]at c16
        refine⟨bXU [1] [5] wv5.drew (fun k=>w.heap.size≤k∧k≠gv∧k≠gv1),?_⟩
        have b_gv1:=Blk.drew b_gv1
        have hz:=hz.pu (Pu.aI _)
        refine⟨.inr ⟨by decide,bX.ld b_gv1 (by(intro h;omega)) _⟩,_,_,_,b_gv1.at rfl,?_⟩
        obtain⟨p17,x17,ha17,hx17,hz17,hc17⟩:=hz.ld (i:=i3) (by omega) (by omega)
        refine⟨by constructor<;>omega,ak p17 ha17 ⟨.inl (by decide),_,hc17 0 (by decide),?_⟩⟩
        refine mkd fun gv5 wv6 m_gv5=>?_
        have ne_gv1_gv5:=m_gv5.ne b_gv1
        have b_gv5:=m_gv5.blk
        refine bXU.cw m_gv5.pu (by decide) ?_
        have h_wl2:=(h_wl2.pu (Pu.aI _)).pu m_gv5.pu
        have hp:=Ch.made (Ch.drew hp) m_gv5
        refine h_wl2.app mQ b_gv5 (x:=(⟨x17.v⟩:U32)) (by rfl) (by have:=h_wl2.len;have:wl2.length≤26:=(by rw [hv];simp;omega);omega) (by have:=h_wl2.len;have:wl2.length≤26:=(by rw [hv];simp;omega);omega) (by have h1:gv<wv5.heap.size:=b_gv.lt;have h2:gv1<wv5.heap.size:=b_gv1.lt;have h3:wv5.heap.size≤wv6.heap.size:=m_gv5.kept.size;have h4:w.heap.size≤wv6.heap.size:=(by exact hp.size);refine⟨?_,?_,?_⟩<;>omega) fun A_wv7 c_wv7 wv7 h_wl2 q_wv7=>?_
        refine bXU.more q_wv7 (by intro k hk;exact .inl hk) (by decide) ?_
        have b_gv1:=Ch.blk q_wv7 (Made.old m_gv5 b_gv1) (fun h=>h.2.2 rfl)
        refine aL b_gv1 (by simp) fun wv8 s_wv8=>?_
        have b_gv1:Blk wv8 gv1 #[(.int .u32 ((l.getD 0 ⟨0⟩).v)),(.int .u32 ((l.getD 1 ⟨0⟩).v)),(.int .u32 ((l.getD 2 ⟨0⟩).v)),(.int .u32 ((l.getD 3 ⟨0⟩).v)),(.int .u32 ((l.getD 4 ⟨0⟩).v)),(.int .u32 ((l.getD 5 ⟨0⟩).v)),(.int .u32 ((l.getD 6 ⟨0⟩).v)),(.int .u32 ((l.getD 7 ⟨0⟩).v)),(.slice A_wv7 (N8+1) c_wv7),(.int .i64 (Dg.nOf l))] _:=s_wv8.blk.cast (by kernel_rfl)
        refine bXU.grow s_wv8.ch ?_
        rintro _ rfl
        have hp:=Ch.call (Ch.call hp q_wv7 (by intro k hk;exact .inr hk.1)) s_wv8.ch (by exact fun k e=>.inr (e▸lo_gv1))
        have hz:=((hz.pu m_gv5.pu).ch q_wv7 (fun k hx hy=>by have h1:=lt_hz k hx;omega)).ch s_wv8.ch (fun k hx e=>(fun hx=>absurd (lt_hz _ hx) (Nat.not_lt.2 lo_gv1)) (e▸hx))
        have b_gv:=Ch.blk s_wv8.ch (Ch.blk q_wv7 (Made.old m_gv5 (Blk.drew b_gv)) (fun h=>h.2.1 rfl)) (ne_gv_gv1)
        have h_wl2:=h_wl2.ch s_wv8.ch (fun k hx e=>hx.2.2 e)
        exact⟨_,by rw [IntKind.wrap_i64];omega,A_wv7,(N8+1),c_wv7,(wl2++ [(⟨x17.v⟩:U32)]),rfl,by rw [IntKind.wrap_i64];omega,by rw [Dg.tF (by omega) (by omega) (by omega) ‹_›,← hv],by rw [af (by omega)];intro i x hi hx;exact hq i x (by omega) hx,h_wl2,hp,hz,⟨_,b_gv⟩,⟨_,b_gv1⟩⟩
       ·rw [Int.tmod_eq_emod_of_nonneg hnO.1,af (x:=Dg.nOf l % 16) (by omega),af (by omega)]at c16
        obtain⟨p18,x18,ha18,hx18,hz18,hc18⟩:=hz.ld (i:=i3) (by omega) (by omega)
        refine⟨by constructor<;>omega,ak p18 ha18 ⟨_,hc18 0 (by decide),?_⟩⟩
        refine bh (fun c19=>?_) (fun c19=>?_)
        ·have hE:Dg.aE l=20:=Dg.cx hl26 hg (i:=i3.toNat - (10+(Dg.nOf l % 16).toNat)) (by rw [List.getElem?_drop,show 10+(Dg.nOf l % 16).toNat+(i3.toNat - (10+(Dg.nOf l % 16).toNat))=i3.toNat by omega];exact hx18) c19
         refine bC b_gv rfl fun wv6 s_wv6=>?_
         have b_gv:=s_wv6.blk
         refine⟨_,_,_,_,_,_,_,_,_,_,_,_,⟨b_gv.at rfl,b_gv.at rfl,b_gv.at rfl,b_gv.at rfl,b_gv.at rfl,b_gv.at rfl,b_gv.at rfl,b_gv.at rfl,b_gv.at rfl,b_gv.at rfl⟩,?_⟩
         have hp:=Ch.call hp s_wv6.ch (by exact fun k e=>.inr (e▸lo_gv))
         exact⟨fun _=>False,none,0,0,congrArg Value.tuple (kO (congrArg Value.agg (kP (congrArg (Value.int .u32) (by(rw [Dg.aD hE];rfl))) (congrArg (Value.int .u32) (by(rw [Dg.aD hE];rfl))) (congrArg (Value.int .u32) (by(rw [Dg.aD hE];rfl))) (congrArg (Value.int .u32) (by(rw [Dg.aD hE];rfl))) (congrArg (Value.int .u32) (by(rw [Dg.aD hE];rfl))) (congrArg (Value.int .u32) (by(rw [Dg.aD hE];rfl))) (congrArg (Value.int .u32) (by(rw [Dg.aD hE];rfl))) (congrArg (Value.int .u32) (by(rw [Dg.aD hE];rfl))) (by rfl) (congrArg (Value.int .i64) (by(rw [Dg.aD hE];rfl))))) (congrArg (Value.int .i64) (by exact hE.symm))),by rw [Dg.aD hE];exact Rd.nil,fun k h=>h.elim,hp⟩
        ·rintro _ rfl
         exact⟨_,by rw [IntKind.wrap_i64];omega,A8,N8,C8,wl2,rfl,by rw [IntKind.wrap_i64];omega,by rw [hv,af (by omega)];congr 1;omega,by rw [af (by omega)];intro i x hi hx;by_cases he:i+(10+(Dg.nOf l % 16).toNat)=i3.toNat;(rw [List.getElem?_drop,Nat.add_comm,he]at hx;simp_all);exact hq i x (by omega) hx,h_wl2,hp,hz,⟨_,b_gv⟩,⟨_,b_gv1⟩⟩
      ·have hE:Dg.aE l=0:=Dg.jW hl26 hg (fun i x hx=>hq i x (by have:=(List.getElem?_eq_some_iff.1 hx).1;rw [List.length_drop]at this;omega) hx)
       have hw2:wl2=(l.drop 10).take (Dg.nOf l % 16).toNat:=by rw [hv,Dg.wK (by omega) (by omega)]
       refine⟨_,_,_,_,_,_,_,_,_,_,_,_,⟨b_gv1.at rfl,b_gv1.at rfl,b_gv1.at rfl,b_gv1.at rfl,b_gv1.at rfl,b_gv1.at rfl,b_gv1.at rfl,b_gv1.at rfl,b_gv1.at rfl,b_gv1.at rfl⟩,bC b_gv rfl fun wv6 s_wv6=>?_⟩
       have b_gv:=s_wv6.blk
       refine⟨_,_,_,_,_,_,_,_,_,_,_,_,⟨b_gv.at rfl,b_gv.at rfl,b_gv.at rfl,b_gv.at rfl,b_gv.at rfl,b_gv.at rfl,b_gv.at rfl,b_gv.at rfl,b_gv.at rfl,b_gv.at rfl⟩,?_⟩
       have h_wl2:=h_wl2.ch s_wv6.ch (fun k hx e=>hx.2.1 e)
       have hp:=Ch.call hp s_wv6.ch (by exact fun k e=>.inr (e▸lo_gv))
       exact⟨_,_,_,_,congrArg Value.tuple (kO (congrArg Value.agg (kP (congrArg (Value.int .u32) (by(rw [Dg.bM hE];rfl))) (congrArg (Value.int .u32) (by(rw [Dg.bM hE];rfl))) (congrArg (Value.int .u32) (by(rw [Dg.bM hE];rfl))) (congrArg (Value.int .u32) (by(rw [Dg.bM hE];rfl))) (congrArg (Value.int .u32) (by(rw [Dg.bM hE];rfl))) (congrArg (Value.int .u32) (by(rw [Dg.bM hE];rfl))) (congrArg (Value.int .u32) (by(rw [Dg.bM hE];rfl))) (congrArg (Value.int .u32) (by(rw [Dg.bM hE];rfl))) (by rfl) (congrArg (Value.int .i64) (by(rw [Dg.bM hE];rfl))))) (congrArg (Value.int .i64) (by exact hE.symm))),by rw [Dg.bM hE];have h9:=(h_wl2).rd;rw [hw2]at h9;exact h9,by intro k h;exact h.1.1,hp⟩
    ·have hg:¬(Dg.nOf l>36028797018963968∨(Dg.nOf l<16∧Dg.jb l≠S8.first)):=by rintro(h | h);exact c12 h;exact c13 h.1
     have b_gv1:=Blk.drew (Blk.drew b_gv1)
     refine dS (aL b_gv1 (by simp) fun wv4 s_wv4=>?_)
     have b_gv1:Blk wv4 gv1 #[(.int .u32 ((l.getD 0 ⟨0⟩).v)),(.int .u32 ((l.getD 1 ⟨0⟩).v)),(.int .u32 ((l.getD 2 ⟨0⟩).v)),(.int .u32 ((l.getD 3 ⟨0⟩).v)),(.int .u32 ((l.getD 4 ⟨0⟩).v)),(.int .u32 ((l.getD 5 ⟨0⟩).v)),(.int .u32 ((l.getD 6 ⟨0⟩).v)),(.int .u32 ((l.getD 7 ⟨0⟩).v)),(.slice none 0 0),(.int .i64 (i64.wrap (Dg.nOf l)))] _:=s_wv4.blk.cast (by kernel_rfl)
     rintro _ rfl
     have hp:=Ch.call (Ch.drew (Ch.drew hp)) s_wv4.ch (by exact fun k e=>.inr (e▸lo_gv1))
     have hz:=(hz.pu (Pu.aI _)).ch s_wv4.ch (fun k hx e=>(fun hx=>absurd (lt_hz _ hx) (Nat.not_lt.2 lo_gv1)) (e▸hx))
     have b_gv:=Ch.blk s_wv4.ch (Blk.drew (Blk.drew b_gv)) (ne_gv_gv1)
     refine⟨fun mz i3 W=>∃A8:Option Addr,∃N8:Nat,∃C8:Nat,∃wl2:List U32,mz=(26 - i3).toNat∧(10≤i3∧i3≤26)∧(wl2=(l.drop 10).take (min (i3.toNat - 10) (Dg.nOf l % 16).toNat))∧(∀(i:Nat)(x:U32),i+(10+(Dg.nOf l % 16).toNat)<i3.toNat→(l.drop (10+(Dg.nOf l % 16).toNat))[i]? =some x→x.v=0)∧Own W (fun k=>w.heap.size≤k∧k≠gv∧k≠gv1) 22 A8 N8 C8 wl2∧Ch (fun _=>False) w W∧Rd W Z wordsA wordsN wordsC l∧(∃T,Blk W gv #[(.int .u32 0),(.int .u32 0),(.int .u32 0),(.int .u32 0),(.int .u32 0),(.int .u32 0),(.int .u32 0),(.int .u32 0),(.slice none 0 0),(.int .i64 0)] T)∧(∃T,Blk W gv1 #[(.int .u32 ((l.getD 0 ⟨0⟩).v)),(.int .u32 ((l.getD 1 ⟨0⟩).v)),(.int .u32 ((l.getD 2 ⟨0⟩).v)),(.int .u32 ((l.getD 3 ⟨0⟩).v)),(.int .u32 ((l.getD 4 ⟨0⟩).v)),(.int .u32 ((l.getD 5 ⟨0⟩).v)),(.int .u32 ((l.getD 6 ⟨0⟩).v)),(.int .u32 ((l.getD 7 ⟨0⟩).v)),(.slice A8 N8 C8),(.int .i64 (Dg.nOf l))] T),⟨_,none,0,0,([]),rfl,(by omega),(by simp),(by intro i x h;omega),Own.nil,hp,hz,⟨_,b_gv⟩,⟨_,b_gv1.cast (kP (congrArg (Value.int .u32) (by rfl)) (congrArg (Value.int .u32) (by rfl)) (congrArg (Value.int .u32) (by rfl)) (congrArg (Value.int .u32) (by rfl)) (congrArg (Value.int .u32) (by rfl)) (congrArg (Value.int .u32) (by rfl)) (congrArg (Value.int .u32) (by rfl)) (congrArg (Value.int .u32) (by rfl)) rfl (congrArg (Value.int .i64) (by exact(af (by omega)).symm)))⟩⟩,?_⟩
     rintro _ _ i3 wv5 ⟨A8,N8,C8,wl2,rfl,h0,hv,hq,h_wl2,hp,hz,⟨_,b_gv⟩,⟨_,b_gv1⟩⟩
     refine au (fun c20=>?_) (fun c20=>?_)
     ·refine au (fun c21=>?_) (fun c21=>?_)
      ·rw [Int.tmod_eq_emod_of_nonneg hnO.1,af (x:=Dg.nOf l % 16) (by omega),af (by omega)]at c21
       refine⟨bXU [1] [5] wv5.drew (fun k=>w.heap.size≤k∧k≠gv∧k≠gv1),?_⟩
       have b_gv1:=Blk.drew b_gv1
       have hz:=hz.pu (Pu.aI _)
       refine⟨.inr ⟨by decide,bX.ld b_gv1 (by(intro h;omega)) _⟩,_,_,_,b_gv1.at rfl,?_⟩
       obtain⟨p22,x22,ha22,hx22,hz22,hc22⟩:=hz.ld (i:=i3) (by omega) (by omega)
       refine⟨by constructor<;>omega,ak p22 ha22 ⟨.inl (by decide),_,hc22 0 (by decide),?_⟩⟩
       refine mkd fun gv5 wv6 m_gv5=>?_
       have ne_gv1_gv5:=m_gv5.ne b_gv1
       have b_gv5:=m_gv5.blk
       refine bXU.cw m_gv5.pu (by decide) ?_
       have h_wl2:=(h_wl2.pu (Pu.aI _)).pu m_gv5.pu
       have hp:=Ch.made (Ch.drew hp) m_gv5
       refine h_wl2.app mQ b_gv5 (x:=(⟨x22.v⟩:U32)) (by rfl) (by have:=h_wl2.len;have:wl2.length≤26:=(by rw [hv];simp;omega);omega) (by have:=h_wl2.len;have:wl2.length≤26:=(by rw [hv];simp;omega);omega) (by have h1:gv<wv5.heap.size:=b_gv.lt;have h2:gv1<wv5.heap.size:=b_gv1.lt;have h3:wv5.heap.size≤wv6.heap.size:=m_gv5.kept.size;have h4:w.heap.size≤wv6.heap.size:=(by exact hp.size);refine⟨?_,?_,?_⟩<;>omega) fun A_wv7 c_wv7 wv7 h_wl2 q_wv7=>?_
       refine bXU.more q_wv7 (by intro k hk;exact .inl hk) (by decide) ?_
       have b_gv1:=Ch.blk q_wv7 (Made.old m_gv5 b_gv1) (fun h=>h.2.2 rfl)
       refine aL b_gv1 (by simp) fun wv8 s_wv8=>?_
       have b_gv1:Blk wv8 gv1 #[(.int .u32 ((l.getD 0 ⟨0⟩).v)),(.int .u32 ((l.getD 1 ⟨0⟩).v)),(.int .u32 ((l.getD 2 ⟨0⟩).v)),(.int .u32 ((l.getD 3 ⟨0⟩).v)),(.int .u32 ((l.getD 4 ⟨0⟩).v)),(.int .u32 ((l.getD 5 ⟨0⟩).v)),(.int .u32 ((l.getD 6 ⟨0⟩).v)),(.int .u32 ((l.getD 7 ⟨0⟩).v)),(.slice A_wv7 (N8+1) c_wv7),(.int .i64 (Dg.nOf l))] _:=s_wv8.blk.cast (by kernel_rfl)
       refine bXU.grow s_wv8.ch ?_
       rintro _ rfl
       have hp:=Ch.call (Ch.call hp q_wv7 (by intro k hk;exact .inr hk.1)) s_wv8.ch (by exact fun k e=>.inr (e▸lo_gv1))
       have hz:=((hz.pu m_gv5.pu).ch q_wv7 (fun k hx hy=>by have h1:=lt_hz k hx;omega)).ch s_wv8.ch (fun k hx e=>(fun hx=>absurd (lt_hz _ hx) (Nat.not_lt.2 lo_gv1)) (e▸hx))
       have b_gv:=Ch.blk s_wv8.ch (Ch.blk q_wv7 (Made.old m_gv5 (Blk.drew b_gv)) (fun h=>h.2.1 rfl)) (ne_gv_gv1)
       have h_wl2:=h_wl2.ch s_wv8.ch (fun k hx e=>hx.2.2 e)
       exact⟨_,by rw [IntKind.wrap_i64];omega,A_wv7,(N8+1),c_wv7,(wl2++ [(⟨x22.v⟩:U32)]),rfl,by rw [IntKind.wrap_i64];omega,by rw [Dg.tF (by omega) (by omega) (by omega) ‹_›,← hv],by rw [af (by omega)];intro i x hi hx;exact hq i x (by omega) hx,h_wl2,hp,hz,⟨_,b_gv⟩,⟨_,b_gv1⟩⟩
      ·rw [Int.tmod_eq_emod_of_nonneg hnO.1,af (x:=Dg.nOf l % 16) (by omega),af (by omega)]at c21
       obtain⟨p23,x23,ha23,hx23,hz23,hc23⟩:=hz.ld (i:=i3) (by omega) (by omega)
       refine⟨by constructor<;>omega,ak p23 ha23 ⟨_,hc23 0 (by decide),?_⟩⟩
       refine bh (fun c24=>?_) (fun c24=>?_)
       ·have hE:Dg.aE l=20:=Dg.cx hl26 hg (i:=i3.toNat - (10+(Dg.nOf l % 16).toNat)) (by rw [List.getElem?_drop,show 10+(Dg.nOf l % 16).toNat+(i3.toNat - (10+(Dg.nOf l % 16).toNat))=i3.toNat by omega];exact hx23) c24
        refine bC b_gv rfl fun wv6 s_wv6=>?_
        have b_gv:=s_wv6.blk
        refine⟨_,_,_,_,_,_,_,_,_,_,_,_,⟨b_gv.at rfl,b_gv.at rfl,b_gv.at rfl,b_gv.at rfl,b_gv.at rfl,b_gv.at rfl,b_gv.at rfl,b_gv.at rfl,b_gv.at rfl,b_gv.at rfl⟩,?_⟩
        have hp:=Ch.call hp s_wv6.ch (by exact fun k e=>.inr (e▸lo_gv))
        exact⟨fun _=>False,none,0,0,congrArg Value.tuple (kO (congrArg Value.agg (kP (congrArg (Value.int .u32) (by(rw [Dg.aD hE];rfl))) (congrArg (Value.int .u32) (by(rw [Dg.aD hE];rfl))) (congrArg (Value.int .u32) (by(rw [Dg.aD hE];rfl))) (congrArg (Value.int .u32) (by(rw [Dg.aD hE];rfl))) (congrArg (Value.int .u32) (by(rw [Dg.aD hE];rfl))) (congrArg (Value.int .u32) (by(rw [Dg.aD hE];rfl))) (congrArg (Value.int .u32) (by(rw [Dg.aD hE];rfl))) (congrArg (Value.int .u32) (by(rw [Dg.aD hE];rfl))) (by rfl) (congrArg (Value.int .i64) (by(rw [Dg.aD hE];rfl))))) (congrArg (Value.int .i64) (by exact hE.symm))),by rw [Dg.aD hE];exact Rd.nil,fun k h=>h.elim,hp⟩
       ·rintro _ rfl
        exact⟨_,by rw [IntKind.wrap_i64];omega,A8,N8,C8,wl2,rfl,by rw [IntKind.wrap_i64];omega,by rw [hv,af (by omega)];congr 1;omega,by rw [af (by omega)];intro i x hi hx;by_cases he:i+(10+(Dg.nOf l % 16).toNat)=i3.toNat;(rw [List.getElem?_drop,Nat.add_comm,he]at hx;simp_all);exact hq i x (by omega) hx,h_wl2,hp,hz,⟨_,b_gv⟩,⟨_,b_gv1⟩⟩
     ·have hE:Dg.aE l=0:=Dg.jW hl26 hg (fun i x hx=>hq i x (by have:=(List.getElem?_eq_some_iff.1 hx).1;rw [List.length_drop]at this;omega) hx)
      have hw2:wl2=(l.drop 10).take (Dg.nOf l % 16).toNat:=by rw [hv,Dg.wK (by omega) (by omega)]
      refine⟨_,_,_,_,_,_,_,_,_,_,_,_,⟨b_gv1.at rfl,b_gv1.at rfl,b_gv1.at rfl,b_gv1.at rfl,b_gv1.at rfl,b_gv1.at rfl,b_gv1.at rfl,b_gv1.at rfl,b_gv1.at rfl,b_gv1.at rfl⟩,bC b_gv rfl fun wv6 s_wv6=>?_⟩
      have b_gv:=s_wv6.blk
      refine⟨_,_,_,_,_,_,_,_,_,_,_,_,⟨b_gv.at rfl,b_gv.at rfl,b_gv.at rfl,b_gv.at rfl,b_gv.at rfl,b_gv.at rfl,b_gv.at rfl,b_gv.at rfl,b_gv.at rfl,b_gv.at rfl⟩,?_⟩
      have h_wl2:=h_wl2.ch s_wv6.ch (fun k hx e=>hx.2.1 e)
      have hp:=Ch.call hp s_wv6.ch (by exact fun k e=>.inr (e▸lo_gv))
      exact⟨_,_,_,_,congrArg Value.tuple (kO (congrArg Value.agg (kP (congrArg (Value.int .u32) (by(rw [Dg.bM hE];rfl))) (congrArg (Value.int .u32) (by(rw [Dg.bM hE];rfl))) (congrArg (Value.int .u32) (by(rw [Dg.bM hE];rfl))) (congrArg (Value.int .u32) (by(rw [Dg.bM hE];rfl))) (congrArg (Value.int .u32) (by(rw [Dg.bM hE];rfl))) (congrArg (Value.int .u32) (by(rw [Dg.bM hE];rfl))) (congrArg (Value.int .u32) (by(rw [Dg.bM hE];rfl))) (congrArg (Value.int .u32) (by(rw [Dg.bM hE];rfl))) (by rfl) (congrArg (Value.int .i64) (by(rw [Dg.bM hE];rfl))))) (congrArg (Value.int .i64) (by exact hE.symm))),by rw [Dg.bM hE];have h9:=(h_wl2).rd;rw [hw2]at h9;exact h9,by intro k h;exact h.1.1,hp⟩
end Go.Proofs.YtbjlecpmgocoeaaGreatDoor
end
section
set_option maxRecDepth 100000
set_option maxHeartbeats 1000000
namespace Go.Proofs.YtbjlecpmgocoeaaGreatDoor
open Go Go.RowKit V
open Go.IntKind (i64 u32 u64)
open Go.Proofs (Tryz.prog)
attribute [local grind=] Pd.cB Pd.bN Pd.jT Pd.kq Pd.dy Pd.cA Pd.eT Pd.gM Pd.mT
attribute [local grind .] Pd.Ok.ent
attribute [local grind→] Pd.Ok.dk
def oz:Ctr Un:=⟨[.one (.obj 0 0),.agg [.bool,.int .i64],.one (.int .i64)],[],[.ob 2 []],[],fun fa fb off rm m K=>K ⟨(.int .u32 (m.gD fa fb off)),none,[],[],[]⟩⟩
theorem EC:LV Un Tryz.prog 153 oz:=by
 show ∀(fa:Bool)(fb:Int)(off:Int)(rm:Nat→Nat)(m:Mem),∀Q:Ou Un→Prop,(Q ⟨(.int .u32 (m.gD fa fb off)),none,[],[],[]⟩)→∀(X:Nat→Nat→Prop)(w:World),Sat (U:=Un) [(.ob 2 rm m)] X w→aC (U:=Un) [(.ob 2 rm m)] fr0 []→Calls Tryz.prog 153 #[(.pointer (some (Addr.mk (rm 0) 0 none))),(.agg #[(.bool fa),(.int .i64 fb)]),(.int .i64 off)] w (aU (U:=Un) [(.ob 2 rm m)] [] X w Q)
 intro fa fb off rm m Q hQ X w hs hl
 obtain⟨L,hX,hM⟩:=(hs.res 0 _ rfl:bp 2 rm m (X 0) w)
 refine(HP hM fa fb off).mono ?_
 rintro e w' ⟨u,rfl,rfl,q⟩
 exact aU.pu hs q hQ trivial
def iB:Ctr Un:=⟨[.one (.int .i64)],[],[],[],fun p K=>K ⟨(.agg #[(.bool true),(.int .i64 p)]),none,[],[],[]⟩⟩
def Bi(p:Int)(Q:Ou Un→Prop):Prop:=
 ∀(gv:Nat),
 Q ⟨(.agg #[(.bool true),(.int .i64 p)]),none,[],[],[]⟩
theorem Bj:Vc2 Un Tryz.prog (aN []) [] Tryz.f154 .leaf [] iB=(∀p,∀Q,(iB.body p Q)→Bi p Q):=by kernel_rfl
theorem Bh:LV Un Tryz.prog 154 iB:=verify Tryz.func154 aa (tb:= []) trivial (by kernel_rfl) (Bj.mpr fun p Q h=>fun gv=>h)
def bG:Ctr Un:=⟨[.one (.obj 0 0),.one (.int .i64),.one (.int .i64)],[],[.ob 3 [(1,1,0)],.ob 2 []],[],fun p o r E rm m K=>E.n=m.S∧K ⟨(.int .u32 ((E.on m).word p o)),none,[],[],[]⟩⟩
def Ee(p:Int)(o:Int)(r:Nat→Nat)(E:Pd)(rm:Nat→Nat)(m:Mem)(Q:Ou Un→Prop):Prop:=
 Pd.Ok E→
 Mem.Wf m→
 Q ⟨(.int .u32 (m.gD true p o)),none,[],[],[]⟩
theorem Ef:Vc2 Un Tryz.prog (aN [(154,iB),(153,oz)]) [] Tryz.f143 (.r' (.two (.node [] none [] [(3,[0])] .leaf .leaf) .leaf)) [] bG=(∀p o r (E:Pd) rm (m:Mem),∀Q,(bG.body p o r E rm m Q)→Ee p o r E rm m Q):=by kernel_rfl
section
attribute [local grind=] DB.word
theorem fi:LV Un Tryz.prog 143 bG:=verify Tryz.func143 aa (tb:= [(154,iB),(153,oz)]) ⟨Bh,EC,trivial⟩ (by kernel_rfl) (Ef.mpr fun p o r E rm m Q h=>by
 obtain⟨hp0,h⟩:=h
 exact fun f1 f2=>eE h (by grind))
end
def du:Ctr Un:=⟨[.one (.obj 0 0),.one (.int .i64),.one (.int .i64),.one (.int .i64)],[],[.ob 3 [(1,1,0)],.ob 2 []],[],fun p lo hi r E rm m K=>E.n=m.S∧(0≤(lo:Int)∧(hi:Int)≤1024)∧K ⟨(.bool ((E.on m).zero p lo hi)),none,[],[],[]⟩⟩
def Ec(p:Int)(lo:Int)(hi:Int)(r:Nat→Nat)(E:Pd)(rm:Nat→Nat)(m:Mem)(Q:Ou Un→Prop):Prop:=
 Pd.Ok E→
 Mem.Wf m→
 ∀o:Int,o=lo→
 ∃I:Nat→Int→Prop,(∃m1,I m1 o)∧∀(m1:Nat)(_gv:Nat→Value)(o1:Int),I m1 o1→
 split (decide (o1<hi)) (
  E.n=m.S∧
  split (((E.on m).word p o1) !=0) (
   Q ⟨(.bool false),none,[],[],[]⟩) (
   ∀o2:Int,o2=(i64.wrap (o1+1))→
   ∃m2,m2<m1∧I m2 o2)) (
  Q ⟨(.bool true),none,[],[],[]⟩)
theorem Ed:Vc2 Un Tryz.prog (aN [(143,bG)]) [9] Tryz.f121 (.r' (.two (.r' (.two (.node [] (some ⟨[(9,(.one (.int .i64)))],[],[8,9]++upN 11 10,[]⟩) [] [] .leaf .leaf) .leaf)) .leaf)) [] du=(∀p lo hi r (E:Pd) rm (m:Mem),∀Q,(du.body p lo hi r E rm m Q)→Ec p lo hi r E rm m Q):=by kernel_rfl
section
attribute [local grind=] DB.zero
theorem lG:LV Un Tryz.prog 121 du:=verify Tryz.func121 aa (tb:= [(143,bG)]) ⟨fi,trivial⟩ (by kernel_rfl) (Ed.mpr fun p lo hi r E rm m Q h=>by
 obtain⟨hp0,hp1,h⟩:=h
 exact fun f1 f2=>allEq<| ⟨fun m1 o1=>(m1=(hi - o1).toNat)∧(lo≤o1)∧(eU (fun x=>(E.on m).word p x==0) lo o1=true),⟨_,rfl,(by omega),(dq (Int.le_refl _))⟩,fun m1 _ o1 ⟨hm,hi1,hz⟩=>au (fun c1=>aj ‹_› fun s3=>bh (fun c2=>aM h (by grind [bT])) fun c2=>allEq<| ⟨_,(by(have h9:=af (x:=o1+1) (by omega));omega),rfl,(by have h9:=af (x:=o1+1) (by omega);omega),(bI hz (by grind) (af (by omega)))⟩) fun c1=>aM h (cf.2 fun x a b=>cf.1 hz x a (by omega))⟩)
end
def fF:Ctr Un:=⟨[.one (.obj 0 0),.one (.int .i64),.one (.int .i64)],[],[.ob 3 [(1,1,0)],.ob 2 []],[],fun p t r E rm m K=>E.n=m.S∧K ⟨(.bool ((E.on m).is p t)),none,[],[],[]⟩⟩
def IL(p:Int)(t:Int)(r:Nat→Nat)(E:Pd)(rm:Nat→Nat)(m:Mem)(Q:Ou Un→Prop):Prop:=
 Pd.Ok E→
 Mem.Wf m→
 ∃J:Bool→Prop,(
  split (decide (p≥0)) (
   split (decide (p<((Pd.ai E).length:Int))) (
    (0≤p∧p<((Pd.ai E).length:Int))∧
    J (((Pd.ai E).getD p.toNat Ent.free).typ==t)) (
    J false)) (
   J false))∧∀(_gv:Nat→Value)(x6:Bool),J x6→
 Q ⟨(.bool x6),none,[],[],[]⟩
theorem IM:Vc2 Un Tryz.prog (aN []) [] Tryz.f122 (.r' (.two (.node [] (some ⟨[(6,(.one .bool))],[],upN 6 24,[]⟩) [] [] .leaf .leaf) .leaf)) [] fF=(∀p t r (E:Pd) rm (m:Mem),∀Q,(fF.body p t r E rm m Q)→IL p t r E rm m Q):=by kernel_rfl
section
attribute [local grind=] DB.is
theorem qj:LV Un Tryz.prog 122 fF:=verify Tryz.func122 aa (tb:= []) trivial (by kernel_rfl) (IM.mpr fun p t r E rm m Q h=>by
 obtain⟨hp0,h⟩:=h
 exact fun f1 f2=>aY ((decide ((p:Int)≥0)) && ((decide ((p:Int)<(((Pd.ai E).length:Nat):Int))) && ((((Pd.ai E).getD p.toNat Ent.free).typ:Int)==t))) (ab (fun c1=>ab (fun c2=>aj (by grind) fun s3=>(by grind)) fun c2=>(by grind)) fun c1=>(by grind))<| aM h (by grind))
end
def fE:Ctr Un:=⟨[.one (.obj 0 0),.one (.int .i64),.one (.int .i64),.one (.int .i64)],[],[.ob 3 [(1,1,0)],.ob 2 []],[],fun p t o r E rm m K=>E.n=m.S∧K ⟨(.bool ((E.on m).of p t o)),none,[],[],[]⟩⟩
def IJ(p:Int)(t:Int)(o:Int)(r:Nat→Nat)(E:Pd)(rm:Nat→Nat)(m:Mem)(Q:Ou Un→Prop):Prop:=
 Pd.Ok E→
 Mem.Wf m→
 ∃J:Bool→Prop,(
  E.n=m.S∧
  split ((E.on m).is p t) (
   (0≤p∧p<((Pd.ai E).length:Int))∧
   J (((Pd.ai E).getD p.toNat Ent.free).owner==o)) (
   J false))∧∀(_gv:Nat→Value)(x8:Bool),J x8→
 Q ⟨(.bool x8),none,[],[],[]⟩
theorem IK:Vc2 Un Tryz.prog (aN [(122,fF)]) [] Tryz.f145 (.r' (.two (.node [] (some ⟨[(8,(.one .bool))],[],upN 8 17,[]⟩) [] [] .leaf .leaf) .leaf)) [] fE=(∀p t o r (E:Pd) rm (m:Mem),∀Q,(fE.body p t o r E rm m Q)→IJ p t o r E rm m Q):=by kernel_rfl
section
attribute [local grind=] DB.of DB.is
theorem qi:LV Un Tryz.prog 145 fE:=verify Tryz.func145 aa (tb:= [(122,fF)]) ⟨qj,trivial⟩ (by kernel_rfl) (IK.mpr fun p t o r E rm m Q h=>by
 obtain⟨hp0,h⟩:=h
 exact fun f1 f2=>aY (((E.on m).is p t) && ((((Pd.ai E).getD p.toNat Ent.free).owner:Int)==o)) (aj ‹_› fun s3=>ab (fun c1=>aj (by grind) fun s4=>(by grind)) fun c1=>(by grind))<| aM h (by grind))
end
def iD:Ctr Un:=⟨[.one (.obj 0 0),.one (.int .i64)],[],[.ob 3 [(1,1,0)],.ob 2 []],[],fun p r E rm m K=>E.n=m.S∧(E.on m).has p=true∧K ⟨(.bool ((E.on m).alive p)),none,[],[],[]⟩⟩
def Bq(p:Int)(r:Nat→Nat)(E:Pd)(rm:Nat→Nat)(m:Mem)(Q:Ou Un→Prop):Prop:=
 Pd.Ok E→
 Mem.Wf m→
 (0≤p∧p<((Pd.ai E).length:Int))∧
 ∃J:Bool→Prop,(
  E.n=m.S∧
  split ((E.on m).is (((Pd.ai E).getD p.toNat Ent.free).owner) 1) (
   (0≤((Pd.ai E).getD p.toNat Ent.free).owner∧((Pd.ai E).getD p.toNat Ent.free).owner<((Pd.ai E).length:Int))∧
   J (((Pd.ai E).getD (Int.toNat (((Pd.ai E).getD p.toNat Ent.free).owner)) Ent.free).state !=3)) (
   J false))∧∀(_gv:Nat→Value)(x4:Bool),J x4→
 Q ⟨(.bool x4),none,[],[],[]⟩
theorem Br:Vc2 Un Tryz.prog (aN [(122,fF)]) [] Tryz.f127 (.r' (.r' (.two (.node [] (some ⟨[(4,(.one .bool))],[],[4]++upN 14 14,[]⟩) [] [] .leaf .leaf) .leaf))) [] iD=(∀p r (E:Pd) rm (m:Mem),∀Q,(iD.body p r E rm m Q)→Bq p r E rm m Q):=by kernel_rfl
section
attribute [local grind=] DB.alive DB.is
theorem Bp:LV Un Tryz.prog 127 iD:=verify Tryz.func127 aa (tb:= [(122,fF)]) ⟨qj,trivial⟩ (by kernel_rfl) (Br.mpr fun p r E rm m Q h=>by
 obtain⟨hp0,hp1,h⟩:=h
 exact fun f1 f2=>aj (by grind) fun s3=>aY (((E.on m).is (((Pd.ai E).getD p.toNat Ent.free).owner) 1) && ((((Pd.ai E).getD (Int.toNat (((Pd.ai E).getD p.toNat Ent.free).owner)) Ent.free).state:Int) !=3)) (aj ‹_› fun s4=>ab (fun c1=>aj (by grind) fun s5=>(by grind)) fun c1=>(by grind))<| aM h (by grind))
end
theorem cz {E:Pd} {m:Mem}(h:m.Wf)(p o:Int):0≤(E.on m).word p o∧(E.on m).word p o<4294967296:=by
 show 0≤m.gD true p o∧m.gD true p o<_
 unfold Mem.gD
 split
 ·exact h.1 _ _ _
 ·omega
def gp:Ctr Un:=⟨[.one (.obj 0 0),.one (.int .i64)],[],[.ob 3 [(1,1,0)],.ob 2 []],[],fun p r E rm m K=>E.n=m.S∧(E.on m).has p=true∧K ⟨(.bool ((E.on m).fq p)),none,[],[],[]⟩⟩
def yZ(p:Int)(r:Nat→Nat)(E:Pd)(rm:Nat→Nat)(m:Mem)(Q:Ou Un→Prop):Prop:=
 Pd.Ok E→
 Mem.Wf m→
 E.n=m.S∧
 ∃J:Bool→Prop,(
  split (decide ((i64.wrap ((E.on m).word p 1))≥(Pd.ay E))) (
   J true) (
   E.n=m.S∧
   J (decide (((E.on m).word p 2)>4096))))∧∀(_gv:Nat→Value)(x22:Bool),J x22→
 split x22 (
  Q ⟨(.bool false),none,[],[],[]⟩) (
  ∀q:Int,q=0→
  ∃I:Nat→Int→Prop,(∃m1,I m1 q)∧∀(m1:Nat)(_gv1:Nat→Value)(q1:Int),I m1 q1→
  split (decide (q1<p)) (
   ∃J1:Bool→Prop,(
    (0≤q1∧q1<((Pd.ai E).length:Int))∧
    split (((Pd.ai E).getD q1.toNat Ent.free).typ==1) (
     E.n=m.S∧
     J1 (((E.on m).word q1 1)==((E.on m).word p 1))) (
     J1 false))∧∀(_gv2:Nat→Value)(x43:Bool),J1 x43→
   split x43 (
    Q ⟨(.bool false),none,[],[],[]⟩) (
    ∀q2:Int,q2=(i64.wrap (q1+1))→
    ∃m2,m2<m1∧I m2 q2)) (
   Q ⟨(.bool true),none,[],[],[]⟩))
theorem y6:Vc2 Un Tryz.prog (aN [(143,bG)]) [6] Tryz.f124 (.r' (.r' (.two (.two (.node [] (some ⟨[(22,(.one .bool))],[],upN 10 13,[]⟩) [] [] .leaf .leaf) .leaf) (.two (.r' (.two (.node [] (some ⟨[(6,(.one (.int .i64)))],[],[4,6]++upN 23 21,[]⟩) [] [] (.r' (.two (.two (.two (.node [] (some ⟨[(43,(.one .bool))],[],upN 28 16,[]⟩) [] [] .leaf .leaf) .leaf) .leaf) .leaf)) .leaf) .leaf)) .leaf)))) [] gp=(∀p r (E:Pd) rm (m:Mem),∀Q,(gp.body p r E rm m Q)→yZ p r E rm m Q):=by kernel_rfl
section
attribute [local grind=] DB.fq Pd.nW
theorem yY:LV Un Tryz.prog 124 gp:=verify Tryz.func124 aa (tb:= [(143,bG)]) ⟨fi,trivial⟩ (by kernel_rfl) (y6.mpr fun p r E rm m Q h=>by
 obtain⟨hp0,hp1,h⟩:=h
 exact fun f1 f2=>(by(have hw:=fun a b=>af (x:=(E.on m).word a b) (by have:=cz (E:=E) f2 a b;omega));exact aj ‹_› fun s3=>aY ((decide ((i64.wrap ((E.on m).word p 1):Int)≥(Pd.ay E))) || (decide ((((E.on m).word p 2):Int)>4096))) (ab (fun c1=>(by grind)) fun c1=>aj ‹_› fun s4=>(by grind))<| aK (fun c2=>aM h (by grind)) fun c2=>allEq<| ⟨fun m1 q1=>(m1=(p - q1).toNat)∧(0≤q1∧q1≤p)∧(eU (fun z=>!(((E.on m).at_ z).typ==1 && (E.on m).word z 1==(E.on m).word p 1)) 0 q1=true),⟨_,rfl,(by grind),(dq (Int.le_refl _))⟩,fun m1 _ q1 ⟨hm,hi1,hz⟩=>au (fun c3=>aY (((((Pd.ai E).getD q1.toNat Ent.free).typ:Int)==1) && ((((E.on m).word q1 1):Int)==((E.on m).word p 1))) (aj (by grind) fun s5=>ab (fun c4=>aj ‹_› fun s6=>(by grind)) fun c4=>(by grind))<| bz (fun c5=>aM h (by rw [DB.fq,bT hi1.1 c3 (by grind)];simp)) fun c5=>allEq<| ⟨_,(by(have h9:=af (x:=q1+1) (by grind));grind),rfl,(by(have h9:=af (x:=q1+1) (by grind));grind),(bI hz (by grind) (af (by grind)))⟩) fun c3=>aM h (by(have hq:q1=p:=by omega);subst hq;rw [DB.fq,hz];grind)⟩))
end
def iC:Ctr Un:=⟨[.one (.obj 0 0),.one (.int .i64)],[],[.ob 3 [(1,1,0)],.ob 2 []],[],fun p r E rm m K=>E.n=m.S∧(E.on m).has p=true∧K ⟨(.bool ((E.on m).lZ p)),none,[],[],[]⟩⟩
def Bm(p:Int)(r:Nat→Nat)(E:Pd)(rm:Nat→Nat)(m:Mem)(Q:Ou Un→Prop):Prop:=
 Pd.Ok E→
 Mem.Wf m→
 (0≤p∧p<((Pd.ai E).length:Int))∧
 split (((Pd.ai E).getD p.toNat Ent.free).state==3) (
  Q ⟨(.bool true),none,[],[],[]⟩) (
  ∀n:Int,n=0→
  ∀q:Int,q=0→
  ∃I:Nat→Int→Int→Prop,(∃m1,I m1 n q)∧∀(m1:Nat)(_gv:Nat→Value)(n1:Int)(q1:Int),I m1 n1 q1→
  split (decide (q1<((Pd.ai E).length:Int))) (
   E.n=m.S∧
   split ((E.on m).of q1 3 p) (
    ∀n2:Int,n2=(i64.wrap (n1+1))→
    ∀q2:Int,q2=(i64.wrap (q1+1))→
    ∃m2,m2<m1∧I m2 n2 q2) (
    ∀q2:Int,q2=(i64.wrap (q1+1))→
    ∃m2,m2<m1∧I m2 n1 q2)) (
   E.n=m.S∧
   ∀t:Int,t=(i64.wrap ((E.on m).word p 0))→
   ∃J:Bool→Prop,(
    split (n1==1) (
     E.n=m.S∧
     J ((E.on m).of t 3 p)) (
     J false))∧∀(_gv1:Nat→Value)(x4:Bool),J x4→
   Q ⟨(.bool x4),none,[],[],[]⟩))
theorem Bn:Vc2 Un Tryz.prog (aN [(145,fE),(143,bG)]) [5,6,7] Tryz.f126 (.r' (.r' (.r' (.two (.r' (.two (.node [] (some ⟨[(5,(.one (.int .i64))),(6,(.one (.int .i64)))],[],[5,6]++upN 17 15,[]⟩) [] [] .leaf .leaf) .leaf)) (.r' (.two (.node [] (some ⟨[(4,(.one .bool))],[],[4]++upN 36 8,[]⟩) [] [] .leaf .leaf) .leaf)))))) [] iC=(∀p r (E:Pd) rm (m:Mem),∀Q,(iC.body p r E rm m Q)→Bm p r E rm m Q):=by kernel_rfl
section
attribute [local grind=] DB.lZ
theorem Bk:LV Un Tryz.prog 126 iC:=verify Tryz.func126 aa (tb:= [(145,fE),(143,bG)]) ⟨qi,fi,trivial⟩ (by kernel_rfl) (Bn.mpr fun p r E rm m Q h=>by
 obtain⟨hp0,hp1,h⟩:=h
 exact fun f1 f2=>(by(have hw:=fun a b=>af (x:=(E.on m).word a b) (by have:=cz (E:=E) f2 a b;omega));exact aj (by grind) fun s3=>aA (fun c1=>aM h (by grind)) fun c1=>allEq<| allEq<| ⟨fun m1 n1 q1=>(m1=((E.n:Int) - q1).toNat)∧(0≤q1∧q1≤(E.n:Int))∧(n1=dJ (fun z=>(E.on m).of z 3 p) q1),⟨_,rfl,(by omega),(by rfl)⟩,fun m1 _ n1 q1 ⟨hm,hi1,hz⟩=>au (fun c2=>aj ‹_› fun s4=>ab (fun c3=>allEq<| allEq<| ⟨_,(by(have h9:=af (x:=q1+1) (by grind));grind),rfl,(by(have h9:=af (x:=q1+1) (by grind));grind),(by(have h9:=af (x:=q1+1) (by grind));have h8:=cy (f:=fun z=>(E.on m).of z 3 p) hi1.1;have h7:=fD (f:=fun z=>(E.on m).of z 3 p) hi1.1;have h6:=dV (f:=fun z=>(E.on m).of z 3 p) (n:=q1);have h5:=af (x:=n1+1) (by grind);grind)⟩) fun c3=>allEq<| ⟨_,(by(have h9:=af (x:=q1+1) (by grind));grind),rfl,(by(have h9:=af (x:=q1+1) (by grind));grind),(by(have h9:=af (x:=q1+1) (by grind));have h8:=cy (f:=fun z=>(E.on m).of z 3 p) hi1.1;have h7:=fD (f:=fun z=>(E.on m).of z 3 p) hi1.1;have h6:=dV (f:=fun z=>(E.on m).of z 3 p) (n:=q1);have h5:=af (x:=n1+1) (by grind);grind)⟩) fun c2=>aj ‹_› fun s5=>allEq<| aY (((n1:Int)==1) && ((E.on m).of (i64.wrap ((E.on m).word p 0)) 3 p)) (ab (fun c4=>aj ‹_› fun s6=>(by grind)) fun c4=>(by grind))<| aM h (by(have hq:q1=(E.n:Int):=by grind);(grind [Pd.gi]))⟩))
end
def je:Ctr Un:=⟨[.one (.obj 0 0)],[],[.ob 2 []],[],fun rm m K=>K ⟨(.int .i64 (m.I:Int)),none,[],[],[]⟩⟩
theorem tk:LV Un Tryz.prog 148 je:=by
 show ∀(rm:Nat→Nat)(m:Mem),∀Q:Ou Un→Prop,(Q ⟨(.int .i64 (m.I:Int)),none,[],[],[]⟩)→∀(X:Nat→Nat→Prop)(w:World),Sat (U:=Un) [(.ob 2 rm m)] X w→aC (U:=Un) [(.ob 2 rm m)] fr0 []→Calls Tryz.prog 148 #[(.pointer (some (Addr.mk (rm 0) 0 none)))] w (aU (U:=Un) [(.ob 2 rm m)] [] X w Q)
 intro rm m Q hQ X w hs hl
 obtain⟨L,hX,hM⟩:=(hs.res 0 _ rfl:bp 2 rm m (X 0) w)
 refine(xh hM).mono ?_
 rintro e w' ⟨u,rfl,rfl,q⟩
 exact aU.pu hs q hQ trivial
def jz:Ctr Un:=⟨[.one (.obj 0 0),.one (.int .i64)],[],[.ob 3 [(1,1,0)],.ob 2 []],[],fun p r E rm m K=>E.n=m.S∧(E.on m).has p=true∧K ⟨(.bool ((E.on m).ko p)),none,[],[],[]⟩⟩
def Em(p:Int)(r:Nat→Nat)(E:Pd)(rm:Nat→Nat)(m:Mem)(Q:Ou Un→Prop):Prop:=
 Pd.Ok E→
 Mem.Wf m→
 ∀j:Int,j=0→
 ∃I:Nat→Int→Prop,(∃m1,I m1 j)∧∀(m1:Nat)(_gv:Nat→Value)(j1:Int),I m1 j1→
 split (decide (j1<1024)) (
  E.n=m.S∧
  split (((E.on m).word p j1)==0) (
   ∀j2:Int,j2=(i64.wrap (j1+1))→
   ∃m2,m2<m1∧I m2 j2) (
   (0≤((E.on m).word p j1)∧((E.on m).word p j1)<4294967296)∧
   ∀(gv1:Nat),
   split ((fz ((E.on m).word p j1)) !=0) (
    Q ⟨(.bool false),none,[],[],[]⟩) (
    split ((bE ((E.on m).word p j1)).bt) (
     (0≤p∧p<((Pd.ai E).length:Int))∧
     E.n=m.S∧
     split (!((E.on m).of ((bE ((E.on m).word p j1)).aq) 5 (((Pd.ai E).getD p.toNat Ent.free).owner))) (
      Q ⟨(.bool false),none,[],[],[]⟩) (
      ∀j2:Int,j2=(i64.wrap (j1+1))→
      ∃m2,m2<m1∧I m2 j2)) (
     split (decide ((bE ((E.on m).word p j1)).aq≥m.I)) (
      Q ⟨(.bool false),none,[],[],[]⟩) (
      ∀j2:Int,j2=(i64.wrap (j1+1))→
      ∃m2,m2<m1∧I m2 j2))))) (
  Q ⟨(.bool true),none,[],[],[]⟩)
theorem En:Vc2 Un Tryz.prog (aN [(143,bG),(147,bZ),(145,fE),(148,je)]) [5] Tryz.f129 (.r' (.two (.r' (.two (.node [] (some ⟨[(5,(.one (.int .i64)))],[],upN 4 45,[]⟩) [] [] (.r' (.two (.two (.r' (.r' (.r' (.r' (.r' (.two (.two (.node [] none [] [(2,[2]),(6,[0]),(10,[0])] .leaf .leaf) .leaf) (.two (.node [] none [] [(1,[2]),(5,[0])] .leaf .leaf) .leaf))))))) .leaf) .leaf)) .leaf) .leaf)) .leaf)) [] jz=(∀p r (E:Pd) rm (m:Mem),∀Q,(jz.body p r E rm m Q)→Em p r E rm m Q):=by kernel_rfl
theorem El:LV Un Tryz.prog 129 jz:=verify Tryz.func129 aa (tb:= [(143,bG),(147,bZ),(145,fE),(148,je)]) ⟨fi,jD,qi,tk,trivial⟩ (by kernel_rfl) (En.mpr fun p r E rm m Q h=>by
 obtain⟨hp0,hp1,h⟩:=h
 exact fun f1 f2=>allEq<| ⟨fun m1 j1=>(m1=(1024 - j1).toNat)∧(0≤j1∧j1≤1024)∧(eU ((E.on m).ij p) 0 j1=true),⟨_,rfl,(by omega),(dq (Int.le_refl _))⟩,fun m1 _ j1 ⟨hm,hi1,hz⟩=>au (fun c1=>aj ‹_› fun s3=>aA (fun c2=>allEq<| ⟨_,(by(have h9:=af (x:=j1+1) (by omega));omega),rfl,(by(have h9:=af (x:=j1+1) (by omega));omega),(bI hz (by(grind [DB.ij])) (af (by omega)))⟩) fun c2=>aj (cz f2 p j1) fun s4=>fun gv1=>bh (fun c3=>aM h (by rw [DB.ko,bT hi1.1 c1 (by(grind [DB.ij]))])) fun c3=>ab (fun c4=>aj (by grind) fun s5=>aj ‹_› fun s6=>aQ (fun c5=>aM h (by rw [DB.ko,bT hi1.1 c1 (by(grind [DB.ij]))])) fun c5=>allEq<| ⟨_,(by(have h9:=af (x:=j1+1) (by omega));omega),rfl,(by(have h9:=af (x:=j1+1) (by omega));omega),(bI hz (by(grind [DB.ij])) (af (by omega)))⟩) fun c4=>au (fun c6=>aM h (by rw [DB.ko,bT hi1.1 c1 (by(grind [DB.ij]))])) fun c6=>allEq<| ⟨_,(by(have h9:=af (x:=j1+1) (by omega));omega),rfl,(by(have h9:=af (x:=j1+1) (by omega));omega),(bI hz (by(grind [DB.ij])) (af (by omega)))⟩) fun c1=>aM h (by rw [DB.ko,← hz,show j1=1024 by omega])⟩)
theorem gO(D:DB)(p:Int) {n:Int}(h:0≤n):D.fX p (n+1)=D.fX p n+(if D.of n 4 (D.at_ p).owner then dJ (D.eF p n) 1024 else 0):=by
 unfold DB.fX
 rw [show(n+1).toNat=n.toNat+1 by omega,List.range_succ,List.map_append,List.sum_append]
 simp only [List.map_cons,List.map_nil,List.sum_cons,List.sum_nil,Int.add_zero,show((n.toNat:Nat):Int)=n by omega]
theorem iT(D:DB)(p:Int):∀n:Nat,0≤D.fX p (n:Int)∧D.fX p (n:Int)≤1024*(n:Int)
 | 0=>by simp [DB.fX]
 | n+1=>by
  have h:=iT D p n
  have h1:=gO D p (n:=(n:Int)) (by omega)
  have h2:=dV (f:=D.eF p (n:Int)) (n:=1024)
  have h3:=fD (f:=D.eF p (n:Int)) (n:=1024) (by omega)
  rw [show((n+1:Nat):Int)=(n:Int)+1 by omega,h1]
  split<;>omega
theorem n7(D:DB) {p q j:Int}(h:D.word q j=0):D.eF p q j=false:=by
 unfold DB.eF
 rw [h,show(fz 0==0)=false by decide,Bool.false_and]
def jy:Ctr Un:=⟨[.one (.obj 0 0),.one (.int .i64)],[],[.ob 3 [(1,1,0)],.ob 2 []],[],fun p r E rm m K=>E.n=m.S∧(E.on m).has p=true∧K ⟨(.bool ((E.on m).oI p)),none,[],[],[]⟩⟩
def Ej(p:Int)(r:Nat→Nat)(E:Pd)(rm:Nat→Nat)(m:Mem)(Q:Ou Un→Prop):Prop:=
 Pd.Ok E→
 Mem.Wf m→
 ∀n:Int,n=0→
 ∀q:Int,q=0→
 ∃I:Nat→Int→Int→Prop,(∃m1,I m1 n q)∧∀(m1:Nat)(_gv:Nat→Value)(n1:Int)(q1:Int),I m1 n1 q1→
 split (decide (q1<((Pd.ai E).length:Int))) (
  (0≤p∧p<((Pd.ai E).length:Int))∧
  E.n=m.S∧
  split (!((E.on m).of q1 4 (((Pd.ai E).getD p.toNat Ent.free).owner))) (
   ∀q2:Int,q2=(i64.wrap (q1+1))→
   ∃m2,m2<m1∧I m2 n1 q2) (
   ∀j:Int,j=0→
   ∃I1:Nat→Int→Int→Prop,(∃m3,I1 m3 n1 j)∧∀(m3:Nat)(_gv1:Nat→Value)(n2:Int)(j1:Int),I1 m3 n2 j1→
   split (decide (j1<1024)) (
    E.n=m.S∧
    split (((E.on m).word q1 j1)==0) (
     ∀j2:Int,j2=(i64.wrap (j1+1))→
     ∃m4,m4<m3∧I1 m4 n2 j2) (
     (0≤((E.on m).word q1 j1)∧((E.on m).word q1 j1)<4294967296)∧
     ∀(gv2:Nat),
     ∃J:Bool→Prop,(
      split ((fz ((E.on m).word q1 j1))==0) (
       split ((bE ((E.on m).word q1 j1)).bt) (
        J ((bE ((E.on m).word q1 j1)).aq==p)) (
        J false)) (
       J false))∧∀(_gv3:Nat→Value)(x58:Bool),J x58→
     split x58 (
      ∀n3:Int,n3=(i64.wrap (n2+1))→
      ∀j2:Int,j2=(i64.wrap (j1+1))→
      ∃m4,m4<m3∧I1 m4 n3 j2) (
      ∀j2:Int,j2=(i64.wrap (j1+1))→
      ∃m4,m4<m3∧I1 m4 n2 j2))) (
    ∀q2:Int,q2=(i64.wrap (q1+1))→
    ∃m2,m2<m1∧I m2 n2 q2))) (
  Q ⟨(.bool (n1==1)),none,[],[],[]⟩)
theorem Ek:Vc2 Un Tryz.prog (aN [(145,fE),(143,bG),(147,bZ)]) [5,6,7] Tryz.f130 (.r' (.r' (.two (.r' (.two (.node [] (some ⟨[(5,(.one (.int .i64))),(6,(.one (.int .i64)))],[],upN 5 56,[]⟩) [] [] (.r' (.two (.two (.r' (.r' (.two (.node [] (some ⟨[(5,(.one (.int .i64))),(7,(.one (.int .i64)))],[],[5,7,8,9,10]++upN 32 29,[]⟩) [] [] (.r' (.two (.two (.r' (.r' (.r' (.two (.node [] (some ⟨[(58,(.one .bool))],[],upN 47 12,[]⟩) [] [] .leaf .leaf) .leaf)))) .leaf) .leaf)) .leaf) .leaf))) .leaf) .leaf)) .leaf) .leaf)) .leaf))) [] jy=(∀p r (E:Pd) rm (m:Mem),∀Q,(jy.body p r E rm m Q)→Ej p r E rm m Q):=by kernel_rfl
theorem Ei:LV Un Tryz.prog 130 jy:=verify Tryz.func130 aa (tb:= [(145,fE),(143,bG),(147,bZ)]) ⟨qi,fi,jD,trivial⟩ (by kernel_rfl) (Ek.mpr fun p r E rm m Q h=>by
 obtain⟨hp0,hp1,h⟩:=h
 exact fun f1 f2=>allEq<| allEq<| ⟨fun m1 n1 q1=>(m1=((E.n:Int) - q1).toNat)∧(0≤q1∧q1≤(E.n:Int))∧(n1=(E.on m).fX p q1),⟨_,rfl,(by omega),(by rfl)⟩,fun m1 _ n1 q1 ⟨hm,hi1,hz⟩=>au (fun c1=>aj (by grind) fun s3=>aj ‹_› fun s4=>aQ (fun c2=>allEq<| ⟨_,(by(have h9:=af (x:=q1+1) (by grind));grind),rfl,(by(have h9:=af (x:=q1+1) (by grind));grind),(by(have h9:=af (x:=q1+1) (by grind));have h8:=gO (E.on m) p hi1.1;(grind))⟩) fun c2=>allEq<| ⟨fun m3 n2 j1=>(m3=(1024 - j1).toNat)∧(0≤j1∧j1≤1024)∧(n2=(E.on m).fX p q1+dJ ((E.on m).eF p q1) j1),⟨_,rfl,(by omega),(by rw [hz,uh,Int.add_zero])⟩,fun m3 _ n2 j1 ⟨hm,hj,hn⟩=>au (fun c3=>aj ‹_› fun s5=>aA (fun c4=>allEq<| ⟨_,(by(have h9:=af (x:=j1+1) (by omega));omega),rfl,(by(have h9:=af (x:=j1+1) (by omega));omega),(by(have h9:=af (x:=j1+1) (by omega));have h8:=cy (f:=(E.on m).eF p q1) hj.1;have h7:=fD (f:=(E.on m).eF p q1) hj.1;have h6:=dV (f:=(E.on m).eF p q1) (n:=j1);have h5:=iT (E.on m) p q1.toNat;rw [Int.toNat_of_nonneg hi1.1]at h5;have h4:=f1.dk;have h3:=af (x:=n2+1) (by omega);have h2:=n7 (E.on m) (p:=p) (q:=q1) (j:=j1);(grind))⟩) fun c4=>aj (cz f2 q1 j1) fun s6=>fun gv2=>aY ((((fz ((E.on m).word q1 j1)):Int)==0) && (((bE ((E.on m).word q1 j1)).bt) && (((bE ((E.on m).word q1 j1)).aq:Int)==p))) (ab (fun c5=>ab (fun c6=>(by grind)) fun c6=>(by grind)) fun c5=>(by grind))<| bz (fun c7=>allEq<| allEq<| ⟨_,(by(have h9:=af (x:=j1+1) (by omega));omega),rfl,(by(have h9:=af (x:=j1+1) (by omega));omega),(by(have h9:=af (x:=j1+1) (by omega));have h8:=cy (f:=(E.on m).eF p q1) hj.1;have h7:=fD (f:=(E.on m).eF p q1) hj.1;have h6:=dV (f:=(E.on m).eF p q1) (n:=j1);have h5:=iT (E.on m) p q1.toNat;rw [Int.toNat_of_nonneg hi1.1]at h5;have h4:=f1.dk;have h3:=af (x:=n2+1) (by omega);have h2:=n7 (E.on m) (p:=p) (q:=q1) (j:=j1);(grind [DB.eF]))⟩) fun c7=>allEq<| ⟨_,(by(have h9:=af (x:=j1+1) (by omega));omega),rfl,(by(have h9:=af (x:=j1+1) (by omega));omega),(by(have h9:=af (x:=j1+1) (by omega));have h8:=cy (f:=(E.on m).eF p q1) hj.1;have h7:=fD (f:=(E.on m).eF p q1) hj.1;have h6:=dV (f:=(E.on m).eF p q1) (n:=j1);have h5:=iT (E.on m) p q1.toNat;rw [Int.toNat_of_nonneg hi1.1]at h5;have h4:=f1.dk;have h3:=af (x:=n2+1) (by omega);have h2:=n7 (E.on m) (p:=p) (q:=q1) (j:=j1);(grind [DB.eF]))⟩) fun c3=>allEq<| ⟨_,(by(have h9:=af (x:=q1+1) (by grind));grind),rfl,(by(have h9:=af (x:=q1+1) (by grind));grind),(by(have h9:=af (x:=q1+1) (by grind));have h8:=gO (E.on m) p hi1.1;(grind))⟩⟩) fun c1=>aM h (by rw [DB.oI,hz,show q1=((E.on m).S:Int)by(grind [Pd.gi])])⟩)
structure pY(D:DB)(p:Int)(l:List I64)(n:Int):Prop where
 len:l.length=D.S
 val:∀q:Int,0≤q→q<(D.S:Int)→(l.getD q.toNat (I64.mk 0)).v=D.named p n q
theorem ig(D:DB)(p q:Int) {n:Int}(h:0≤n):D.named p (n+1) q=D.named p n q+(if D.word p n !=0 && aP (D.word p n)==q then 1 else 0):=cy h
theorem pY.zero(D:DB)(p:Int)(n:Nat)(h:n=D.S):pY D p (List.replicate n (I64.mk 0)) 0:=
 ⟨by simp [h],fun q h1 h2=>by rw [List.getD_eq_getElem?_getD,List.getElem?_replicate,if_pos (by omega)];rfl⟩
theorem pY.skip {D:DB} {p n:Int} {l:List I64}(h:pY D p l n)(h0:0≤n)(hw:D.word p n=0):pY D p l (n+1):=
 ⟨h.len,fun q h1 h2=>by rw [h.val q h1 h2,ig D p q h0,hw];simp⟩
theorem pY.put {D:DB} {p n:Int} {l:List I64}(h:pY D p l n)(h0:0≤n∧n<256)(hw:¬D.word p n=0)(hp:0≤aP (D.word p n)∧aP (D.word p n)<(D.S:Int)):
 pY D p (l.set (aP (D.word p n)).toNat (I64.mk (i64.wrap ((l.getD (aP (D.word p n)).toNat (I64.mk 0)).v+1)))) (n+1):=by
 refine⟨by simp [h.len],fun q h1 h2=>?_⟩
 have hr:=fD (f:=fun i=>D.word p i !=0 && aP (D.word p i)==aP (D.word p n)) h0.1
 have hr2:=dV (f:=fun i=>D.word p i !=0 && aP (D.word p i)==aP (D.word p n)) (n:=n)
 have hv:=h.val _ hp.1 hp.2
 rw [ig D p q h0.1,List.getD_eq_getElem?_getD,List.getElem?_set]
 by_cases hq:aP (D.word p n)=q
 ·subst hq
  rw [if_pos rfl,if_pos (by rw [h.len];omega)]
  show i64.wrap _=_
  rw [hv]
  unfold DB.named at *
  rw [af (by omega)]
  simp [hw]
 ·rw [if_neg (by omega),← List.getD_eq_getElem?_getD,h.val q h1 h2]
  simp [hq]
def iA:Ctr Un:=⟨[.one (.obj 0 0),.one (.int .i64)],[],[.ob 3 [(1,1,0)],.ob 2 []],[],fun p r E rm m K=>E.n=m.S∧(E.on m).has p=true∧K ⟨(.bool ((E.on m).fp p)),none,[],[],[]⟩⟩
def Bc(p:Int)(r:Nat→Nat)(E:Pd)(rm:Nat→Nat)(m:Mem)(Q:Ou Un→Prop):Prop:=
 Pd.Ok E→
 Mem.Wf m→
 E.n=m.S∧
 (0≤(256:Int)∧(1024:Int)≤1024)∧
 split (!((E.on m).zero p 256 1024)) (
  Q ⟨(.bool false),none,[],[],[]⟩) (
  (0≤p∧p<((Pd.ai E).length:Int))∧
  (((Pd.ai E).length:Int)=((Pd.ai E).length:Int)∧0≤((Pd.ai E).length:Int)∧8*((Pd.ai E).length:Int)≤281474976710656)∧
  ∀(gv:Nat),
  ∀(l:List I64),l=(List.replicate (Int.toNat (((Pd.ai E).length:Nat):Int)) (I64.mk 0:I64))→
  ∀i:Int,i=0→
  ∃I:Nat→Int→Option Addr→Nat→List I64→Prop,(∃m1,I m1 i (some (Addr.mk gv 0 none)) (Int.toNat (((Pd.ai E).length:Nat):Int)) l)∧∀(m1:Nat)(_gv1:Nat→Value)(i1:Int)(A2:Option Addr)(c2:Nat)(l2:List I64),I m1 i1 A2 c2 l2→
  split (decide (i1<256)) (
   E.n=m.S∧
   split (((E.on m).word p i1)==0) (
    ∀i2:Int,i2=(i64.wrap (i1+1))→
    ∃m2,m2<m1∧I m2 i2 A2 c2 l2) (
    (0≤((E.on m).word p i1)∧((E.on m).word p i1)<4294967296)∧
    ∃J:Bool→Prop,(
     split ((ia ((E.on m).word p i1)) !=0) (
      J true) (
      E.n=m.S∧
      J (!((E.on m).of (aP ((E.on m).word p i1)) 4 (((Pd.ai E).getD p.toNat Ent.free).owner)))))∧∀(_gv2:Nat→Value)(x53:Bool),J x53→
    split x53 (
     Q ⟨(.bool false),none,[],[],[]⟩) (
     (0≤(aP ((E.on m).word p i1))∧(aP ((E.on m).word p i1))<(l2.length:Int))∧
     (0≤(aP ((E.on m).word p i1))∧(aP ((E.on m).word p i1))<(l2.length:Int))∧
     ∀(l1:List I64),l1=(l2.set (Int.toNat (aP ((E.on m).word p i1))) (I64.mk (i64.wrap (((l2.getD (Int.toNat (aP ((E.on m).word p i1))) (I64.mk 0)).v)+1))))→
     ∀i2:Int,i2=(i64.wrap (i1+1))→
     ∃m2,m2<m1∧I m2 i2 A2 c2 l1))) (
   ∀q:Int,q=0→
   ∃I1:Nat→Int→Prop,(∃m3,I1 m3 q)∧∀(m3:Nat)(_gv2:Nat→Value)(q1:Int),I1 m3 q1→
   split (decide (q1<((Pd.ai E).length:Int))) (
    ∃J:Bool→Prop,(
     (0≤q1∧q1<(l2.length:Int))∧
     split (decide ((l2.getD q1.toNat (I64.mk 0)).v>1)) (
      J true) (
      E.n=m.S∧
      split ((E.on m).of q1 4 (((Pd.ai E).getD p.toNat Ent.free).owner)) (
       (0≤q1∧q1<(l2.length:Int))∧
       J ((l2.getD q1.toNat (I64.mk 0)).v==0)) (
       J false)))∧∀(_gv3:Nat→Value)(x86:Bool),J x86→
    split x86 (
     Q ⟨(.bool false),none,[],[],[]⟩) (
     ∀q2:Int,q2=(i64.wrap (q1+1))→
     ∃m4,m4<m3∧I1 m4 q2)) (
    Q ⟨(.bool true),none,[],[],[]⟩)))
theorem Bd:Vc2 Un Tryz.prog (aN [(121,du),(143,bG),(146,dL),(145,fE)]) [7,11] Tryz.f128 (.r' (.r' (.r' (.r' (.two (.r' (.two (.node [] (some ⟨[(7,(.one (.int .i64)))],[(6,(.p (.sl 2 0)))],[4,7,8,9,10]++upN 30 30,[(2,(.lst 0))]⟩) [] [] (.r' (.two (.two (.r' (.r' (.r' (.two (.two (.node [] (some ⟨[(53,(.one .bool))],[],upN 45 9,[]⟩) [] [] .leaf .leaf) .leaf) .leaf)))) .leaf) .leaf)) .leaf) .leaf)) (.two (.r' (.two (.node [] (some ⟨[(11,(.one (.int .i64)))],[],[4,11]++upN 60 27,[]⟩) [] [] (.r' (.two (.two (.two (.node [] (some ⟨[(86,(.one .bool))],[],upN 69 18,[]⟩) [] [] .leaf .leaf) .leaf) .leaf) .leaf)) .leaf) .leaf)) .leaf)))))) [] iA=(∀p r (E:Pd) rm (m:Mem),∀Q,(iA.body p r E rm m Q)→Bc p r E rm m Q):=by kernel_rfl
section
attribute [local grind=] DB.of DB.is
theorem Bb:LV Un Tryz.prog 128 iA:=verify Tryz.func128 aa (tb:= [(121,du),(143,bG),(146,dL),(145,fE)]) ⟨lG,fi,pT,qi,trivial⟩ (by kernel_rfl) (Bd.mpr fun p r E rm m Q h=>by
 obtain⟨hp0,hp1,h⟩:=h
 exact fun f1 f2=>(by(have hw:=fun a b=>af (x:=(E.on m).word a b) (by have:=cz (E:=E) f2 a b;omega));exact aj ‹_› fun s3=>aj (by omega) fun s4=>aQ (fun c1=>aM h (by rw [DB.fp,c1];rfl)) fun c1=>aj (by grind) fun s5=>aj (by grind) fun s6=>fun gv=>fun l h_l=>allEq<| ⟨fun m1 i1 A2 c2 l2=>(m1=(256 - i1).toNat)∧(0≤i1∧i1≤256)∧(pY (E.on m) p l2 i1)∧(eU ((E.on m).fM p) 0 i1=true),⟨_,rfl,(by omega),(by rw [h_l];exact pY.zero _ _ _ (by rw [Int.toNat_natCast,Pd.cB];exact hp0)),(dq (Int.le_refl _))⟩,fun m1 _ i1 A2 c2 l2 ⟨hm,hi1,hc,hz⟩=>au (fun c2=>aj ‹_› fun s7=>aA (fun c3=>allEq<| ⟨_,(by(have h9:=af (x:=i1+1) (by omega));omega),rfl,(by(have h9:=af (x:=i1+1) (by omega));omega),(by rw [af (x:=i1+1) (by omega)];exact hc.skip hi1.1 ‹_›),(bI hz (by(grind [DB.fM])) (af (by omega)))⟩) fun c3=>aj (cz f2 p i1) fun s8=>aY ((((ia ((E.on m).word p i1)):Int) !=0) || (!((E.on m).of (aP ((E.on m).word p i1)) 4 (((Pd.ai E).getD p.toNat Ent.free).owner)))) (ab (fun c4=>(by grind)) fun c4=>aj ‹_› fun s9=>(by grind))<| aK (fun c5=>aM h (by(have hb:(E.on m).fM p i1=false:=by(grind [DB.fM]));rw [DB.fp,bT hi1.1 c2 hb];simp)) fun c5=>aj (by(grind [Pd.gi,pY.len])) fun s10=>aj (by(grind)) fun s11=>fun l1 h_l1=>allEq<| ⟨_,(by(have h9:=af (x:=i1+1) (by omega));omega),rfl,(by(have h9:=af (x:=i1+1) (by omega));omega),(by rw [af (x:=i1+1) (by omega)];(rw [h_l1];exact hc.put ⟨hi1.1,by omega⟩ ‹_› (by(grind [Pd.gi])))),(bI hz (by(grind [DB.fM])) (af (by omega)))⟩) fun c2=>allEq<| ⟨fun m3 q1=>(m3=((E.n:Int) - q1).toNat)∧(0≤q1∧q1≤(E.n:Int))∧(eU (fun z=>!(decide ((E.on m).named p 256 z>1) || ((E.on m).of z 4 ((E.on m).at_ p).owner && (E.on m).named p 256 z==0))) 0 q1=true),⟨_,rfl,(by omega),(dq (Int.le_refl _))⟩,fun m3 _ q1 ⟨hm,hq1,hx⟩=>au (fun c6=>aY ((decide (((l2.getD q1.toNat (I64.mk 0)).v:Int)>1)) || (((E.on m).of q1 4 (((Pd.ai E).getD p.toNat Ent.free).owner)) && (((l2.getD q1.toNat (I64.mk 0)).v:Int)==0))) (aj (by(grind [Pd.gi,pY.len])) fun s12=>ab (fun c7=>(by grind)) fun c7=>aj ‹_› fun s13=>ab (fun c8=>aj (by(grind)) fun s14=>(by grind)) fun c8=>(by grind))<| aK (fun c9=>aM h (by(have hv:=hc.val q1 hq1.1 (by(grind [Pd.gi])));rw [show i1=256 by omega]at hv;(have hb:eU (fun z=>!(decide ((E.on m).named p 256 z>1) || ((E.on m).of z 4 ((E.on m).at_ p).owner && (E.on m).named p 256 z==0))) 0 ((E.on m).S:Int)=false:=bT hq1.1 (by(grind [Pd.gi])) (by grind));rw [DB.fp,hb];simp)) fun c9=>allEq<| ⟨_,(by(have h9:=af (x:=q1+1) (by grind));grind),rfl,(by(have h9:=af (x:=q1+1) (by grind));grind),(by(have hv:=hc.val q1 hq1.1 (by(grind [Pd.gi])));rw [show i1=256 by omega]at hv;exact bI hx (by grind) (af (by grind)))⟩) fun c6=>aM h (by rw [DB.fp,c1,← show i1=256 by omega,hz,show((E.on m).S:Int)=q1 by(grind [Pd.gi]),show i1=256 by omega,hx];rfl)⟩⟩))
end
def oB:Ctr Un:=⟨[.one (.sl 0)],[],[.lst 1 false 22],[],fun A c l K=>((∀x∈l,0≤x.v∧x.v<4294967296))∧∀(d0:Int)(d1:Int)(d2:Int)(d3:Int)(d4:Int)(d5:Int)(d6:Int)(d7:Int)(dA:Option Addr)(dN:Nat)(dC:Nat)(dn:Int),K ⟨(.tuple #[(.agg #[(.int .u32 d0),(.int .u32 d1),(.int .u32 d2),(.int .u32 d3),(.int .u32 d4),(.int .u32 d5),(.int .u32 d6),(.int .u32 d7),(.slice dA dN dC),(.int .i64 dn)]),(.int .i64 (Dg.aE l))]),(some (.t [none,none])),[],[],[]⟩⟩
theorem EG:LV Un Tryz.prog 144 oB:=by
 show ∀(A:Option Addr)(c:Nat)(l:List U32),∀Q:Ou Un→Prop,(((∀x∈l,0≤x.v∧x.v<4294967296))∧∀(d0:Int)(d1:Int)(d2:Int)(d3:Int)(d4:Int)(d5:Int)(d6:Int)(d7:Int)(dA:Option Addr)(dN:Nat)(dC:Nat)(dn:Int),Q ⟨(.tuple #[(.agg #[(.int .u32 d0),(.int .u32 d1),(.int .u32 d2),(.int .u32 d3),(.int .u32 d4),(.int .u32 d5),(.int .u32 d6),(.int .u32 d7),(.slice dA dN dC),(.int .i64 dn)]),(.int .i64 (Dg.aE l))]),(some (.t [none,none])),[],[],[]⟩)→∀(X:Nat→Nat→Prop)(w:World),Sat (U:=Un) [(.lst 1 false 22 A c l)] X w→aC (U:=Un) [(.lst 1 false 22 A c l)] fr0 []→Calls Tryz.prog 144 #[(.slice A l.length c)] w (aU (U:=Un) [(.lst 1 false 22 A c l)] [] X w Q)
 intro A c l Q hQ X w hs hl
 obtain⟨hw,hQ⟩:=hQ
 have hr:Rd w (X 0) A l.length c l:=hs.res 0 _ rfl
 refine(HR hr hw).mono ?_
 rintro e w' ⟨u,rfl,Z',A',N',C',rfl,hrest⟩
 exact aU.pu hs hrest.2.2 (hQ ..) (KnO.tup _ (by simp))
theorem wM(D:DB)(p lo:Int)(n:Nat):(D.some_ p lo n).length=n:=by simp [DB.some_]
theorem tI(D:DB)(p lo:Int) {i:Int}(h:0≤i∧i<1024)(hl:0≤lo∧lo<1024):D.some_ p lo i.toNat++ [U32.mk (D.word p (i64.wrap (lo+i)))]=D.some_ p lo (i64.wrap (i+1)).toNat:=by
 rw [af (x:=lo+i) (by omega),af (x:=i+1) (by omega),show(i+1).toNat=i.toNat+1 by omega]
 simp only [DB.some_,List.range_succ,List.map_append,List.map_cons,List.map_nil,show((i.toNat:Nat):Int)=i by omega]
theorem mP {E:Pd} {m:Mem}(h:m.Wf)(p lo:Int)(n:Nat):∀x∈(E.on m).some_ p lo n,0≤x.v∧x.v<4294967296:=by
 intro x hx
 obtain⟨i,_,rfl⟩:=List.mem_map.1 hx
 exact cz h p _
def iz:Ctr Un:=⟨[.one (.obj 0 0),.one (.int .i64)],[],[.ob 3 [(1,1,0)],.ob 2 []],[],fun p r E rm m K=>E.n=m.S∧(E.on m).has p=true∧K ⟨(.bool ((E.on m).lY p)),none,[],[],[]⟩⟩
def A7(p:Int)(r:Nat→Nat)(E:Pd)(rm:Nat→Nat)(m:Mem)(Q:Ou Un→Prop):Prop:=
 Pd.Ok E→
 Mem.Wf m→
 E.n=m.S∧
 (0≤(37:Int)∧(1024:Int)≤1024)∧
 split (!((E.on m).zero p 37 1024)) (
  Q ⟨(.bool false),none,[],[],[]⟩) (
  ∀i:Int,i=0→
  ∃I:Nat→Int→Option Addr→Nat→List U32→Prop,(∃m1,I m1 i none 0 ([]:List U32))∧∀(m1:Nat)(_gv:Nat→Value)(i1:Int)(A2:Option Addr)(c2:Nat)(l2:List U32),I m1 i1 A2 c2 l2→
  split (decide (i1<26)) (
   E.n=m.S∧
   ∀(gv1:Nat),
   ∀(l:List U32),l=([U32.mk ((E.on m).word p (i64.wrap (11+i1)))]:List U32)→
   ((l2.length+l.length)*4≤140737488355328)∧
   ∀(A:Option Addr)(c:Nat),
   ∀(l1:List U32),l1=(l2++l)→
   ∀i2:Int,i2=(i64.wrap (i1+1))→
   ∃m2,m2<m1∧I m2 i2 A c l1) (
   ((∀x∈l2,0≤x.v∧x.v<4294967296))∧
   ∀(d0:Int)(d1:Int)(d2:Int)(d3:Int)(d4:Int)(d5:Int)(d6:Int)(d7:Int)(dA:Option Addr)(dN:Nat)(dC:Nat)(dn:Int),
   ∀(gv1:Nat),
   ∃J:Bool→Prop,(
    split ((Dg.aE l2)==0) (
     E.n=m.S∧
     (0≤(3:Int)∧(11:Int)≤1024)∧
     ∀init:Bool,init=((E.on m).zero p 3 11)→
     J init) (
     ∀init:Bool,init=false→
     J init))∧∀(_gv2:Nat→Value)(init:Bool),J init→
   E.n=m.S∧
   (0≤(11:Int)∧(37:Int)≤1024)∧
   (0≤p∧p<((Pd.ai E).length:Int))∧
   ∀x50:Bool,x50=((((Pd.ai E).getD p.toNat Ent.free).state:Int)==1)→
   split x50 (
    Q ⟨(.bool init),none,[],[],[]⟩) (
    ∀x53:Bool,x53=((((Pd.ai E).getD p.toNat Ent.free).state:Int)==2)→
    split x53 (
     Q ⟨(.bool ((E.on m).zero p 11 37)),none,[],[],[]⟩) (
     ∃J1:Bool→Prop,(
      split init (
       J1 true) (
       J1 ((E.on m).zero p 11 37)))∧∀(_gv3:Nat→Value)(x4:Bool),J1 x4→
     Q ⟨(.bool x4),none,[],[],[]⟩))))
theorem Ba:Vc2 Un Tryz.prog (aN [(121,du),(143,bG),(144,oB)]) [5,6,9,50,53] Tryz.f125 (.r' (.r' (.r' (.two (.r' (.two (.node [(.s 5,1,22)] (some ⟨[(6,(.one (.int .i64)))],[(5,(.p (.sl 2 0)))],[5,6]++upN 15 12,[(2,(.lst 1))]⟩) [] [] .leaf .leaf) .leaf)) (.r' (.two (.node [] (some ⟨[(9,(.one .bool))],[],[9]++upN 32 7,[]⟩) [] [] .leaf .leaf) (.r' (.r' (.two (.node [] (some ⟨[(4,(.one .bool))],[],[4,56,57,58,59],[]⟩) [] [] .leaf .leaf) .leaf))))))))) [] iz=(∀p r (E:Pd) rm (m:Mem),∀Q,(iz.body p r E rm m Q)→A7 p r E rm m Q):=by kernel_rfl
section
attribute [local grind=] DB.lY DB.Cc
theorem A6:LV Un Tryz.prog 125 iz:=verify Tryz.func125 aa (tb:= [(121,du),(143,bG),(144,oB)]) ⟨lG,fi,EG,trivial⟩ (by kernel_rfl) (Ba.mpr fun p r E rm m Q h=>by
 obtain⟨hp0,hp1,h⟩:=h
 exact fun f1 f2=>(by(have hw:=fun a b=>af (x:=(E.on m).word a b) (by have:=cz (E:=E) f2 a b;omega));exact aj ‹_› fun s3=>aj (by omega) fun s4=>aQ (fun c1=>aM h (by grind)) fun c1=>allEq<| ⟨fun m1 i1 A2 c2 l2=>(m1=(26 - i1).toNat)∧(0≤i1∧i1≤26)∧(l2=(E.on m).some_ p 11 i1.toNat),⟨_,rfl,(by omega),(by rfl)⟩,fun m1 _ i1 A2 c2 l2 ⟨hm,hi1,hz⟩=>au (fun c2=>aj ‹_› fun s5=>fun gv1=>fun l h_l=>aj (by(have h8:=wM (E.on m) p 11 i1.toNat);rw [h_l,hz,h8];simp;omega) fun s6=>fun A c=>fun l1 h_l1=>allEq<| ⟨_,(by(have h9:=af (x:=i1+1) (by omega));omega),rfl,(by(have h9:=af (x:=i1+1) (by omega));omega),(by rw [h_l1,h_l,hz];exact tI _ _ _ (by omega) (by omega))⟩) fun c2=>aj (by rw [hz];exact mP f2 _ _ _) fun s7=>fun d0 d1 d2 d3 d4 d5 d6 d7 dA dN dC dn=>fun gv1=>aY ((((Dg.aE l2):Int)==0) && ((E.on m).zero p 3 11)) (ab (fun c3=>aj ‹_› fun s8=>aj (by omega) fun s9=>allEq<| (by grind)) fun c3=>allEq<| (by grind))<| aj ‹_› fun s10=>aj (by omega) fun s11=>aj (by grind) fun s12=>allEq<| aA (fun c4=>aM h (by(have hl:l2=(E.on m).some_ p 11 26:=by rw [hz,show i1=26 by omega];rfl);grind)) fun c4=>allEq<| aA (fun c5=>aM h (by(have hl:l2=(E.on m).some_ p 11 26:=by rw [hz,show i1=26 by omega];rfl);grind)) fun c5=>aY (((((Dg.aE l2):Int)==0) && ((E.on m).zero p 3 11)) || ((E.on m).zero p 11 37)) (ab (fun c6=>(by grind)) fun c6=>(by grind))<| aM h (by(have hl:l2=(E.on m).some_ p 11 26:=by rw [hz,show i1=26 by omega];rfl);grind)⟩))
end
def gn:Ctr Un:=⟨[.one (.obj 0 0),.one (.int .i64)],[],[.ob 3 [(1,1,0)],.ob 2 []],[],fun p r E rm m K=>E.n=m.S∧(E.on m).has p=true∧K ⟨(.bool ((E.on m).jK p)),none,[],[],[]⟩⟩
def yS(p:Int)(r:Nat→Nat)(E:Pd)(rm:Nat→Nat)(m:Mem)(Q:Ou Un→Prop):Prop:=
 Pd.Ok E→
 Mem.Wf m→
 E.n=m.S∧
 (0≤(18:Int)∧(1024:Int)≤1024)∧
 split (!((E.on m).zero p 18 1024)) (
  Q ⟨(.bool false),none,[],[],[]⟩) (
  (0≤p∧p<((Pd.ai E).length:Int))∧
  split (!(((Pd.ai E).getD p.toNat Ent.free).aG)) (
   E.n=m.S∧
   (0≤(1:Int)∧(18:Int)≤1024)∧
   Q ⟨(.bool ((E.on m).zero p 1 18)),none,[],[],[]⟩) (
   ∀i:Int,i=0→
   ∃I:Nat→Int→Option Addr→Nat→List U32→Prop,(∃m1,I m1 i none 0 ([]:List U32))∧∀(m1:Nat)(_gv:Nat→Value)(i1:Int)(A2:Option Addr)(c2:Nat)(l2:List U32),I m1 i1 A2 c2 l2→
   split (decide (i1<17)) (
    E.n=m.S∧
    ∀(gv1:Nat),
    ∀(l:List U32),l=([U32.mk ((E.on m).word p (i64.wrap (1+i1)))]:List U32)→
    ((l2.length+l.length)*4≤140737488355328)∧
    ∀(A:Option Addr)(c:Nat),
    ∀(l1:List U32),l1=(l2++l)→
    ∀i2:Int,i2=(i64.wrap (i1+1))→
    ∃m2,m2<m1∧I m2 i2 A c l1) (
    ((∀x∈l2,0≤x.v∧x.v<4294967296))∧
    ∀(gv1:Nat),
    ∀(s:Fl),s=Fl.zero→
    Fl.Ok s→
    True∧
    ∀(s1:Fl),s1=(Fl.norm (File.unpack l2))→
    Fl.Ok s1→
    (0≤p∧p<((Pd.ai E).length:Int))∧
    ∃J:Bool→Prop,(
     split ((File.cZ l2)==0) (
      E.n=m.S∧
      split ((E.on m).is (((Pd.ai E).getD p.toNat Ent.free).owner) 1) (
       (0≤((Pd.ai E).getD p.toNat Ent.free).owner∧((Pd.ai E).getD p.toNat Ent.free).owner<((Pd.ai E).length:Int))∧
       J (!(((Pd.ai E).getD (Int.toNat (((Pd.ai E).getD p.toNat Ent.free).owner)) Ent.free).state==1))) (
       J true)) (
      J false))∧∀(_gv2:Nat→Value)(x4:Bool),J x4→
    Q ⟨(.bool x4),none,[],[],[]⟩)))
theorem yT:Vc2 Un Tryz.prog (aN [(121,du),(143,bG),(149,iZ),(122,fF)]) [5,6] Tryz.f131 (.r' (.r' (.r' (.r' (.two (.r' (.two (.node [(.s 5,1,22)] (some ⟨[(6,(.one (.int .i64)))],[(5,(.p (.sl 2 0)))],[5,6]++upN 26 12,[(2,(.lst 1))]⟩) [] [] .leaf .leaf) .leaf)) (.r' (.r' (.two (.node [] (some ⟨[(4,(.one .bool))],[],[4]++upN 51 19,[]⟩) [] [] .leaf .leaf) .leaf)))))))) [] gn=(∀p r (E:Pd) rm (m:Mem),∀Q,(gn.body p r E rm m Q)→yS p r E rm m Q):=by kernel_rfl
section
attribute [local grind=] DB.jK DB.is
theorem yR:LV Un Tryz.prog 131 gn:=verify Tryz.func131 aa (tb:= [(121,du),(143,bG),(149,iZ),(122,fF)]) ⟨lG,fi,zg,qj,trivial⟩ (by kernel_rfl) (yT.mpr fun p r E rm m Q h=>by
 obtain⟨hp0,hp1,h⟩:=h
 exact fun f1 f2=>(by(have hw:=fun a b=>af (x:=(E.on m).word a b) (by have:=cz (E:=E) f2 a b;omega));exact aj ‹_› fun s3=>aj (by omega) fun s4=>aQ (fun c1=>aM h (by grind)) fun c1=>aj (by grind) fun s5=>aQ (fun c2=>aj ‹_› fun s6=>aj (by omega) fun s7=>aM h (by grind)) fun c2=>allEq<| ⟨fun m1 i1 A2 c2 l2=>(m1=(17 - i1).toNat)∧(0≤i1∧i1≤17)∧(l2=(E.on m).some_ p 1 i1.toNat),⟨_,rfl,(by omega),(by rfl)⟩,fun m1 _ i1 A2 c2 l2 ⟨hm,hi1,hz⟩=>au (fun c3=>aj ‹_› fun s8=>fun gv1=>fun l h_l=>aj (by(have h8:=wM (E.on m) p 1 i1.toNat);rw [h_l,hz,h8];simp;omega) fun s9=>fun A c=>fun l1 h_l1=>allEq<| ⟨_,(by(have h9:=af (x:=i1+1) (by omega));omega),rfl,(by(have h9:=af (x:=i1+1) (by omega));omega),(by rw [h_l1,h_l,hz];exact tI _ _ _ (by omega) (by omega))⟩) fun c3=>aj (by rw [hz];exact mP f2 _ _ _) fun s10=>fun gv1=>fun s h_s f11=>aj trivial fun _=>fun s1 h_s1 f13=>aj ‹_› fun s14=>aY ((((File.cZ l2):Int)==0) && (!((E.on m).is (((Pd.ai E).getD p.toNat Ent.free).owner) 1) || (!((((Pd.ai E).getD (Int.toNat (((Pd.ai E).getD p.toNat Ent.free).owner)) Ent.free).state:Int)==1)))) (ab (fun c4=>aj ‹_› fun s15=>ab (fun c5=>aj (by grind) fun s16=>(by grind)) fun c5=>(by grind)) fun c4=>(by grind))<| aM h (by(have hl:l2=(E.on m).some_ p 1 17:=by rw [hz,show i1=17 by omega];rfl);grind)⟩))
end
end Go.Proofs.YtbjlecpmgocoeaaGreatDoor
end
section
namespace Go.Proofs.YtbjlecpmgocoeaaGreatDoor
open Go Go.RowKit V
open Go.IntKind (i64 u32 u64)
theorem Ck(w:Int):0≤(bE w).aq∧(bE w).aq<64:=by
 unfold bE
 split
 ·rename_i h
  have h:=h.2
  unfold qO Mp.err at h
  simp only [decide_eq_true_eq]at h
  have h:=h.1
  split at h
  ·assumption
  ·omega
 ·exact⟨by decide,by decide⟩
theorem qc {w:Int}(hw:0≤w):0≤aP w∧aP w<64:=by
 unfold aP
 split
 ·rename_i h
  unfold pK at h
  simp only [decide_eq_true_eq]at h
  omega
 ·omega
theorem eqF(a b:Bool)(x y:Int):bd #[.bool a,.int .i64 x] #[.bool b,.int .i64 y]=((a==b) && (x==y)):=by
 simp [bd,eqL,km]
theorem DH {f:Int→Bool} {a b:Int}(h:a≤b):dJ f a≤dJ f b:=by
 by_cases h0:a<0
 ·have e:dJ f a=0:=by unfold dJ;rw [show a.toNat=0 by omega];rfl
  rw [e];exact dV
 obtain⟨k,rfl⟩:∃k:Nat,b=a+k:=⟨(b - a).toNat,by omega⟩
 clear h
 induction k with
 | zero=>simp
 | succ k ih=>
  have:=cy (f:=f) (n:=a+(k:Int)) (by omega)
  rw [show a+((k+1:Nat):Int)=a+k+1 by omega,this]
  split<;>omega
theorem ui {f:Int→Bool} {n:Int}(h:∀x,0≤x→x<n→f x=false):dJ f n=0:=by
 unfold dJ
 have:(List.range n.toNat).countP (fun(i:Nat)=>f (i:Int))=0:=by
  rw [List.countP_eq_zero]
  intro i hi
  have:=List.mem_range.1 hi
  rw [h _ (by omega) (by omega)];simp
 omega
theorem xY {f g:Int→Bool} {q:Int}:∀ {n:Nat},0≤q→f q=false→g q=true→(∀x,0≤x→x<(n:Int)→x≠q→g x=f x)→dJ g n=dJ f n+(if q<(n:Int)then 1 else 0)
 | 0,h0,_,_,_=>by rw [if_neg (by omega)];rfl
 | n+1,h0,hf,hg,h=>by
  have ih:=xY (n:=n) h0 hf hg fun x a b c=>h x a (by omega) c
  have e1:=cy (f:=f) (n:=(n:Int)) (by omega)
  have e2:=cy (f:=g) (n:=(n:Int)) (by omega)
  rw [show((n+1:Nat):Int)=(n:Int)+1 by omega,e1,e2,ih]
  by_cases hq:q=(n:Int)
  ·subst hq
   have a:¬(n:Int)<n:=by omega
   have b:(n:Int)<n+1:=by omega
   simp [hf,hg,b]
  ·rw [h _ (by omega) (by omega) (fun e=>hq e.symm)]
   by_cases h1:q<(n:Int)
   ·rw [if_pos h1,if_pos (show q<(n:Int)+1 by omega)];omega
   ·rw [if_neg h1,if_neg (show ¬q<(n:Int)+1 by omega)];omega
theorem C5 {E:Pd} {i:Int}(h:0≤i∧i<(E.n:Int)):E.ai.take i.toNat++ [E.ent i.toNat]=E.ai.take (i+1).toNat:=by
 rw [show(i+1).toNat=i.toNat+1 by omega,List.take_add_one,Pd.rB (by omega)];rfl
structure lT(D:DB)(p lo:Int)(n:Nat)(x:Int)(l:List U32):Prop where
 len:l.length=n
 val:∀i:Nat,(i:Int)<x→i<n→l[i]? =some ⟨D.word p (lo+(i:Int))⟩
theorem lT.init(D:DB)(p lo:Int)(n:Nat):lT D p lo n 0 (List.replicate n (U32.mk 0)):=⟨by simp,fun i h=>by omega⟩
theorem lT.next {D:DB} {p lo x:Int} {n:Nat} {l:List U32}(h:lT D p lo n x l)(h0:0≤x)(hx:x<(n:Int))(hl:0≤lo∧lo<1024∧n<1024):lT D p lo n (i64.wrap (x+1)) (l.set x.toNat ⟨D.word p (i64.wrap (lo+x))⟩):=by
 rw [af (by omega),af (by omega)]
 refine⟨by simp [h.len],fun i hi hn=>?_⟩
 rw [List.getElem?_set]
 by_cases hix:x.toNat=i
 ·rw [if_pos hix,if_pos (by rw [h.len];omega),show(i:Int)=x by omega]
 ·rw [if_neg hix];exact h.val i (by omega) hn
theorem lT.done {D:DB} {p lo x:Int} {n:Nat} {l:List U32}(h:lT D p lo n x l)(hx:(n:Int)≤x):D.some_ p lo n=l:=by
 apply List.ext_getElem?
 intro i
 by_cases hi:i<n
 ·rw [h.val i (by omega) hi]
  simp [DB.some_,hi]
 ·rw [List.getElem?_eq_none (by simp [DB.some_];omega),List.getElem?_eq_none (by rw [h.len];omega)]
namespace DB
def cg(D:DB)(p:Int):Int:=if D.is (D.at_ p).owner 1 then(D.at_ p).owner else -1
def pgs(D:DB)(t o:Int)(n:Nat):List I64:=((List.range n).filter fun(q:Nat)=>(D.at_ (q:Int)).typ==t && (D.at_ (q:Int)).owner==o).map fun(q:Nat)=>⟨(q:Int)⟩
theorem xm(D:DB)(t o:Int) {i:Int}(h:0≤i∧i<9000000000000000000):D.pgs t o (i64.wrap (i+1)).toNat=if((D.at_ i).typ==t && (D.at_ i).owner==o)=true then D.pgs t o i.toNat++ [⟨i⟩]else D.pgs t o i.toNat:=by
 rw [af (by omega),show(i+1).toNat=i.toNat+1 by omega]
 unfold pgs
 rw [List.range_succ,List.filter_append,List.map_append]
 have e:((i.toNat:Nat):Int)=i:=by omega
 split<;>rename_i hc<;>simp [e,hc]
theorem jS(D:DB)(t o:Int)(n:Nat):(D.pgs t o n).length≤n:=by
 unfold pgs
 rw [List.length_map]
 have:=List.length_filter_le (fun(q:Nat)=>(D.at_ (q:Int)).typ==t && (D.at_ (q:Int)).owner==o) (List.range n)
 rwa [List.length_range]at this
theorem Ag {D:DB} {t o:Int} {x:I64}:x∈D.pgs t o D.S↔D.of x.v t o=true:=by
 unfold pgs of is has
 rw [List.mem_map]
 constructor
 ·rintro⟨q,hq,rfl⟩
  rw [List.mem_filter,List.mem_range]at hq
  have h2:=hq.2
  simp only [Bool.and_eq_true]at h2 ⊢
  exact⟨⟨by simp;exact hq.1,h2.1⟩,h2.2⟩
 ·intro h
  simp only [Bool.and_eq_true,decide_eq_true_eq]at h
  refine⟨x.v.toNat,?_,?_⟩
  ·rw [List.mem_filter,List.mem_range,show((x.v.toNat:Nat):Int)=x.v by omega]
   exact⟨by omega,by rw [Bool.and_eq_true];exact⟨h.1.2,h.2⟩⟩
  ·rw [show((x.v.toNat:Nat):Int)=x.v by omega]
theorem vf(D:DB)(t o:Int):((D.pgs t o D.S).length:Int)=dJ (fun q=>D.of q t o) D.S:=by
 unfold pgs dJ
 rw [List.length_map,← List.countP_eq_length_filter,Int.toNat_natCast]
 congr 1
 apply List.countP_congr
 intro q hq
 have:=List.mem_range.1 hq
 simp only [of,is,has]
 rw [show decide (0≤(q:Int)∧(q:Int)<(D.S:Int))=true by simp;omega,Bool.true_and]
theorem HT {D:DB} {t o:Int}(h:((D.pgs t o D.S).length:Int)=1)(x:Int):D.of x t o=(x==((D.pgs t o D.S).getD (Int.toNat 0) (I64.mk 0)).v):=by
 have hx:=Ag (D:=D) (t:=t) (o:=o) (x:=⟨x⟩)
 obtain⟨y,hy⟩:=List.length_eq_one_iff.1 (show(D.pgs t o D.S).length=1 by omega)
 rw [hy]at hx ⊢
 rw [List.mem_singleton]at hx
 rw [Bool.eq_iff_iff,← hx,beq_iff_eq]
 show I64.mk x=y↔x=y.v
 cases y
 simp
theorem first_eq {D:DB} {p:Int}(hS:D.S≤64):(((((D.pgs 3 p D.S).length:Nat):Int)==1) && (D.word p 0==u32.wrap ((D.pgs 3 p D.S).getD (Int.toNat 0) (I64.mk 0)).v))=(dJ (fun q=>D.of q 3 p) D.S==1 && D.of (D.word p 0) 3 p):=by
 rw [vf]
 by_cases h:dJ (fun q=>D.of q 3 p) D.S=1
 ·have h1:((D.pgs 3 p D.S).length:Int)=1:=by rw [vf];exact h
  have h2:=HT h1
  have h3:=h2 ((D.pgs 3 p D.S).getD (Int.toNat 0) (I64.mk 0)).v
  rw [beq_self_eq_true]at h3
  unfold of is has at h3
  simp only [Bool.and_eq_true,decide_eq_true_eq]at h3
  rw [h2,bU (by omega)]
 ·rw [show(dJ (fun q=>D.of q 3 p) D.S==1)=false by simpa using h];rfl
theorem HZ {D:DB} {t o q:Int} {l:List I64}(hl:l=D.pgs t o D.S)(h:∀j:Nat,(j:Int)<(l.length:Int)→¬(l.getD j (I64.mk 0)).v=q):D.of q t o=false:=by
 cases hc:D.of q t o
 ·rfl
 ·exfalso
  have hm:=Ag (x:=⟨q⟩).2 hc
  rw [← hl]at hm
  obtain⟨j,hj,he⟩:=List.mem_iff_getElem.1 hm
  exact h j (by omega) (by rw [List.getD_eq_getElem?_getD,List.getElem?_eq_getElem hj,he];rfl)
theorem J4 {D:DB} {t o q x:Int} {l:List I64}(hl:l=D.pgs t o D.S)(hx:0≤x∧x<(l.length:Int))(h:(l.getD x.toNat (I64.mk 0)).v=q):D.of q t o=true:=by
 have hi:x.toNat<l.length:=by omega
 rw [List.getD_eq_getElem?_getD,List.getElem?_eq_getElem hi]at h
 have hm:l[x.toNat]∈l:=List.getElem_mem hi
 have hm2:l[x.toNat]∈D.pgs t o D.S:=hl▸hm
 rw [← h]
 exact Ag.1 hm2
theorem xZ(D:DB)(p:Int):D.clause 1 p=((D.at_ p).typ !=1 || (D.at_ p).owner==p):=rfl
theorem rJ(D:DB)(p:Int):D.clause 2 p=((D.at_ p).typ !=0 || D.zero p 0 1024):=rfl
theorem Gl(D:DB)(p:Int):D.clause 3 p=((D.at_ p).typ==1 || ((D.at_ p).typ==0 || D.is (D.at_ p).owner 1)):=rfl
theorem Gk(D:DB)(p:Int):D.clause 4 p=((D.at_ p).typ !=1 || (D.at_ p).refs==((D.eA p D.S).length:Int)):=rfl
theorem rI(D:DB)(p:Int):D.clause 5 p=((D.at_ p).typ !=1 || D.fq p):=rfl
theorem Gj(D:DB)(p:Int):D.clause 6 p=((D.at_ p).typ !=1 || D.lY p):=rfl
theorem Gi(D:DB)(p:Int):D.clause 7 p=((D.at_ p).typ !=1 || D.lZ p):=rfl
theorem kN(D:DB)(p:Int):D.clause 8 p=((D.at_ p).typ !=3 || (!D.alive p || D.fp p)):=rfl
theorem nj(D:DB)(p:Int):D.clause 9 p=((D.at_ p).typ !=4 || (!D.alive p || D.ko p)):=rfl
theorem uj(D:DB)(p:Int):D.clause 10 p=((D.at_ p).typ !=5 || (!D.alive p || D.oI p)):=rfl
theorem DJ(D:DB)(p:Int):D.clause 11 p=((D.at_ p).typ !=2 || D.jK p):=rfl
theorem DI(D:DB)(p:Int):D.clause 12 p=((D.at_ p).typ !=6 || D.zero p 0 1024):=rfl
structure Nms(D:DB)(p x count:Int)(l:List Bl):Prop where
 len:l.length=64
 ok:eU (D.fM p) 0 x=true
 once:∀q:Int,0≤q→q<64→D.named p x q≤1∧(l.getD q.toNat (Bl.mk false)).v=(D.named p x q==1)
 cnt:count=dJ (fun q=>D.named p x q==1) D.S
theorem Nms.init(D:DB)(p:Int):Nms D p 0 0 (List.replicate (Int.toNat 64) (Bl.mk false)):=by
 refine⟨by simp,dq (Int.le_refl _),fun q h1 h2=>⟨by show(0:Int)≤1;omega,?_⟩,?_⟩
 ·rw [List.getD_eq_getElem?_getD,List.getElem?_replicate,if_pos (by omega)];rfl
 ·exact(ui (f:=fun q=>D.named p 0 q==1) fun x _ _=>rfl).symm
theorem xu {D:DB} {p x q:Int}(hx:0≤x)(hw:D.word p x=0):D.named p (x+1) q=D.named p x q:=by
 rw [ig D p q hx,hw];simp
theorem Nms.skip {D:DB} {p x c:Int} {l:List Bl}(h:Nms D p x c l)(hx:0≤x)(hw:D.word p x=0):Nms D p (x+1) c l:=by
 refine⟨h.len,bI h.ok (by unfold fM;rw [hw];rfl) rfl,fun q h1 h2=>by rw [xu hx hw];exact h.once q h1 h2,?_⟩
 rw [h.cnt]
 exact AG fun q _ _=>by rw [xu hx hw]
theorem Nms.put {D:DB} {p x c:Int} {l:List Bl}(h:Nms D p x c l)(hx:0≤x)(hw0:0≤D.word p x)(hw:¬D.word p x=0)(he:ia (D.word p x)=0)(hl:(l.getD (aP (D.word p x)).toNat (Bl.mk false)).v=false)(ho:D.of (aP (D.word p x)) 4 (D.at_ p).owner=true):
 Nms D p (x+1) (c+1) (l.set (aP (D.word p x)).toNat (Bl.mk true)):=by
 have hp:=qc hw0
 have ho2:0≤aP (D.word p x)∧aP (D.word p x)<(D.S:Int):=by
  unfold of is has at ho
  simp only [Bool.and_eq_true,decide_eq_true_eq]at ho
  exact ho.1.1
 have step:∀q,D.named p (x+1) q=D.named p x q+(if aP (D.word p x)=q then 1 else 0):=fun q=>by
  rw [ig D p q hx]
  by_cases hq:aP (D.word p x)=q<;>simp [hq,hw]
 have h1:=h.once _ hp.1 hp.2
 rw [hl]at h1
 have h0:D.named p x (aP (D.word p x))=0:=by
  have hge:0≤D.named p x (aP (D.word p x)):=dV
  have h2:=h1.2
  have:¬D.named p x (aP (D.word p x))=1:=by simpa using h2.symm
  omega
 refine⟨by simp [h.len],bI h.ok (by unfold fM;rw [he,ho];simp) rfl,fun q a b=>?_,?_⟩
 ·rw [step,List.getD_eq_getElem?_getD,List.getElem?_set]
  by_cases hq:aP (D.word p x)=q
  ·subst hq
   rw [if_pos rfl,if_pos rfl,if_pos (by rw [h.len];omega),h0]
   exact⟨by omega,rfl⟩
  ·rw [if_neg hq,if_neg (by omega),← List.getD_eq_getElem?_getD,Int.add_zero]
   exact h.once q a b
 ·rw [xY (f:=fun q=>D.named p x q==1) (q:=aP (D.word p x)) ho2.1 (by rw [h0];rfl) (by rw [step,h0,if_pos rfl];rfl) (fun y _ _ hy=>by rw [step,if_neg (fun e=>hy e.symm),Int.add_zero]),if_pos ho2.2,← h.cnt]
theorem Nms.bad {D:DB} {p x c:Int} {l:List Bl}(h:Nms D p x c l)(hx:0≤x∧x<256)(hw0:0≤D.word p x)(hw:¬D.word p x=0)(hb:ia (D.word p x)=0→D.of (aP (D.word p x)) 4 (D.at_ p).owner=true→(l.getD (aP (D.word p x)).toNat (Bl.mk false)).v=true):D.fp p=false:=by
 unfold fp
 by_cases hn:D.fM p x=true
 ·unfold fM at hn
  simp only [Bool.or_eq_true,beq_iff_eq,hw,false_or,Bool.and_eq_true]at hn
  have hp:=qc hw0
  have h1:=h.once _ hp.1 hp.2
  rw [hb hn.1 hn.2]at h1
  have h1:D.named p x (aP (D.word p x))=1:=by simpa using h1.2.symm
  have h2:D.named p (x+1) (aP (D.word p x))=2:=by
   rw [ig D p _ hx.1,h1];simp [hw]
  have h3:D.named p (x+1) (aP (D.word p x))≤D.named p 256 (aP (D.word p x)):=DH (by omega)
  have ho:=hn.2
  unfold of is has at ho
  simp only [Bool.and_eq_true,decide_eq_true_eq]at ho
  rw [bT (f:=fun q=>!(decide (D.named p 256 q>1) || (D.of q 4 (D.at_ p).owner && D.named p 256 q==0))) ho.1.1.1 ho.1.1.2 (by simp;omega)]
  simp
 ·rw [bT (f:=D.fM p) hx.1 hx.2 (by simpa using hn)]
  simp
theorem Nms.done {D:DB} {p c:Int} {l:List Bl}(hS:D.S≤64)(h:Nms D p 256 c l)(hz:D.zero p 256 1024=true):D.fp p=(c==((D.pgs 4 (D.at_ p).owner D.S).length:Int)):=by
 have hsub:=xX (f:=fun q=>D.named p 256 q==1) (g:=fun q=>D.of q 4 (D.at_ p).owner) (n:=(D.S:Int)) (by omega) fun q h1 h2 hq=>by
  have hq:D.named p 256 q=1:=by simpa using hq
  have:∃i,0≤i∧i<256∧(D.word p i !=0 && aP (D.word p i)==q)=true:=by
   apply Classical.byContradiction
   intro hn
   have:=ui (f:=fun i=>D.word p i !=0 && aP (D.word p i)==q) (n:=256) fun i a b=>by
    cases hc:(D.word p i !=0 && aP (D.word p i)==q)
    ·rfl
    ·exact absurd ⟨i,a,b,hc⟩ hn
   unfold named at hq
   omega
  obtain⟨i,a,b,hi⟩:=this
  have hk:=cf.1 h.ok i a b
  simp only [Bool.and_eq_true,bne_iff_ne,ne_eq,beq_iff_eq]at hi
  unfold fM at hk
  simp only [Bool.or_eq_true,beq_iff_eq,hi.1,false_or,Bool.and_eq_true]at hk
  rw [← hi.2];exact hk.2
 unfold fp
 rw [hz,h.ok,Bool.true_and,Bool.true_and,vf,h.cnt,Bool.eq_iff_iff,cf,beq_iff_eq]
 constructor
 ·intro hA
  refine Int.le_antisymm hsub.1 ?_
  refine(xX (by omega) fun q a b hq=>?_).1
  have:=hA q a b
  simp only [hq,Bool.true_and,Bool.not_eq_true',Bool.or_eq_false_iff,decide_eq_false_iff_not,beq_eq_false_iff_ne]at this
  have hge:0≤D.named p 256 q:=dV
  simp only [beq_iff_eq]
  omega
 ·intro he q a b
  have h1:=(h.once q a (by omega)).1
  cases ho:D.of q 4 (D.at_ p).owner
  ·simp;omega
  ·have:=hsub.2 he q a b ho
   have:D.named p 256 q=1:=by simpa using this
   simp [this]
def jk(D:DB)(p:Int)(l:List I64)(x:Int):Int:=((l.take x.toNat).map fun q=>dJ (D.eF p q.v) 1024).sum
theorem qx {D:DB} {p:Int} {l:List I64} {x:Int}(h:0≤x∧x<(l.length:Int)):D.jk p l (x+1)=D.jk p l x+dJ (D.eF p (l.getD x.toNat (I64.mk 0)).v) 1024:=by
 unfold jk
 have hx:x.toNat<l.length:=by omega
 rw [show(x+1).toNat=x.toNat+1 by omega,List.take_add_one,List.getElem?_eq_getElem hx,List.map_append,List.sum_append,List.getD_eq_getElem?_getD,List.getElem?_eq_getElem hx]
 simp
theorem tG {D:DB} {p:Int} {l:List I64} {x:Int}(hx:0≤x):0≤D.jk p l x∧D.jk p l x≤1024*x:=by
 obtain⟨n,rfl⟩:=Int.eq_ofNat_of_zero_le hx
 induction n with
 | zero=>simp [jk]
 | succ n ih=>
  by_cases hn:n<l.length
  ·have h1:=qx (D:=D) (p:=p) (l:=l) (x:=(n:Int)) ⟨by omega,by omega⟩
   have h2:=ih (by omega)
   have h3:=dV (f:=D.eF p (l.getD n (I64.mk 0)).v) (n:=1024)
   have h4:=fD (f:=D.eF p (l.getD n (I64.mk 0)).v) (n:=1024) (by omega)
   rw [Int.toNat_natCast]at h1
   rw [show((n+1:Nat):Int)=(n:Int)+1 by omega,h1]
   omega
  ·have e:D.jk p l ((n+1:Nat):Int)=D.jk p l (n:Int):=by
    unfold jk
    rw [List.take_of_length_le (by omega),List.take_of_length_le (by omega)]
   rw [e]
   have:=ih (by omega)
   omega
theorem tH {D:DB} {p:Int}:∀ {n:Nat},n≤D.S→D.fX p (n:Int)=((D.pgs 4 (D.at_ p).owner n).map fun q=>dJ (D.eF p q.v) 1024).sum
 | 0,_=>rfl
 | n+1,h=>by
  have h1:=gO D p (n:=(n:Int)) (by omega)
  have h2:D.pgs 4 (D.at_ p).owner (n+1)=if((D.at_ (n:Int)).typ==4 && (D.at_ (n:Int)).owner==(D.at_ p).owner)=true then D.pgs 4 (D.at_ p).owner n++ [⟨(n:Int)⟩]else D.pgs 4 (D.at_ p).owner n:=by
   unfold pgs
   rw [List.range_succ,List.filter_append,List.map_append]
   split<;>rename_i hc<;>simp [hc]
  have h3:D.of (n:Int) 4 (D.at_ p).owner=((D.at_ (n:Int)).typ==4 && (D.at_ (n:Int)).owner==(D.at_ p).owner):=by
   unfold of is has
   rw [show decide (0≤(n:Int)∧(n:Int)<(D.S:Int))=true by simp;omega,Bool.true_and]
  rw [show((n+1:Nat):Int)=(n:Int)+1 by omega,h1,tH (by omega),h2,h3]
  split
  ·simp
  ·simp
theorem once_eq {D:DB} {p n x:Int}(hx:x=((D.pgs 4 (D.at_ p).owner D.S).length:Int))(h:n=D.jk p (D.pgs 4 (D.at_ p).owner D.S) x):D.oI p=(n==1):=by
 unfold oI
 rw [tH (Nat.le_refl _),h,hx]
 unfold jk
 rw [Int.toNat_natCast,List.take_length]
end DB
end Go.Proofs.YtbjlecpmgocoeaaGreatDoor
end
section
set_option maxRecDepth 100000
namespace Go.Proofs.YtbjlecpmgocoeaaGreatDoor
open Go Go.RowKit V
open Go.IntKind (i64 u32 u64)
open Go.Proofs (Tryz.prog)
def pF(d:Option Addr)(R:aB)(w:World):Prop:=
 ∀(gv:Nat)(wv:World),gv=w.heap.size→wv=w.alloc (.cells #[(.pointer d)] 31)→
 R (.func (.func 132) #[] #[(.pointer (some (Addr.mk gv 0 none)))]) wv
def zU:Ann:= .leaf
theorem DEntries_eq(d:Option Addr)(R:aB)(w:World):pF d R w=vcF Tryz.prog aJ [] Tryz.f99 zU [(.pointer d)] R none w:=by kernel_rfl
theorem sO(d:Option Addr) {R:aB} {w:World}(h:pF d R w):Calls Tryz.prog 99 #[(.pointer d)] w fun e w'=>∃v,e= .returned v∧R v w':=
 ao Tryz.func99 aw aa ((DEntries_eq d R w).mp h)
def lX(yield:Value)(cap0:Addr)(R:aB)(w:World):Prop:=
 ∃x4:Option Addr,w.cell? cap0=some (.pointer x4)∧
 Calls Tryz.prog 18 #[(.pointer x4)] w fun e wv=>
 ∃x5:Int,e= .returned (.int .i64 x5)∧
 ∃I:Nat→Int→World→Prop,(∃m,I m 0 wv)∧∀(m:Nat)(_gv:Nat→Value)(x6:Int),∀wv1,I m x6 wv1→
 split (decide ((x6:Int)<x5)) (
  ∃x11:Option Addr,wv1.cell? cap0=some (.pointer x11)∧
  Calls Tryz.prog 80 #[(.pointer x11),(.int .i64 x6)] wv1 fun e wv2=>
  ∃x13a:Int,∃x13b:Int,∃x13c:Int,∃x13d:Int,∃x13e:Bool,e= .returned (.agg #[(.int .i64 x13a),(.int .i64 x13b),(.int .i64 x13c),(.int .i64 x13d),(.bool x13e)])∧
  Gp Tryz.prog aJ true yield #[(.int .i64 x6),(.agg #[(.int .i64 x13a),(.int .i64 x13b),(.int .i64 x13c),(.int .i64 x13d),(.bool x13e)])] wv2 fun e wv3=>
  ∃x14:Bool,e= .returned (.bool x14)∧
  split (!x14) (
   R (.tuple #[]) wv3) (
   ∃m1,m1<m∧I m1 (i64.wrap (x6+1)) wv3)) (
  R (.tuple #[]) wv1)
def tC:Ann:=(.node none .leaf (.node none (.node (some ⟨[(6,.one (.int .i64))],[3,6,7,8,9,10,11,12,13,14,15,16]⟩) .leaf .leaf) .leaf))
theorem DEntries_1_eq(yield:Value)(cap0:Addr)(R:aB)(w:World):lX yield cap0 R w=vcF Tryz.prog aJ [] Tryz.f132 tC [yield,(.pointer (some cap0))] R none w:=by kernel_rfl
theorem oG(yield:Value)(cap0:Addr) {R:aB} {w:World}(h:lX yield cap0 R w):Calls Tryz.prog 132 #[yield,(.pointer (some cap0))] w fun e w'=>∃v,e= .returned v∧R v w':=
 ao Tryz.func132 aw aa ((DEntries_1_eq yield cap0 R w).mp h)
def uS(d:Option Addr)(space:Int)(R:aB)(w:World):Prop:=
 ∀(gv:Nat)(wv:World),gv=w.heap.size→wv=w.alloc (.cells #[(.int .i64 space)] 3)→
 ∃x9:Int,wv.cell? (Addr.mk gv 0 none)=some (.int .i64 x9)∧
 Calls Tryz.prog 83 #[(.pointer d),(.int .i64 x9)] wv fun e wv1=>
 ∃x10:Bool,e= .returned (.bool x10)∧
 split (!x10) (
  R (.slice none 0 0) wv1) (
  ∀(gv1:Nat)(wv2:World),gv1=wv1.heap.size→wv2=wv1.alloc (.cells (#[(.slice none 0 0)]) 103)→
  Calls Tryz.prog 99 #[(.pointer d)] wv2 fun e wv3=>
  ∃x13:Value,e= .returned x13∧
  ∃(gf:Nat)(cap:Array Value),x13= .func (.func gf) #[] cap∧aJ.elem gf=true∧
  ∀(l dl:Nat)(wv4:World),dl=wv3.heap.size→l=wv3.heap.size+1→Kept (fun k=>k<wv3.heap.size) wv3 wv4→l<wv4.heap.size→wv4.heap[dl]? =some (.deferred (some []))→
  ∃(xs:List (List Value))(X:Nat→Prop)(D J Jr:Nat→World→Prop)(Je:Nat→Nat→World→Prop),
  Iter Tryz.prog gf cap xs X D∧(∀k,X k→k<wv3.heap.size)∧(∀x∈xs,xL [.one (.int .i64),.agg [.int .i64,.int .i64,.int .i64,.int .i64,.bool]] fun vs=>x=vs)∧
  (yK X l J∧yK X l Jr∧∀id,yK X l (Je id))∧D 0 wv4∧J 0 wv4∧
  (∀(i:Nat)(A:World),J i A→D i A→∀(x14:Int)(x15a:Int)(x15b:Int)(x15c:Int)(x15d:Int)(x15e:Bool),xs[i]? =some [(.int .i64 x14),(.agg #[(.int .i64 x15a),(.int .i64 x15b),(.int .i64 x15c),(.int .i64 x15d),(.bool x15e)])]→
   ∀(gv2:Nat)(wv6:World),gv2=A.heap.size→wv6=A.alloc (.cells (#[(.int .i64 0),(.int .i64 0),(.int .i64 0),(.int .i64 0),(.bool false)]) 99)→
   ax wv6 (Addr.mk gv2 0 none) [(.int .i64 x15a),(.int .i64 x15b),(.int .i64 x15c),(.int .i64 x15d),(.bool x15e)] fun wv7=>
   Kept (fun k=>X k∨k=l) A wv7∧∀wv5,Kept (fun k=>k<wv7.heap.size∧k≠l) wv7 wv5→
   ∃J1:Bool→World→Prop,(
    ∃x17:Int,wv5.cell? (Addr.mk gv 0 none)=some (.int .i64 x17)∧
    split ((x14:Int) !=x17) (
     ∃x21:Int,wv5.cell? ((Addr.mk gv2 0 none).add 0)=some (.int .i64 x21)∧
     split ((x21:Int) !=0) (
      ∃x26:Int,wv5.cell? ((Addr.mk gv2 0 none).add 1)=some (.int .i64 x26)∧
      ∃x27:Int,wv5.cell? (Addr.mk gv 0 none)=some (.int .i64 x27)∧
      J1 ((x26:Int)==x27) wv5) (
      J1 false wv5)) (
     J1 false wv5))∧∀(_gv3:Nat→Value)(x29:Bool),∀wv8,J1 x29 wv8→
   split x29 (
    ∃x30A:Option Addr,∃x30N:Nat,∃x30C:Nat,wv8.cell? (Addr.mk gv1 0 none)=some (.slice x30A x30N x30C)∧
    ∀(gv4:Nat)(wv9:World),gv4=wv8.heap.size→wv9=wv8.alloc (.cells #[(.int .i64 x14)] 3)→
    ∃x33A:Option Addr,∃x33N:Nat,∃x33C:Nat,∃wv10,(Builtin.append_ #[103,103] 103 #[(.slice x30A x30N x30C),(.slice (some (Addr.mk gv4 0 none)) 1 1)]:Sem Value).run Tryz.prog wv9= .ok (.slice x33A x33N x33C) wv10∧
    ax wv10 (Addr.mk gv1 0 none) [(.slice x33A x33N x33C)] fun wv11=>
    Kept (fun k=>X k∨k=l) wv5 wv11∧J (i+1) wv11) (
    Kept (fun k=>X k∨k=l) wv5 wv8∧J (i+1) wv8))∧
  (∀W,J xs.length W→D xs.length W→
   ∃x34A:Option Addr,∃x34N:Nat,∃x34C:Nat,W.cell? (Addr.mk gv1 0 none)=some (.slice x34A x34N x34C)∧
   W.heap[dl]? =some (.deferred (some []))∧
   R (.slice x34A x34N x34C) (W.putObj dl (.deferred none)))∧
  (∀i W,Jr i W→D i W→
   W.heap[dl]? =some (.deferred (some []))∧
   R (.slice none 0 0) (W.putObj dl (.deferred none)))∧True)
def E9:Ann:=(.node none .leaf (.node none .leaf (.node none .leaf (.node none (.node none .leaf (.node none (.node (some ⟨[(14,.one (.int .i64)),(15,.agg [.int .i64,.int .i64,.int .i64,.int .i64,.bool])],[]⟩) .leaf (.node none (.node none (.node (some ⟨[(29,.one (.bool))],[16,17,18,19,20,21,22,23,24,25,26,27,28,29]⟩) .leaf .leaf) .leaf) .leaf)) .leaf)) .leaf))))
theorem DOwned_eq(d:Option Addr)(space:Int)(R:aB)(w:World):uS d space R w=vcF Tryz.prog aJ [] Tryz.f51 E9 [(.pointer d),(.int .i64 space)] R none w:=by kernel_rfl
theorem wq(d:Option Addr)(space:Int) {R:aB} {w:World}(h:uS d space R w):Calls Tryz.prog 51 #[(.pointer d),(.int .i64 space)] w fun e w'=>∃v,e= .returned v∧R v w':=
 ao Tryz.func51 aw aa ((DOwned_eq d space R w).mp h)
end Go.Proofs.YtbjlecpmgocoeaaGreatDoor
end
section
set_option maxRecDepth 10000
set_option maxHeartbeats 1000000
namespace Go.Proofs.YtbjlecpmgocoeaaGreatDoor
open Go Go.RowKit V
open Go.IntKind (i64 u32 u64)
def DB.row(D:DB)(p:Nat):List Value:= [.int .i64 (p:Int),.agg #[.int .i64 (D.ent p).typ,.int .i64 (D.ent p).owner,.int .i64 (D.ent p).refs,.int .i64 (D.ent p).state,.bool (D.ent p).aG]]
def DB.rows(D:DB):List (List Value):=(List.range D.S).map D.row
theorem DB.qJ(D:DB):D.rows.length=D.S:=by simp [DB.rows]
theorem DB.wU {D:DB} {i:Nat}(h:i<D.S):D.rows[i]? =some (D.row i):=by simp [DB.rows,h]
theorem DB.HL {D:DB} {i:Nat} {x:List Value}(h:D.rows[i]? =some x):i<D.S∧x=D.row i:=by
 have:=(List.getElem?_eq_some_iff.1 h).1
 rw [DB.qJ]at this
 rw [DB.wU this]at h
 exact⟨this,(Option.some.inj h).symm⟩
def dO.XI(L:dO)(g:Nat):Nat→Prop:=fun k=>L.X k∨k=g
theorem DBP.it {L:dO} {D:DB} {w A:World} {g:Nat}(h:DBP w L D)(k:Kept (L.XI g) w A):DBP A L D:=h.ch (Ch.HY k) fun _ hx hn=>hn (.inl hx)
theorem Ge {L:dO} {D:DB} {w:World}(h:DBP w L D):
 Calls Tryz.prog 99 #[.pointer (some (Addr.mk L.g 0 none))] w fun e w'=>∃v,e= .returned v∧∃g T,v= .func (.func 132) #[] #[.pointer (some (Addr.mk g 0 none))]∧Blk w' g #[.pointer (some (Addr.mk L.g 0 none))] T∧w.heap.size≤g∧Pu w w':=by
 refine sO _ ?_
 refine mkd fun gv wv m=>?_
 exact⟨gv,_,rfl,m.blk,m.lo (Ch.refl (fun _=>False) w),m.pu⟩
theorem K3 {L:dO} {D:DB} {w:World} {g:Nat} {T:TypeId}(h:DBP w L D)(hg:Blk w g #[.pointer (some (Addr.mk L.g 0 none))] T):
 Iter Tryz.prog 132 #[.pointer (some (Addr.mk g 0 none))] D.rows (L.XI g) (fun _ A=>Kept (L.XI g) w A):=by
 have hlt:∀k,L.XI g k→k<w.heap.size:=fun k hk=>hk.elim (h.lt k) (fun e=>e▸hg.lt)
 have h64:=h.S64
 refine Dy hlt fun l J Jx W sJ sJx j0 d0 hy=>?_
 rw [DB.qJ]
 have pJ:∀ {i A B},J i A→Pu A B→J i B:=fun a q=>sJ _ _ _ a (q.mono fun _ h=>h.elim)
 have jZ:∀ {A B},Kept (L.XI g) w A→Pu A B→Kept (L.XI g) w B:=fun a q=>a.trans (q.jZ fun k hk=>Nat.lt_of_lt_of_le (hlt k hk) a.size)
 have ld:∀ {A},Kept (L.XI g) w A→A.cell? (Addr.mk g 0 none)=some (.pointer (some (Addr.mk L.g 0 none))):=fun a=>by rw [a.cell (p:=Addr.mk g 0 none) (.inr rfl)];exact hg.at0 rfl
 refine Calls.mono (P:=Tryz.prog) (oG (.func (.yield l) #[] #[]) (Addr.mk g 0 none) (R:=fun _ B=>(J D.S B∧Kept (L.XI g) w B)∨∃i,Jx i B∧Kept (L.XI g) w B) ?_) (fun e B hh=>by obtain⟨v,h1,h2⟩:=hh;exact⟨⟨v,h1⟩,h2⟩)
 refine⟨_,ld d0,Calls.mono (AF (h.it d0)) ?_⟩
 rintro e _ ⟨_,rfl,rfl,rfl⟩
 refine⟨_,rfl,?_⟩
 refine⟨fun mz x A=>0≤x∧x≤D.S∧mz=((D.S:Int) - x).toNat∧J x.toNat A∧Kept (L.XI g) w A,⟨_,by omega,by omega,rfl,j0,d0⟩,?_⟩
 rintro mz _ x A ⟨hx0,hx1,rfl,hj,hd⟩
 refine au (fun c1=>?_) (fun c1=>?_)
 ·refine⟨_,ld hd,Calls.mono (dAt (h.it hd) _ (by simp [DB.has];omega)) ?_⟩
  rintro e A1 ⟨_,rfl,rfl,q1⟩
  refine⟨_,_,_,_,_,rfl,?_⟩
  have hyy:=hy x.toNat _ A1 (DB.wU (by omega)) (pJ hj q1) (jZ hd q1)
  simp only [DB.row,show((x.toNat:Nat):Int)=x by omega]at hyy
  refine uV hyy ?_
  rintro e B (⟨rfl,hj2,hk2⟩ | ⟨rfl,hj2,hk2⟩)
  ·refine⟨_,rfl,dS ?_⟩
   refine⟨_,?_,by rw [IntKind.wrap_i64];omega,by rw [IntKind.wrap_i64];omega,rfl,?_,(jZ hd q1).trans hk2⟩
   ·rw [IntKind.wrap_i64];omega
   ·rw [af (by omega),show(x+1).toNat=x.toNat+1 by omega];exact hj2
  ·exact⟨_,rfl,aV (.inr ⟨_,hj2,(jZ hd q1).trans hk2⟩)⟩
 ·exact .inl ⟨by rw [show D.S=x.toNat by omega];exact hj,hd⟩
theorem Kb {L:dO} {D:DB} {w:World}(h:DBP w L D)(space:Int):
 Calls Tryz.prog 51 #[.pointer (some (Addr.mk L.g 0 none)),.int .i64 space] w fun e w'=>∃v,e= .returned v∧∃Z':Nat→Prop,∃A':Option Addr,∃N' C':Nat,v= .slice A' N' C'∧Own w' Z' 3 A' N' C' (if D.dG space then D.eA space D.S else [])∧(∀k,Z' k→w.heap.size≤k)∧Pu w w':=by
 refine wq _ _ ?_
 have h64:=h.S64
 refine mkd fun gv wv m=>?_
 refine⟨_,m.blk.at0 rfl,Calls.mono (rG (h.pu m.pu) _) ?_⟩
 rintro e wv1 ⟨_,rfl,rfl,q1⟩
 refine⟨_,rfl,?_⟩
 have b0:=q1.blk m.blk
 have lg:=m.lo (Ch.refl (fun _=>False) w)
 have p1:Pu w wv1:=Ch.pu m.pu q1
 refine aQ (fun c1=>?_) (fun c1=>?_)
 ·exact⟨fun _=>False,_,_,_,rfl,by rw [if_neg (by simp [c1])];exact Own.nil,fun k hk=>hk.elim,p1⟩
 refine mkd fun gv1 wv2 m1=>?_
 have b0:=m1.old b0
 have ne:=m1.ne (q1.blk m.blk)
 have p2:Pu w wv2:=Ch.pu p1 m1.pu
 have lg1:=m1.lo p1
 refine Calls.mono (Ge (h.pu p2)) ?_
 rintro e wv3 ⟨_,rfl,g,T,rfl,bg,lgg,q3⟩
 refine⟨_,rfl,_,_,rfl,by kernel_rfl,?_⟩
 intro l dl wv4 hdl hl k4 hl4 hdo
 have b0:=q3.blk b0
 have b1:=q3.blk m1.blk
 have q4:Pu wv3 wv4:=⟨k4.mono fun _ h=>h.1⟩
 have p3:Pu w wv3:=Ch.pu p2 q3
 have p4:Pu w wv4:=Ch.pu p3 q4
 have h4:=h.pu p4
 have bg4:=q4.blk bg
 have glt:=bg.lt
 have g1lt:=(q3.blk m1.blk).lt
 have g0lt:=b0.lt
 have hXlt:∀k,L.XI g k→k<wv3.heap.size:=fun k hk=>hk.elim ((h.pu p3).lt k) (fun e=>e▸glt)
 have nX0:¬L.XI g gv:=fun hx=>hx.elim (fun hx=>absurd (h.lt _ hx) (by omega)) (fun e=>by have:=m1.old (q1.blk m.blk) |>.lt;omega)
 have nX1:¬L.XI g gv1:=fun hx=>hx.elim (fun hx=>absurd (h.lt _ hx) (by omega)) (fun e=>by have:=m1.lt;omega)
 have hw3:=p3.size
 let Zn:Nat→Prop:=fun k=>wv4.heap.size≤k
 let J:Nat→World→Prop:=fun i A=>Ch (L.XI g) w A∧Blk A gv #[.int .i64 space] 3∧(∃ad n c T,Blk A gv1 #[.slice ad n c] T∧Own A Zn 3 ad n c (D.eA space i))∧A.heap[dl]? =some (.deferred (some []))∧wv4.heap.size≤A.heap.size
 have sJ:yK (L.XI g) l J:=HE fun i A B hj q=>by
  obtain⟨a1,a2,⟨ad,n,c,T2,a3,a4⟩,a5,a6⟩:=hj
  refine⟨a1.call q fun k hk=>hk.elim .inl (fun e=>.inr (by omega)),q.blk a2 (fun hx=>hx.elim nX0 (by omega)),⟨ad,n,c,T2,q.blk a3 (fun hx=>hx.elim nX1 (by omega)),a4.ch q fun k hk hx=>?_⟩,q.obj a5 (fun hx=>hx.elim (fun hx=>absurd (hXlt _ hx) (by omega)) (by omega)),Nat.le_trans a6 q.size⟩
  have hk:wv4.heap.size≤k:=hk
  exact hx.elim (fun hx=>absurd (hXlt _ hx) (by have:=k4.size;omega)) (by omega)
 refine⟨D.rows,L.XI g,_,J,fun _ _=>False,fun _ _ _=>False,K3 h4 bg4,hXlt,?_,⟨sJ,fun _ _ _ h _=>h,fun _ _ _ _ h _=>h⟩,Kept.refl _ _,?_,?_,?_,fun _ _ h _=>h.elim,trivial⟩
 ·intro x hx
  obtain⟨i,hi,rfl⟩:=List.mem_map.1 hx
  exact⟨_,_,_,_,_,_,rfl⟩
 ·exact⟨p4.mono fun _ h=>h.elim,q4.blk b0,⟨_,_,_,_,q4.blk b1,by exact Own.nil⟩,hdo,Nat.le_refl _⟩
 ·rintro i A ⟨a1,a2,⟨ad,n,c,T2,a3,a4⟩,a5,a6⟩ hd x14 xa xb xc xd xe hx
  obtain⟨hi,hx⟩:=DB.HL hx
  simp only [DB.row,List.cons.injEq,Value.int.injEq,Value.agg.injEq,Value.bool.injEq,Array.mk.injEq,and_true,true_and]at hx
  obtain⟨rfl,rfl,rfl,rfl,rfl,rfl⟩:=hx
  refine mkd fun gv2 wv6 m6=>?_
  refine bB m6.blk (by simp) fun wv7 s7=>?_
  have q6:Pu A wv7:=(show Pu A wv6 from m6.pu).stored s7 (.inr (m6.lo (Ch.refl (fun _=>False) A)))
  have hsz:∀k,L.XI g k∨k=l→k<A.heap.size:=fun k hk=>hk.elim (fun hx=>by have:=hXlt _ hx;have:=k4.size;omega) (by omega)
  refine⟨q6.jZ hsz,fun wv5 k5=>?_⟩
  have b2:Blk wv7 gv2 #[.int .i64 (D.ent i).typ,.int .i64 (D.ent i).owner,.int .i64 (D.ent i).refs,.int .i64 (D.ent i).state,.bool (D.ent i).aG] _:=s7.blk
  have q5:Ch (fun k=>k=l) wv7 wv5:=⟨k5⟩
  have n2:=m6.num
  have b2:=q5.blk b2 (by omega)
  have qa:Ch (fun k=>k=l) A wv5:=(q6.mono fun _ h=>h.elim).trans q5
  have b0:=qa.blk a2 (by omega)
  refine⟨fun b B=>b=D.fA space i∧B=wv5,?_,?_⟩
  ·refine⟨_,b0.at0 rfl,bh (fun c2=>?_) (fun c2=>⟨by simp [DB.fA,c2],rfl⟩)⟩
   refine⟨_,b2.at rfl,bh (fun c3=>?_) (fun c3=>⟨by simp [DB.fA,c3],rfl⟩)⟩
   exact⟨_,b2.at rfl,_,b0.at0 rfl,by simp [DB.fA,c2,c3],rfl⟩
  rintro _ b B ⟨rfl,rfl⟩
  have e1:D.eA space (i+1)=if D.fA space i then D.eA space i++ [I64.mk i]else D.eA space i:=by
   have:=D.kG space (p:=(i:Int)) (by omega)
   rwa [af (by omega),show((i:Int)+1).toNat=i+1 by omega,show((i:Nat):Int).toNat=i by omega]at this
  have hj5:Ch (L.XI g) w B∧Blk B gv #[.int .i64 space] 3∧(∃T,Blk B gv1 #[.slice ad n c] T)∧Own B Zn 3 ad n c (D.eA space i)∧B.heap[dl]? =some (.deferred (some []))∧wv4.heap.size≤B.heap.size:=
   ⟨a1.call qa fun k e=>.inr (by omega),b0,⟨_,qa.blk a3 (by omega)⟩,a4.ch qa (fun k (hk:wv4.heap.size≤k) e=>by omega),qa.obj a5 (by omega),Nat.le_trans a6 qa.size⟩
  obtain⟨c1,c2,⟨T3,c3⟩,c4,c5,c6⟩:=hj5
  cases hb:D.fA space i
  ·refine dS ⟨Kept.refl _ _,c1,c2,⟨_,_,_,_,c3,by rw [e1,hb];exact c4⟩,c5,c6⟩
  ·refine aV ?_
   refine⟨_,_,_,c3.at0 rfl,?_⟩
   refine mkd fun gv4 wv9 m9=>?_
   have hlen:=(c4.pu m9.pu).len
   have hol:=D.qP space i
   refine(c4.pu m9.pu).app JC m9.blk (x:=I64.mk i) (by rfl) (by omega) (by omega) (by exact Nat.le_trans c6 m9.pu.size) (fun A9 c9 wv10 o9 q9=>?_)
   have c3:=q9.blk (m9.old c3) (fun hx=>absurd c3.lt (by have hx:wv4.heap.size≤gv1:=hx;omega))
   refine bB c3 (by simp) fun wv11 s11=>?_
   have hZ1:∀k,Zn k→k≠gv1:=fun k (hk:wv4.heap.size≤k) e=>by omega
   have q11:Ch (fun k=>wv4.heap.size≤k∨k=gv1) B wv11:=((show Ch _ B wv9 from m9.pu.mono fun _ h=>h.elim).call q9 fun k hk=>.inl (.inl hk)).call s11.ch fun k e=>.inl (.inr e)
   refine⟨q11.kept.mono fun k hk=>⟨hk.elim (fun hx=>by have:=hXlt _ hx;have:=k4.size;omega) (by omega),fun h=>hk.elim (fun hx=>h.elim (fun h=>absurd (hXlt _ hx) (by have:=k4.size;omega)) (fun e=>nX1 (e▸hx))) (fun e=>h.elim (by omega) (by omega))⟩,?_⟩
   refine⟨c1.call q11 fun k hk=>.inr (hk.elim (fun h=>Nat.le_trans p4.size h) (fun e=>by omega)),q11.blk c2 (fun h=>h.elim (by omega) (fun e=>ne e)),⟨_,_,_,_,s11.blk,by rw [e1,hb];exact o9.ch s11.ch fun k hk e=>hZ1 k hk e⟩,q11.obj c5 (fun h=>h.elim (by omega) (by omega)),Nat.le_trans c6 q11.size⟩
 ·rintro W ⟨a1,a2,⟨ad,n,c,T2,a3,a4⟩,a5,a6⟩ hd
  refine⟨_,_,_,a3.at0 rfl,a5,Zn,_,_,_,rfl,?_,fun k (hk:wv4.heap.size≤k)=>Nat.le_trans p4.size hk,?_⟩
  ·rw [if_pos c1]
   rw [DB.qJ]at a4
   exact a4.ch (Pu.put W dl _ (fun k=>k=dl) rfl) fun k (hk:wv4.heap.size≤k) e=>by omega
  ·exact(Pu.join p4 hd a1).call (Pu.put W dl _ (fun k=>k=dl) rfl) fun k e=>.inr (by omega)
end Go.Proofs.YtbjlecpmgocoeaaGreatDoor
end
section
set_option maxRecDepth 100000
set_option maxHeartbeats 1000000
namespace Go.Proofs.YtbjlecpmgocoeaaGreatDoor
open Go Go.RowKit V
open Go.IntKind (i64 u32 u64)
open Go.Proofs (Tryz.prog)
attribute [local grind=] Pd.cB Pd.bN Pd.jT Pd.kq Pd.dy Pd.cA Pd.eT Pd.gM Pd.mT
attribute [local grind .] Pd.Ok.ent
attribute [local grind→] Pd.Ok.dk
def BT:Ctr Un:=⟨[.one (.obj 0 0),.agg [.bool,.int .i64]],[],[.ob 0 []],[],fun fa fb rm m K=>K ⟨(.bool (m.has fa fb)),none,[],[],[]⟩⟩
theorem Ky:LV Un Tryz.prog 109 BT:=by
 show ∀(fa:Bool)(fb:Int)(rm:Nat→Nat)(m:Mem),∀Q:Ou Un→Prop,(Q ⟨(.bool (m.has fa fb)),none,[],[],[]⟩)→∀(X:Nat→Nat→Prop)(w:World),Sat (U:=Un) [(.ob 0 rm m)] X w→aC (U:=Un) [(.ob 0 rm m)] fr0 []→Calls Tryz.prog 109 #[(.pointer (some (Addr.mk (rm 0) 0 none))),(.agg #[(.bool fa),(.int .i64 fb)])] w (aU (U:=Un) [(.ob 0 rm m)] [] X w Q)
 intro fa fb rm m Q hQ X w hs hl
 obtain⟨L,hg,hM,hX⟩:=Cq hs
 rw [hg]
 refine(Lr hM fa fb).mono ?_
 rintro e w' ⟨u,rfl,rfl,q⟩
 exact aU.pu hs q hQ trivial
def wg:Ctr Un:=⟨[.one (.obj 0 0),.agg [.bool,.int .i64],.one (.int .i64)],[],[.ob 0 []],[],fun fa fb off rm m K=>K ⟨(.int .u32 (m.gD fa fb off)),none,[],[],[]⟩⟩
theorem IT:LV Un Tryz.prog 98 wg:=by
 show ∀(fa:Bool)(fb:Int)(off:Int)(rm:Nat→Nat)(m:Mem),∀Q:Ou Un→Prop,(Q ⟨(.int .u32 (m.gD fa fb off)),none,[],[],[]⟩)→∀(X:Nat→Nat→Prop)(w:World),Sat (U:=Un) [(.ob 0 rm m)] X w→aC (U:=Un) [(.ob 0 rm m)] fr0 []→Calls Tryz.prog 98 #[(.pointer (some (Addr.mk (rm 0) 0 none))),(.agg #[(.bool fa),(.int .i64 fb)]),(.int .i64 off)] w (aU (U:=Un) [(.ob 0 rm m)] [] X w Q)
 intro fa fb off rm m Q hQ X w hs hl
 obtain⟨L,hg,hM,hX⟩:=Cq hs
 rw [hg]
 refine(KT hM fa fb off).mono ?_
 rintro e w' ⟨u,rfl,rfl,q⟩
 exact aU.pu hs q hQ trivial
def sA:Ctr Un:=⟨[.one (.obj 0 0),.agg [.bool,.int .i64],.one (.int .i64),.one (.int .u32)],[],[.ob 0 []],[0],fun fa fb off v rm m K=>(0≤(v:Int)∧(v:Int)<4294967296)∧K ⟨(.int .i64 (m.err fa fb off)),none,[.ob 0 (m.write fa fb off v)],[],[]⟩⟩
theorem Hb:LV Un Tryz.prog 23 sA:=by
 show ∀(fa:Bool)(fb:Int)(off:Int)(v:Int)(rm:Nat→Nat)(m:Mem),∀Q:Ou Un→Prop,((0≤(v:Int)∧(v:Int)<4294967296)∧Q ⟨(.int .i64 (m.err fa fb off)),none,[.ob 0 (m.write fa fb off v)],[],[]⟩)→∀(X:Nat→Nat→Prop)(w:World),Sat (U:=Un) [(.ob 0 rm m)] X w→aC (U:=Un) [(.ob 0 rm m)] fr0 []→Calls Tryz.prog 23 #[(.pointer (some (Addr.mk (rm 0) 0 none))),(.agg #[(.bool fa),(.int .i64 fb)]),(.int .i64 off),(.int .u32 v)] w (aU (U:=Un) [(.ob 0 rm m)] [0] X w Q)
 intro fa fb off v rm m Q hQ X w hs hl
 obtain⟨hp0,hQ⟩:=hQ
 obtain⟨L,hg,hM,hX⟩:=Cq hs
 rw [hg]
 refine(FW hM fa fb off v hp0).mono ?_
 rintro e w' ⟨u,rfl,rfl,h2,q⟩
 exact aU.one (Z:=X 0) (q.mono fun k hk=>(hX k).1 hk) (show bp 0 rm _ (X 0) w' from⟨L,hg,hX,h2⟩) (fun k hk=>.inl hk) hQ trivial
def fR:Ctr Un:=⟨[.one (.obj 0 0)],[],[.ob 1 [(1,1,0)],.ob 0 []],[],fun r E rm m K=>K ⟨(.pointer (some (Addr.mk (r 1) 0 none))),(some (.p (.obj 1 0 0))),[],[],[]⟩⟩
def Fa(r:Nat→Nat)(E:Pd)(rm:Nat→Nat)(m:Mem)(Q:Ou Un→Prop):Prop:=
 Pd.Ok E→
 Mem.Wf m→
 Q ⟨(.pointer (some (Addr.mk (r 1) 0 none))),(some (.p (.obj 1 0 0))),[],[],[]⟩
theorem Fb:Vc2 Un Tryz.prog (aN []) [] Tryz.f54 .leaf [] fR=(∀r (E:Pd) rm (m:Mem),∀Q,(fR.body r E rm m Q)→Fa r E rm m Q):=by kernel_rfl
theorem uT:LV Un Tryz.prog 54 fR:=verify Tryz.func54 aa (tb:= []) trivial (by kernel_rfl) (Fb.mpr fun r E rm m Q h=>fun f1 f2=>h)
def jH:Ctr Un:=⟨[.one (.obj 0 0)],[],[.ob 1 []],[],fun r E K=>K ⟨(.int .i64 E.ay),none,[],[],[]⟩⟩
def Ff(r:Nat→Nat)(E:Pd)(Q:Ou Un→Prop):Prop:=
 Pd.Ok E→
 Q ⟨(.int .i64 (Pd.ay E)),none,[],[],[]⟩
theorem Fg:Vc2 Un Tryz.prog (aN []) [] Tryz.f102 .leaf [] jH=(∀r (E:Pd),∀Q,(jH.body r E Q)→Ff r E Q):=by kernel_rfl
theorem Fe:LV Un Tryz.prog 102 jH:=verify Tryz.func102 aa (tb:= []) trivial (by kernel_rfl) (Fg.mpr fun r E Q h=>fun f1=>eE h (by omega))
def sI:Ctr Un:=⟨[.one (.obj 0 0)],[],[.ob 1 [(1,1,0)],.ob 0 []],[],fun r E rm m K=>E.n=m.S∧K ⟨(.int .i64 ((E.on m).S:Int)),none,[],[],[]⟩⟩
theorem Ht:LV Un Tryz.prog 18 sI:=by
 show ∀(r:Nat→Nat)(E:Pd)(rm:Nat→Nat)(m:Mem),∀Q:Ou Un→Prop,(E.n=m.S∧Q ⟨(.int .i64 ((E.on m).S:Int)),none,[],[],[]⟩)→∀(X:Nat→Nat→Prop)(w:World),Sat (U:=Un) [(.ob 1 r E),(.ob 0 rm m)] X w→aC (U:=Un) [(.ob 1 r E),(.ob 0 rm m)] fr0 [(.l 0 1,.p (.obj 1 0 0))]→Calls Tryz.prog 18 #[(.pointer (some (Addr.mk (r 0) 0 none)))] w (aU (U:=Un) [(.ob 1 r E),(.ob 0 rm m)] [] X w Q)
 intro r E rm m Q hQ X w hs hl
 obtain⟨hn,hQ⟩:=hQ
 obtain⟨a,L,hg,hr,hD,hX0,hX1⟩:=sU hs hl hn
 refine(AF hD).mono ?_
 rintro e w' ⟨u,rfl,rfl,rfl⟩
 exact aU.pu hs (Ch.refl _ _) hQ trivial
def sN:Ctr Un:=⟨[.one (.obj 0 0),.one (.int .i64)],[],[.ob 1 [(1,1,0)],.ob 0 []],[],fun p r E rm m K=>E.n=m.S∧K ⟨(.tuple #[(.agg #[(.int .i64 (((E.on m).entry p).typ)),(.int .i64 (((E.on m).entry p).owner)),(.int .i64 (((E.on m).entry p).refs)),(.int .i64 (((E.on m).entry p).state)),(.bool (((E.on m).entry p).aG))]),(.int .i64 ((E.on m).kM p))]),(some (.t [none,none])),[],[],[]⟩⟩
theorem Hx:LV Un Tryz.prog 49 sN:=by
 show ∀(p:Int)(r:Nat→Nat)(E:Pd)(rm:Nat→Nat)(m:Mem),∀Q:Ou Un→Prop,(E.n=m.S∧Q ⟨(.tuple #[(.agg #[(.int .i64 (((E.on m).entry p).typ)),(.int .i64 (((E.on m).entry p).owner)),(.int .i64 (((E.on m).entry p).refs)),(.int .i64 (((E.on m).entry p).state)),(.bool (((E.on m).entry p).aG))]),(.int .i64 ((E.on m).kM p))]),(some (.t [none,none])),[],[],[]⟩)→∀(X:Nat→Nat→Prop)(w:World),Sat (U:=Un) [(.ob 1 r E),(.ob 0 rm m)] X w→aC (U:=Un) [(.ob 1 r E),(.ob 0 rm m)] fr0 [(.l 0 1,.p (.obj 1 0 0))]→Calls Tryz.prog 49 #[(.pointer (some (Addr.mk (r 0) 0 none))),(.int .i64 p)] w (aU (U:=Un) [(.ob 1 r E),(.ob 0 rm m)] [] X w Q)
 intro p r E rm m Q hQ X w hs hl
 obtain⟨hn,hQ⟩:=hQ
 obtain⟨a,L,hg,hr,hD,hX0,hX1⟩:=sU hs hl hn
 refine(Kc hD p).mono ?_
 rintro e w' ⟨u,rfl,rfl,q⟩
 exact aU.pu hs q hQ (KnO.tup _ (by simp))
def ki:Ctr Un:=⟨[.one (.obj 0 0),.one (.int .i64),.one (.int .i64)],[],[.ob 1 [(1,1,0)],.ob 0 []],[0,1],fun p q r E rm m K=>E.n=m.S∧K ⟨(.int .i64 ((E.on m).aX p q)),none,[.ob 1 (((E.on m).aS p q).pd),.ob 0 (((E.on m).aS p q).mem)],[],[]⟩⟩
theorem wm:LV Un Tryz.prog 32 ki:=by
 show ∀(p:Int)(q:Int)(r:Nat→Nat)(E:Pd)(rm:Nat→Nat)(m:Mem),∀Q:Ou Un→Prop,(E.n=m.S∧Q ⟨(.int .i64 ((E.on m).aX p q)),none,[.ob 1 (((E.on m).aS p q).pd),.ob 0 (((E.on m).aS p q).mem)],[],[]⟩)→∀(X:Nat→Nat→Prop)(w:World),Sat (U:=Un) [(.ob 1 r E),(.ob 0 rm m)] X w→aC (U:=Un) [(.ob 1 r E),(.ob 0 rm m)] fr0 [(.l 0 1,.p (.obj 1 0 0))]→Calls Tryz.prog 32 #[(.pointer (some (Addr.mk (r 0) 0 none))),(.int .i64 p),(.int .i64 q)] w (aU (U:=Un) [(.ob 1 r E),(.ob 0 rm m)] [0,1] X w Q)
 intro p q r E rm m Q hQ X w hs hl
 obtain⟨hn,hQ⟩:=hQ
 obtain⟨a,L,hg,hr,hD,hX0,hX1⟩:=sU hs hl hn
 refine(AE hD p q).mono ?_
 rintro e w' ⟨u,rfl,rfl,h2,q⟩
 exact tP hs hX0 hX1 hg hr h2 q hQ trivial
def wk:Ctr Un:=⟨[.one (.obj 0 0),.one (.int .i64),.one (.int .i64),.one (.int .i64)],[],[.ob 1 [(1,1,0)],.ob 0 []],[0,1],fun p t o r E rm m K=>E.n=m.S∧K ⟨(.int .i64 ((E.on m).cu p t o)),none,[.ob 1 (((E.on m).take p t o).pd),.ob 0 (((E.on m).take p t o).mem)],[],[]⟩⟩
theorem I0:LV Un Tryz.prog 34 wk:=by
 show ∀(p:Int)(t:Int)(o:Int)(r:Nat→Nat)(E:Pd)(rm:Nat→Nat)(m:Mem),∀Q:Ou Un→Prop,(E.n=m.S∧Q ⟨(.int .i64 ((E.on m).cu p t o)),none,[.ob 1 (((E.on m).take p t o).pd),.ob 0 (((E.on m).take p t o).mem)],[],[]⟩)→∀(X:Nat→Nat→Prop)(w:World),Sat (U:=Un) [(.ob 1 r E),(.ob 0 rm m)] X w→aC (U:=Un) [(.ob 1 r E),(.ob 0 rm m)] fr0 [(.l 0 1,.p (.obj 1 0 0))]→Calls Tryz.prog 34 #[(.pointer (some (Addr.mk (r 0) 0 none))),(.int .i64 p),(.int .i64 t),(.int .i64 o)] w (aU (U:=Un) [(.ob 1 r E),(.ob 0 rm m)] [0,1] X w Q)
 intro p t o r E rm m Q hQ X w hs hl
 obtain⟨hn,hQ⟩:=hQ
 obtain⟨a,L,hg,hr,hD,hX0,hX1⟩:=sU hs hl hn
 refine(K1 hD p t o).mono ?_
 rintro e w' ⟨u,rfl,rfl,h2,q⟩
 exact tP hs hX0 hX1 hg hr h2 q hQ trivial
def wj:Ctr Un:=⟨[.one (.obj 0 0),.one (.int .i64),.one (.int .i64)],[],[.ob 1 [(1,1,0)],.ob 0 []],[0,1],fun p t r E rm m K=>E.n=m.S∧K ⟨(.int .i64 ((E.on m).dR p t)),none,[.ob 1 (((E.on m).iN p t).pd),.ob 0 (((E.on m).iN p t).mem)],[],[]⟩⟩
theorem IZ:LV Un Tryz.prog 36 wj:=by
 show ∀(p:Int)(t:Int)(r:Nat→Nat)(E:Pd)(rm:Nat→Nat)(m:Mem),∀Q:Ou Un→Prop,(E.n=m.S∧Q ⟨(.int .i64 ((E.on m).dR p t)),none,[.ob 1 (((E.on m).iN p t).pd),.ob 0 (((E.on m).iN p t).mem)],[],[]⟩)→∀(X:Nat→Nat→Prop)(w:World),Sat (U:=Un) [(.ob 1 r E),(.ob 0 rm m)] X w→aC (U:=Un) [(.ob 1 r E),(.ob 0 rm m)] fr0 [(.l 0 1,.p (.obj 1 0 0))]→Calls Tryz.prog 36 #[(.pointer (some (Addr.mk (r 0) 0 none))),(.int .i64 p),(.int .i64 t)] w (aU (U:=Un) [(.ob 1 r E),(.ob 0 rm m)] [0,1] X w Q)
 intro p t r E rm m Q hQ X w hs hl
 obtain⟨hn,hQ⟩:=hQ
 obtain⟨a,L,hg,hr,hD,hX0,hX1⟩:=sU hs hl hn
 refine(K0 hD p t).mono ?_
 rintro e w' ⟨u,rfl,rfl,h2,q⟩
 exact tP hs hX0 hX1 hg hr h2 q hQ trivial
def wx:Ctr Un:=⟨[.one (.obj 0 0),.one (.int .i64)],[],[.ob 1 [(1,1,0)],.ob 0 []],[0,1],fun p r E rm m K=>E.n=m.S∧K ⟨(.int .i64 ((E.on m).cv p)),none,[.ob 1 (((E.on m).fj p).pd),.ob 0 (((E.on m).fj p).mem)],[],[]⟩⟩
theorem I7:LV Un Tryz.prog 38 wx:=by
 show ∀(p:Int)(r:Nat→Nat)(E:Pd)(rm:Nat→Nat)(m:Mem),∀Q:Ou Un→Prop,(E.n=m.S∧Q ⟨(.int .i64 ((E.on m).cv p)),none,[.ob 1 (((E.on m).fj p).pd),.ob 0 (((E.on m).fj p).mem)],[],[]⟩)→∀(X:Nat→Nat→Prop)(w:World),Sat (U:=Un) [(.ob 1 r E),(.ob 0 rm m)] X w→aC (U:=Un) [(.ob 1 r E),(.ob 0 rm m)] fr0 [(.l 0 1,.p (.obj 1 0 0))]→Calls Tryz.prog 38 #[(.pointer (some (Addr.mk (r 0) 0 none))),(.int .i64 p)] w (aU (U:=Un) [(.ob 1 r E),(.ob 0 rm m)] [0,1] X w Q)
 intro p r E rm m Q hQ X w hs hl
 obtain⟨hn,hQ⟩:=hQ
 obtain⟨a,L,hg,hr,hD,hX0,hX1⟩:=sU hs hl hn
 refine(K5 hD p).mono ?_
 rintro e w' ⟨u,rfl,rfl,h2,q⟩
 exact tP hs hX0 hX1 hg hr h2 q hQ trivial
def lh:Ctr Un:=⟨[.one (.obj 0 0),.one (.int .i64),.one (.int .i64)],[],[.ob 1 [(1,1,0)],.ob 0 []],[0,1],fun p t r E rm m K=>E.n=m.S∧K ⟨(.int .i64 ((E.on m).bA p t)),none,[.ob 1 (((E.on m).setState p t).pd),.ob 0 (((E.on m).setState p t).mem)],[],[]⟩⟩
theorem zL:LV Un Tryz.prog 40 lh:=by
 show ∀(p:Int)(t:Int)(r:Nat→Nat)(E:Pd)(rm:Nat→Nat)(m:Mem),∀Q:Ou Un→Prop,(E.n=m.S∧Q ⟨(.int .i64 ((E.on m).bA p t)),none,[.ob 1 (((E.on m).setState p t).pd),.ob 0 (((E.on m).setState p t).mem)],[],[]⟩)→∀(X:Nat→Nat→Prop)(w:World),Sat (U:=Un) [(.ob 1 r E),(.ob 0 rm m)] X w→aC (U:=Un) [(.ob 1 r E),(.ob 0 rm m)] fr0 [(.l 0 1,.p (.obj 1 0 0))]→Calls Tryz.prog 40 #[(.pointer (some (Addr.mk (r 0) 0 none))),(.int .i64 p),(.int .i64 t)] w (aU (U:=Un) [(.ob 1 r E),(.ob 0 rm m)] [0,1] X w Q)
 intro p t r E rm m Q hQ X w hs hl
 obtain⟨hn,hQ⟩:=hQ
 obtain⟨a,L,hg,hr,hD,hX0,hX1⟩:=sU hs hl hn
 refine(DE hD p t).mono ?_
 rintro e w' ⟨u,rfl,rfl,h2,q⟩
 exact tP hs hX0 hX1 hg hr h2 q hQ trivial
def jg:Ctr Un:=⟨[.one (.obj 0 0),.one (.int .i64),.one (.bool)],[],[.ob 1 [(1,1,0)],.ob 0 []],[0,1],fun p b r E rm m K=>E.n=m.S∧K ⟨(.int .i64 ((E.on m).bq p)),none,[.ob 1 (((E.on m).bf p b).pd),.ob 0 (((E.on m).bf p b).mem)],[],[]⟩⟩
theorem tA:LV Un Tryz.prog 42 jg:=by
 show ∀(p:Int)(b:Bool)(r:Nat→Nat)(E:Pd)(rm:Nat→Nat)(m:Mem),∀Q:Ou Un→Prop,(E.n=m.S∧Q ⟨(.int .i64 ((E.on m).bq p)),none,[.ob 1 (((E.on m).bf p b).pd),.ob 0 (((E.on m).bf p b).mem)],[],[]⟩)→∀(X:Nat→Nat→Prop)(w:World),Sat (U:=Un) [(.ob 1 r E),(.ob 0 rm m)] X w→aC (U:=Un) [(.ob 1 r E),(.ob 0 rm m)] fr0 [(.l 0 1,.p (.obj 1 0 0))]→Calls Tryz.prog 42 #[(.pointer (some (Addr.mk (r 0) 0 none))),(.int .i64 p),(.bool b)] w (aU (U:=Un) [(.ob 1 r E),(.ob 0 rm m)] [0,1] X w Q)
 intro p b r E rm m Q hQ X w hs hl
 obtain⟨hn,hQ⟩:=hQ
 obtain⟨a,L,hg,hr,hD,hX0,hX1⟩:=sU hs hl hn
 refine(xU hD p b).mono ?_
 rintro e w' ⟨u,rfl,rfl,h2,q⟩
 exact tP hs hX0 hX1 hg hr h2 q hQ trivial
def sK:Ctr Un:=⟨[.one (.obj 0 0),.one (.int .i64)],[],[.ob 1 [(1,1,0)],.ob 0 []],[],fun s r E rm m K=>E.n=m.S∧∀(A:Option Addr)(c:Nat),K ⟨(.slice A ((own (E.on m) s).length) c),(some (.p (.sl 2 0))),[],[(.lst 0 true 3 A c (own (E.on m) s))],[]⟩⟩
theorem Hu:LV Un Tryz.prog 51 sK:=by
 show ∀(s:Int)(r:Nat→Nat)(E:Pd)(rm:Nat→Nat)(m:Mem),∀Q:Ou Un→Prop,(E.n=m.S∧∀(A:Option Addr)(c:Nat),Q ⟨(.slice A ((own (E.on m) s).length) c),(some (.p (.sl 2 0))),[],[(.lst 0 true 3 A c (own (E.on m) s))],[]⟩)→∀(X:Nat→Nat→Prop)(w:World),Sat (U:=Un) [(.ob 1 r E),(.ob 0 rm m)] X w→aC (U:=Un) [(.ob 1 r E),(.ob 0 rm m)] fr0 [(.l 0 1,.p (.obj 1 0 0))]→Calls Tryz.prog 51 #[(.pointer (some (Addr.mk (r 0) 0 none))),(.int .i64 s)] w (aU (U:=Un) [(.ob 1 r E),(.ob 0 rm m)] [] X w Q)
 intro s r E rm m Q hQ X w hs hl
 obtain⟨hn,hQ⟩:=hQ
 obtain⟨a,L,hg,hr,hD,hX0,hX1⟩:=sU hs hl hn
 refine(Kb hD s).mono ?_
 rintro e w' ⟨u,rfl,Z',A',N',C',rfl,ho,hz,q⟩
 have hl2:=ho.len
 subst hl2
 exact aU.more hs q (vg (U:=Un) (t:=0) ho) (fun k hk=>hz k hk.1) (hQ _ _) rfl
def vS:Ctr Un:=⟨[.one (.sl 0)],[],[.lst 1 false 22],[],fun A c l K=>((∀x∈l,0≤x.v∧x.v<4294967296))∧∀(dp:Value),K ⟨(.tuple #[dp,(.int .i64 (Dg.aE l))]),(some (.t [none,none])),[],[],[]⟩⟩
theorem IG:LV Un Tryz.prog 103 vS:=by
 show ∀(A:Option Addr)(c:Nat)(l:List U32),∀Q:Ou Un→Prop,(((∀x∈l,0≤x.v∧x.v<4294967296))∧∀(dp:Value),Q ⟨(.tuple #[dp,(.int .i64 (Dg.aE l))]),(some (.t [none,none])),[],[],[]⟩)→∀(X:Nat→Nat→Prop)(w:World),Sat (U:=Un) [(.lst 1 false 22 A c l)] X w→aC (U:=Un) [(.lst 1 false 22 A c l)] fr0 []→Calls Tryz.prog 103 #[(.slice A l.length c)] w (aU (U:=Un) [(.lst 1 false 22 A c l)] [] X w Q)
 intro A c l Q hQ X w hs hl
 obtain⟨hw,hQ⟩:=hQ
 have hr:Rd w (X 0) A l.length c l:=hs.res 0 _ rfl
 refine(KJ hr hw).mono ?_
 rintro e w' ⟨u,rfl,p,rfl,_,q⟩
 exact aU.pu hs q (hQ _) (KnO.tup _ (by simp))
end Go.Proofs.YtbjlecpmgocoeaaGreatDoor
end
section
set_option maxRecDepth 100000
set_option maxHeartbeats 1000000
namespace Go.Proofs.YtbjlecpmgocoeaaGreatDoor
open Go Go.RowKit V
open Go.IntKind (i64 u32 u64)
open Go.Proofs (Tryz.prog)
attribute [local grind=] Pd.cB Pd.bN Pd.jT Pd.kq Pd.dy Pd.cA Pd.eT Pd.gM Pd.mT Pd.gi
attribute [local grind .] Pd.Ok.ent
attribute [local grind→] Pd.Ok.dk
def ka:Ctr Un:=⟨[.one (.obj 0 0)],[],[.ob 1 [(1,1,0)],.ob 0 []],[],fun r E rm m K=>E.n=m.S∧∀(g:Nat)(A:Option Addr)(c:Nat),K ⟨(.pointer (some (Addr.mk g 0 none))),(some (.p (.loc 2 0))),[],[(.blk g [(.pointer (some (Addr.mk (r 0) 0 none))),(.slice A E.ai.length c)] 58),(.lst 4 true 99 A c E.ai)],[(.c 2 0,.p (.obj 0 0 0)),(.c 2 1,.p (.sl 3 0))]⟩⟩
def Iy(r:Nat→Nat)(E:Pd)(rm:Nat→Nat)(m:Mem)(Q:Ou Un→Prop):Prop:=
 Pd.Ok E→
 Mem.Wf m→
 (some (.pointer (some (Addr.mk (r 0) 0 none))):Option Value)=some (.pointer (some (Addr.mk (r 0) 0 none)))∧
 ∀(gv:Nat),
 E.n=m.S∧
 ∃I:Nat→Int→Option Addr→Nat→List Ent→Prop,(∃m1,I m1 0 none 0 ([]:List Ent))∧∀(m1:Nat)(_gv1:Nat→Value)(x12:Int)(A3:Option Addr)(c3:Nat)(l3:List Ent),I m1 x12 A3 c3 l3→
 split (decide (x12<(E.on m).S)) (
  E.n=m.S∧
  ∀(gv2:Nat),
  ∀(gv3:Nat),
  ∀(l:List Ent),l=([Ent.mk (((E.on m).entry x12).typ) (((E.on m).entry x12).owner) (((E.on m).entry x12).refs) (((E.on m).entry x12).state) (((E.on m).entry x12).aG)]:List Ent)→
  ((l3.length+l.length)*40≤140737488355328)∧
  ∀(A:Option Addr)(c:Nat),
  ∀(l1:List Ent),l1=(l3++l)→
  ∃m2,m2<m1∧I m2 (i64.wrap (x12+1)) A c l1) (
  Q ⟨(.pointer (some (Addr.mk gv 0 none))),(some (.p (.loc 2 0))),[],[(.blk gv [(.pointer (some (Addr.mk (r 0) 0 none))),(.slice A3 l3.length c3)] 58),(.lst 4 true 99 A3 c3 l3)],[(.c 2 0,.p (.obj 0 0 0)),(.c 2 1,.p (.sl 3 0))]⟩)
theorem Iz:Vc2 Un Tryz.prog (aN [(18,sI),(49,sN)]) [] Tryz.f21 (.r' (.r' (.two (.r' (.two (.node [(.c 2 1,4,99)] (some ⟨[(12,(.one (.int .i64)))],[],[4,5,6]++upN 12 20,[(2,(.blk [(.k (.obj 0 0 0)),(.k (.sl 3 0))])),(3,(.lst 4))]⟩) [] [] (.r' (.r' (.two (.two (.r' (.r' (.node [] none [] [(4,[2]),(5,[4])] .leaf .leaf))) .leaf) .leaf))) .leaf) .leaf)) .leaf))) [2,3] ka=(∀r (E:Pd) rm (m:Mem),∀Q,(ka.body r E rm m Q)→Iy r E rm m Q):=by kernel_rfl
theorem CL:LV Un Tryz.prog 21 ka:=verify Tryz.func21 aa (tb:= [(18,sI),(49,sN)]) ⟨Ht,Hx,trivial⟩ (by kernel_rfl) (Iz.mpr fun r E rm m Q h=>by
 obtain⟨hp0,h⟩:=h
 exact fun f1 f2=>aj (by rfl) fun s3=>fun gv=>aj ‹_› fun s4=>⟨fun m1 x12 A3 c3 l3=>(m1=((E.n:Int) - x12).toNat)∧(0≤x12∧x12≤(E.n:Int))∧(l3=E.ai.take x12.toNat),⟨_,rfl,(by omega),(by rfl)⟩,fun m1 _ x12 A3 c3 l3 ⟨hm,hi,hl3⟩=>au (fun c1=>aj ‹_› fun s5=>fun gv2=>fun gv3=>fun l h_l=>aj (by(have h8:l3.length≤E.n:=by rw [hl3,List.length_take,Pd.cB];omega);rw [h_l];simp;grind) fun s6=>fun A c=>fun l1 h_l1=>⟨_,(by(have h9:=af (x:=x12+1) (by grind));grind),rfl,(by(have h9:=af (x:=x12+1) (by grind));grind),(by rw [h_l1,h_l,hl3,af (x:=x12+1) (by grind),← C5 (E:=E) (by grind)];(have hh:(E.on m).entry x12=E.ent x12.toNat:=by(grind [DB.entry]));rw [hh])⟩) fun c1=>(by(have h7:E.ai=l3:=by rw [hl3,List.take_of_length_le];grind);exact aF (h gv A3 c3) rfl rfl (ah (congrArg (fun l=>Res.blk (U:=Un) _ l _) (ah rfl (ah (by grind) rfl))) (ah (congrArg (Res.lst (U:=Un) 4 true 99 _ _) ‹_›) rfl)))⟩)
def cJ:Ctr Un:=⟨[.one (.ptr 0),.one (.int .i64),.one (.int .i64)],[],[.blk [.obj 1 0,.sl 3] 58,.ob 1 [(1,2,0)],.ob 0 [],.lst 4 false 99],[],fun p t g r E rm m A c l K=>E.n=m.S∧l=E.ai∧(E.on m).has p=true∧K ⟨(.bool ((E.on m).is p t)),none,[],[],[]⟩⟩
def Le(p:Int)(t:Int)(g:Nat)(r:Nat→Nat)(E:Pd)(rm:Nat→Nat)(m:Mem)(A:Option Addr)(c:Nat)(l:List Ent)(Q:Ou Un→Prop):Prop:=
 Pd.Ok E→
 Mem.Wf m→
 (0≤p∧p<(l.length:Int))∧
 Q ⟨(.bool ((l.getD p.toNat Ent.free).typ==t)),none,[],[],[]⟩
theorem Lf:Vc2 Un Tryz.prog (aN []) [] Tryz.f56 .leaf [] cJ=(∀p t g r (E:Pd) rm (m:Mem) A c (l:List Ent),∀Q,(E.n=m.S∧l=E.ai∧(E.on m).has p=true∧Q ⟨(.bool ((E.on m).is p t)),none,[],[],[]⟩)→Le p t g r E rm m A c l Q):=by kernel_rfl
section
attribute [local grind=] DB.is
theorem iY:LV Un Tryz.prog 56 cJ:=verify Tryz.func56 aa (tb:= []) trivial (by kernel_rfl) (Lf.mpr fun p t g r E rm m A c l Q h=>by
 obtain⟨hp0,hp1,hp2,h⟩:=h
 subst hp1
 exact fun f1 f2=>aj (by grind) fun s3=>aM h (by grind))
end
def gm:Ctr Un:=⟨[.one (.ptr 0),.one (.int .i64)],[],[.blk [.obj 1 0,.sl 3] 58,.ob 1 [(1,2,0)],.ob 0 [],.lst 4 false 99],[],fun p g r E rm m A c l K=>E.n=m.S∧l=E.ai∧(E.on m).has p=true∧K ⟨(.int .i64 ((E.on m).cg p)),none,[],[],[]⟩⟩
def GK(p:Int)(g:Nat)(r:Nat→Nat)(E:Pd)(rm:Nat→Nat)(m:Mem)(A:Option Addr)(c:Nat)(l:List Ent)(Q:Ou Un→Prop):Prop:=
 Pd.Ok E→
 Mem.Wf m→
 (0≤p∧p<(l.length:Int))∧
 ∃J:Bool→Prop,(
  split (decide ((l.getD p.toNat Ent.free).owner<0)) (
   J true) (
   split (decide ((l.getD p.toNat Ent.free).owner≥(l.length:Int))) (
    J true) (
    E.n=m.S∧
    l=E.ai∧
    (E.on m).has ((l.getD p.toNat Ent.free).owner)=true∧
    J (!((E.on m).is ((l.getD p.toNat Ent.free).owner) 1)))))∧∀(_gv:Nat→Value)(x30:Bool),J x30→
 split x30 (
  Q ⟨(.int .i64 (-1)),none,[],[],[]⟩) (
  Q ⟨(.int .i64 ((l.getD p.toNat Ent.free).owner)),none,[],[],[]⟩)
theorem GL:Vc2 Un Tryz.prog (aN [(56,cJ)]) [] Tryz.f60 (.r' (.r' (.two (.two (.node [] (some ⟨[(30,(.one .bool))],[],upN 14 17,[]⟩) [] [] .leaf .leaf) .leaf) .leaf))) [] gm=(∀p g r (E:Pd) rm (m:Mem) A c (l:List Ent),∀Q,(E.n=m.S∧l=E.ai∧(E.on m).has p=true∧Q ⟨(.int .i64 ((E.on m).cg p)),none,[],[],[]⟩)→GK p g r E rm m A c l Q):=by kernel_rfl
section
attribute [local grind=] DB.cg DB.is
theorem r3:LV Un Tryz.prog 60 gm:=verify Tryz.func60 aa (tb:= [(56,cJ)]) ⟨iY,trivial⟩ (by kernel_rfl) (GL.mpr fun p g r E rm m A c l Q h=>by
 obtain⟨hp0,hp1,hp2,h⟩:=h
 subst hp1
 exact fun f1 f2=>aj (by grind) fun s3=>aY ((decide (((E.ai.getD p.toNat Ent.free).owner:Int)<0)) || ((decide (((E.ai.getD p.toNat Ent.free).owner:Int)≥((E.ai.length:Nat):Int))) || (!((E.on m).is ((E.ai.getD p.toNat Ent.free).owner) 1)))) (ab (fun c1=>(by grind)) fun c1=>ab (fun c2=>(by grind)) fun c2=>aj ‹_› fun s4=>aj (by rfl) fun s5=>aj (by grind) fun s6=>(by grind))<| aK (fun c3=>eE h (by grind)) fun c3=>eE h (by grind))
end
def eI:Ctr Un:=⟨[.one (.ptr 0),.one (.int .i64)],[],[.blk [.obj 1 0,.sl 3] 58,.ob 1 [(1,2,0)],.ob 0 [],.lst 4 false 99],[],fun p g r E rm m A c l K=>E.n=m.S∧l=E.ai∧(E.on m).has p=true∧K ⟨(.bool (if(E.on m).is p 1 then((E.on m).at_ p).state !=3 else(E.on m).alive p)),none,[],[],[]⟩⟩
def GW(p:Int)(g:Nat)(r:Nat→Nat)(E:Pd)(rm:Nat→Nat)(m:Mem)(A:Option Addr)(c:Nat)(l:List Ent)(Q:Ou Un→Prop):Prop:=
 Pd.Ok E→
 Mem.Wf m→
 E.n=m.S∧
 l=E.ai∧
 (E.on m).has p=true∧
 split (!((E.on m).is p 1)) (
  E.n=m.S∧
  l=E.ai∧
  (E.on m).has p=true∧
  ∃J:Bool→Prop,(
   split (decide (((E.on m).cg p)≥0)) (
    (0≤((E.on m).cg p)∧((E.on m).cg p)<(l.length:Int))∧
    J ((l.getD (Int.toNat ((E.on m).cg p)) Ent.free).state !=3)) (
    J false))∧∀(_gv:Nat→Value)(x4:Bool),J x4→
  Q ⟨(.bool x4),none,[],[],[]⟩) (
  ∃J:Bool→Prop,(
   split (decide (p≥0)) (
    (0≤p∧p<(l.length:Int))∧
    J ((l.getD p.toNat Ent.free).state !=3)) (
    J false))∧∀(_gv:Nat→Value)(x4:Bool),J x4→
  Q ⟨(.bool x4),none,[],[],[]⟩)
theorem GX:Vc2 Un Tryz.prog (aN [(56,cJ),(60,gm)]) [] Tryz.f105 (.r' (.r' (.r' (.two (.node [] (some ⟨[(4,(.one .bool))],[],[4]++upN 14 13,[]⟩) [] [] .leaf .leaf) .leaf)))) [] eI=(∀p g r (E:Pd) rm (m:Mem) A c (l:List Ent),∀Q,(E.n=m.S∧l=E.ai∧(E.on m).has p=true∧Q ⟨(.bool (if(E.on m).is p 1 then((E.on m).at_ p).state !=3 else(E.on m).alive p)),none,[],[],[]⟩)→GW p g r E rm m A c l Q):=by kernel_rfl
section
attribute [local grind=] DB.cg DB.is DB.alive
theorem nw:LV Un Tryz.prog 105 eI:=verify Tryz.func105 aa (tb:= [(56,cJ),(60,gm)]) ⟨iY,r3,trivial⟩ (by kernel_rfl) (GX.mpr fun p g r E rm m A c l Q h=>by
 obtain⟨hp0,hp1,hp2,h⟩:=h
 subst hp1
 exact fun f1 f2=>aj ‹_› fun s3=>aj (by rfl) fun s4=>aj ‹_› fun s5=>aQ (fun c1=>aj ‹_› fun s6=>aj (by rfl) fun s7=>aj ‹_› fun s8=>aY ((decide ((((E.on m).cg p):Int)≥0)) && (((E.ai.getD (Int.toNat ((E.on m).cg p)) Ent.free).state:Int) !=3)) (ab (fun c2=>aj (by grind) fun s9=>(by grind)) fun c2=>(by grind))<| aM h (by grind)) fun c1=>aY ((decide ((p:Int)≥0)) && (((E.ai.getD p.toNat Ent.free).state:Int) !=3)) (ab (fun c3=>aj (by grind) fun s10=>(by grind)) fun c3=>(by grind))<| aM h (by grind))
end
def cY:Ctr Un:=⟨[.one (.ptr 0),.one (.int .i64),.one (.int .i64)],[],[.blk [.obj 1 0,.sl 3] 58,.ob 1 [(1,2,0)],.ob 0 [],.lst 4 false 99],[],fun p o g r E rm m A c l K=>E.n=m.S∧l=E.ai∧K ⟨(.int .u32 ((E.on m).word p o)),none,[],[],[]⟩⟩
def Iu(p:Int)(o:Int)(g:Nat)(r:Nat→Nat)(E:Pd)(rm:Nat→Nat)(m:Mem)(A:Option Addr)(c:Nat)(l:List Ent)(Q:Ou Un→Prop):Prop:=
 Pd.Ok E→
 Mem.Wf m→
 Q ⟨(.int .u32 (m.gD true p o)),none,[],[],[]⟩
theorem Iv:Vc2 Un Tryz.prog (aN [(54,fR),(98,wg)]) [] Tryz.f101 .leaf [] cY=(∀p o g r (E:Pd) rm (m:Mem) A c (l:List Ent),∀Q,(E.n=m.S∧l=E.ai∧Q ⟨(.int .u32 ((E.on m).word p o)),none,[],[],[]⟩)→Iu p o g r E rm m A c l Q):=by kernel_rfl
section
attribute [local grind=] DB.word
theorem j9:LV Un Tryz.prog 101 cY:=verify Tryz.func101 aa (tb:= [(54,fR),(98,wg)]) ⟨uT,IT,trivial⟩ (by kernel_rfl) (Iv.mpr fun p o g r E rm m A c l Q h=>by
 obtain⟨hp0,hp1,h⟩:=h
 subst hp1
 exact fun f1 f2=>eE h (by grind))
end
def eP:Ctr Un:=⟨[.one (.ptr 0),.one (.int .i64),.one (.int .i64),.one (.int .i64)],[],[.blk [.obj 1 0,.sl 3] 58,.ob 1 [(1,2,0)],.ob 0 [],.lst 4 false 99],[],fun p lo hi g r E rm m A c l K=>E.n=m.S∧l=E.ai∧(0≤(lo:Int)∧(hi:Int)≤1024)∧K ⟨(.bool ((E.on m).zero p lo hi)),none,[],[],[]⟩⟩
def Is(p:Int)(lo:Int)(hi:Int)(g:Nat)(r:Nat→Nat)(E:Pd)(rm:Nat→Nat)(m:Mem)(A:Option Addr)(c:Nat)(l:List Ent)(Q:Ou Un→Prop):Prop:=
 Pd.Ok E→
 Mem.Wf m→
 ∀off:Int,off=lo→
 ∃I:Nat→Int→Prop,(∃m1,I m1 off)∧∀(m1:Nat)(_gv:Nat→Value)(off1:Int),I m1 off1→
 split (decide (off1<hi)) (
  E.n=m.S∧
  l=E.ai∧
  split (((E.on m).word p off1) !=0) (
   Q ⟨(.bool false),none,[],[],[]⟩) (
   ∀off2:Int,off2=(i64.wrap (off1+1))→
   ∃m2,m2<m1∧I m2 off2)) (
  Q ⟨(.bool true),none,[],[],[]⟩)
theorem It:Vc2 Un Tryz.prog (aN [(101,cY)]) [9] Tryz.f58 (.r' (.two (.r' (.two (.node [] (some ⟨[(9,(.one (.int .i64)))],[],[8,9]++upN 11 10,[]⟩) [] [] .leaf .leaf) .leaf)) .leaf)) [] eP=(∀p lo hi g r (E:Pd) rm (m:Mem) A c (l:List Ent),∀Q,(E.n=m.S∧l=E.ai∧(0≤(lo:Int)∧(hi:Int)≤1024)∧Q ⟨(.bool ((E.on m).zero p lo hi)),none,[],[],[]⟩)→Is p lo hi g r E rm m A c l Q):=by kernel_rfl
section
attribute [local grind=] DB.zero
theorem nu:LV Un Tryz.prog 58 eP:=verify Tryz.func58 aa (tb:= [(101,cY)]) ⟨j9,trivial⟩ (by kernel_rfl) (It.mpr fun p lo hi g r E rm m A c l Q h=>by
 obtain⟨hp0,hp1,hp2,h⟩:=h
 subst hp1
 exact fun f1 f2=>allEq<| ⟨fun m1 off1=>(m1=(hi - off1).toNat)∧(lo≤off1)∧(eU (fun x=>(E.on m).word p x==0) lo off1=true),⟨_,rfl,(by omega),(dq (Int.le_refl _))⟩,fun m1 _ off1 ⟨hm,hi1,hz⟩=>au (fun c1=>aj ‹_› fun s3=>aj (by rfl) fun s4=>bh (fun c2=>aM h (by grind [bT])) fun c2=>allEq<| ⟨_,(by(have h9:=af (x:=off1+1) (by omega));omega),rfl,(by have h9:=af (x:=off1+1) (by omega);omega),(bI hz (by grind) (af (by omega)))⟩) fun c1=>aM h (cf.2 fun x a b=>cf.1 hz x a (by omega))⟩)
end
def lE:Ctr Un:=⟨[.one (.ptr 0),.one (.int .i64),.one (.int .i64),.one (.int .i64)],[],[.blk [.obj 1 0,.sl 3] 58,.ob 1 [(1,2,0)],.ob 0 [],.lst 4 false 99],[],fun p lo n g r E rm m A c l K=>E.n=m.S∧l=E.ai∧(0≤(lo:Int)∧(lo:Int)<1024∧0≤(n:Int)∧(n:Int)<1024)∧∀(A1:Option Addr)(c1:Nat),K ⟨(.slice A1 (((E.on m).some_ p lo n.toNat).length) c1),(some (.p (.sl 4 0))),[],[(.lst 1 true 22 A1 c1 ((E.on m).some_ p lo n.toNat))],[]⟩⟩
def Iw(p:Int)(lo:Int)(n:Int)(g:Nat)(r:Nat→Nat)(E:Pd)(rm:Nat→Nat)(m:Mem)(A:Option Addr)(c:Nat)(l:List Ent)(Q:Ou Un→Prop):Prop:=
 Pd.Ok E→
 Mem.Wf m→
 (n=n∧0≤n∧4*n≤281474976710656)∧
 ∀(gv:Nat),
 ∀(l1:List U32),l1=(List.replicate n.toNat (U32.mk 0:U32))→
 ∃I:Nat→Int→Option Addr→Nat→List U32→Prop,(∃m1,I m1 0 (some (Addr.mk gv 0 none)) n.toNat l1)∧∀(m1:Nat)(_gv1:Nat→Value)(x15:Int)(A4:Option Addr)(c4:Nat)(l4:List U32),I m1 x15 A4 c4 l4→
 split (decide (x15<((List.replicate n.toNat (U32.mk 0:U32)).length:Int))) (
  E.n=m.S∧
  l=E.ai∧
  (0≤x15∧x15<(l4.length:Int))∧
  ∀(l2:List U32),l2=(l4.set x15.toNat (U32.mk ((E.on m).word p (i64.wrap (lo+x15)))))→
  ∃m2,m2<m1∧I m2 (i64.wrap (x15+1)) A4 c4 l2) (
  Q ⟨(.slice A4 l4.length c4),(some (.p (.sl 4 0))),[],[(.lst 1 true 22 A4 c4 l4)],[]⟩)
theorem Ix:Vc2 Un Tryz.prog (aN [(101,cY)]) [] Tryz.f104 (.r' (.r' (.two (.r' (.two (.node [] (some ⟨[(15,(.one (.int .i64)))],[(9,(.p (.sl 4 0)))],[10]++upN 15 13,[(4,(.lst 1))]⟩) [] [] .leaf .leaf) .leaf)) .leaf))) [4] lE=(∀p lo n g r (E:Pd) rm (m:Mem) A c (l:List Ent),∀Q,(E.n=m.S∧l=E.ai∧(0≤(lo:Int)∧(lo:Int)<1024∧0≤(n:Int)∧(n:Int)<1024)∧∀(A1:Option Addr)(c1:Nat),Q ⟨(.slice A1 (((E.on m).some_ p lo n.toNat).length) c1),(some (.p (.sl 4 0))),[],[(.lst 1 true 22 A1 c1 ((E.on m).some_ p lo n.toNat))],[]⟩)→Iw p lo n g r E rm m A c l Q):=by kernel_rfl
theorem CK:LV Un Tryz.prog 104 lE:=verify Tryz.func104 aa (tb:= [(101,cY)]) ⟨j9,trivial⟩ (by kernel_rfl) (Ix.mpr fun p lo n g r E rm m A c l Q h=>by
 obtain⟨hp0,hp1,hp2,h⟩:=h
 subst hp1
 exact fun f1 f2=>aj (by omega) fun s3=>fun gv=>fun l1 h_l1=>⟨fun m1 x15 A4 c4 l4=>(m1=(n - x15).toNat)∧(0≤x15∧x15≤n)∧(lT (E.on m) p lo n.toNat x15 l4),⟨_,rfl,(by omega),(by rw [h_l1];exact lT.init _ _ _ _)⟩,fun m1 _ x15 A4 c4 l4 ⟨hm,hi1,hz⟩=>au (fun c1=>aj ‹_› fun s4=>aj (by rfl) fun s5=>aj (by(grind [lT.len])) fun s6=>fun l2 h_l2=>⟨_,(by(have h9:=af (x:=x15+1) (by grind));simp at c1;omega),rfl,(by(have h9:=af (x:=x15+1) (by grind));simp at c1;omega),(by rw [h_l2];exact hz.next hi1.1 (by simp at c1;omega) (by omega))⟩) fun c1=>(by(have h7:(E.on m).some_ p lo n.toNat=l4:=hz.done (by simp at c1;omega));exact aF (h A4 c4) (by grind) rfl (ah (congrArg (Res.lst (U:=Un) 1 true 22 _ _) ‹_›) rfl))⟩)
def ph:Ctr Un:=⟨[.one (.ptr 0),.one (.int .i64),.one (.int .i64)],[],[.blk [.obj 1 0,.sl 3] 58,.ob 1 [(1,2,0)],.ob 0 [],.lst 4 false 99],[],fun t o g r E rm m A c l K=>E.n=m.S∧l=E.ai∧∀(A1:Option Addr)(c1:Nat),K ⟨(.slice A1 (((E.on m).pgs t o (E.on m).S).length) c1),(some (.p (.sl 4 0))),[],[(.lst 0 true 3 A1 c1 ((E.on m).pgs t o (E.on m).S))],[]⟩⟩
def Lc(t:Int)(o:Int)(g:Nat)(r:Nat→Nat)(E:Pd)(rm:Nat→Nat)(m:Mem)(A:Option Addr)(c:Nat)(l:List Ent)(Q:Ou Un→Prop):Prop:=
 Pd.Ok E→
 Mem.Wf m→
 ∃I:Nat→Int→Option Addr→Nat→List I64→Prop,(∃m1,I m1 0 none 0 ([]:List I64))∧∀(m1:Nat)(_gv:Nat→Value)(x15:Int)(A4:Option Addr)(c4:Nat)(l4:List I64),I m1 x15 A4 c4 l4→
 split (decide (x15<(l.length:Int))) (
  (0≤x15∧x15<(l.length:Int))∧
  ∀(gv1:Nat),
  ∃J:Bool→Prop,(
   split ((l.getD x15.toNat Ent.free).typ==t) (
    J ((l.getD x15.toNat Ent.free).owner==o)) (
    J false))∧∀(_gv2:Nat→Value)(x29:Bool),J x29→
  split x29 (
   ∀(gv3:Nat),
   ∀(l1:List I64),l1=([I64.mk x15]:List I64)→
   ((l4.length+l1.length)*8≤140737488355328)∧
   ∀(A1:Option Addr)(c1:Nat),
   ∀(l2:List I64),l2=(l4++l1)→
   ∃m2,m2<m1∧I m2 (i64.wrap (x15+1)) A1 c1 l2) (
   ∃m2,m2<m1∧I m2 (i64.wrap (x15+1)) A4 c4 l4)) (
  Q ⟨(.slice A4 l4.length c4),(some (.p (.sl 4 0))),[],[(.lst 0 true 3 A4 c4 l4)],[]⟩)
theorem Ld:Vc2 Un Tryz.prog (aN []) [7] Tryz.f106 (.r' (.r' (.two (.r' (.two (.node [(.s 7,0,3)] (some ⟨[(15,(.one (.int .i64)))],[(7,(.p (.sl 4 0)))],[7,8,9]++upN 15 20,[(4,(.lst 0))]⟩) [] [] (.r' (.r' (.two (.two (.r' (.two (.node [] (some ⟨[(29,(.one .bool))],[],upN 20 10,[]⟩) [] [] .leaf .leaf) .leaf)) .leaf) .leaf))) .leaf) .leaf)) .leaf))) [4] ph=(∀t o g r (E:Pd) rm (m:Mem) A c (l:List Ent),∀Q,(E.n=m.S∧l=E.ai∧∀(A1:Option Addr)(c1:Nat),Q ⟨(.slice A1 (((E.on m).pgs t o (E.on m).S).length) c1),(some (.p (.sl 4 0))),[],[(.lst 0 true 3 A1 c1 ((E.on m).pgs t o (E.on m).S))],[]⟩)→Lc t o g r E rm m A c l Q):=by kernel_rfl
theorem GN:LV Un Tryz.prog 106 ph:=verify Tryz.func106 aa (tb:= []) trivial (by kernel_rfl) (Ld.mpr fun t o g r E rm m A c l Q h=>by
 obtain⟨hp0,hp1,h⟩:=h
 subst hp1
 exact fun f1 f2=>⟨fun m1 x15 A4 c4 l4=>(m1=((E.n:Int) - x15).toNat)∧(0≤x15∧x15≤(E.n:Int))∧(l4=(E.on m).pgs t o x15.toNat),⟨_,rfl,(by omega),(by rfl)⟩,fun m1 _ x15 A4 c4 l4 ⟨hm,hi1,hz⟩=>au (fun c1=>aj (by omega) fun s3=>fun gv1=>aY ((((E.ai.getD x15.toNat Ent.free).typ:Int)==t) && (((E.ai.getD x15.toNat Ent.free).owner:Int)==o)) (ab (fun c2=>(by grind)) fun c2=>(by grind))<| bz (fun c3=>fun gv3=>fun l1 h_l1=>aj (by(have h8:=DB.jS (E.on m) t o x15.toNat);rw [h_l1,hz];simp;grind) fun s4=>fun A1 c1=>fun l2 h_l2=>⟨_,(by(have h9:=af (x:=x15+1) (by grind));grind),rfl,(by(have h9:=af (x:=x15+1) (by grind));grind),(by rw [DB.xm _ _ _ (by grind)];(rw [if_pos (by grind)];grind))⟩) fun c3=>⟨_,(by(have h9:=af (x:=x15+1) (by grind));grind),rfl,(by(have h9:=af (x:=x15+1) (by grind));grind),(by rw [DB.xm _ _ _ (by grind)];(rw [if_neg (by grind)];exact hz))⟩) fun c1=>(by(have h7:(E.on m).pgs t o (E.on m).S=l4:=by rw [hz,show x15.toNat=(E.on m).S by grind]);exact aF (h A4 c4) (by grind) rfl (ah (congrArg (Res.lst (U:=Un) 0 true 3 _ _) ‹_›) rfl))⟩)
def gX:Ctr Un:=⟨[.one (.ptr 0),.one (.int .i64)],[],[.blk [.obj 1 0,.sl 3] 58,.ob 1 [(1,2,0)],.ob 0 [],.lst 4 false 99],[],fun p g r E rm m A c l K=>E.n=m.S∧l=E.ai∧(E.on m).has p=true∧K ⟨(.bool ((E.on m).clause 5 p)),none,[],[],[]⟩⟩
def D6(p:Int)(g:Nat)(r:Nat→Nat)(E:Pd)(rm:Nat→Nat)(m:Mem)(A:Option Addr)(c:Nat)(l:List Ent)(Q:Ou Un→Prop):Prop:=
 Pd.Ok E→
 Mem.Wf m→
 E.n=m.S∧
 l=E.ai∧
 (E.on m).has p=true∧
 split (!((E.on m).is p 1)) (
  Q ⟨(.bool true),none,[],[],[]⟩) (
  E.n=m.S∧
  l=E.ai∧
  ∃J:Bool→Prop,(
   split (decide ((u64.wrap ((E.on m).word p 1))≥(u64.wrap E.ay))) (
    J true) (
    E.n=m.S∧
    l=E.ai∧
    J (decide (((E.on m).word p 2)>4096))))∧∀(_gv:Nat→Value)(x28:Bool),J x28→
  split x28 (
   Q ⟨(.bool false),none,[],[],[]⟩) (
   ∃I:Nat→Int→Prop,(∃m1,I m1 0)∧∀(m1:Nat)(_gv1:Nat→Value)(x30:Int),I m1 x30→
   split (decide (x30<p)) (
    ∃J1:Bool→Prop,(
     E.n=m.S∧
     l=E.ai∧
     (E.on m).has x30=true∧
     split ((E.on m).is x30 1) (
      E.n=m.S∧
      l=E.ai∧
      J1 (((E.on m).word x30 1)==((E.on m).word p 1))) (
      J1 false))∧∀(_gv2:Nat→Value)(x42:Bool),J1 x42→
    split x42 (
     Q ⟨(.bool false),none,[],[],[]⟩) (
     ∃m2,m2<m1∧I m2 (i64.wrap (x30+1)))) (
    Q ⟨(.bool true),none,[],[],[]⟩)))
theorem D7:Vc2 Un Tryz.prog (aN [(56,cJ),(101,cY),(102,jH)]) [] Tryz.f62 (.r' (.r' (.r' (.two (.two (.node [] (some ⟨[(28,(.one .bool))],[],upN 14 15,[]⟩) [] [] .leaf .leaf) .leaf) (.two (.r' (.two (.node [] (some ⟨[(30,(.one (.int .i64)))],[],[4,6]++upN 30 14,[]⟩) [] [] (.r' (.r' (.two (.two (.r' (.two (.node [] (some ⟨[(42,(.one .bool))],[],upN 33 10,[]⟩) [] [] .leaf .leaf) .leaf)) .leaf) .leaf))) .leaf) .leaf)) .leaf))))) [] gX=(∀p g r (E:Pd) rm (m:Mem) A c (l:List Ent),∀Q,(E.n=m.S∧l=E.ai∧(E.on m).has p=true∧Q ⟨(.bool ((E.on m).clause 5 p)),none,[],[],[]⟩)→D6 p g r E rm m A c l Q):=by kernel_rfl
section
attribute [local grind=] DB.rI DB.fq DB.is Pd.nW
theorem uE:LV Un Tryz.prog 62 gX:=verify Tryz.func62 aa (tb:= [(56,cJ),(101,cY),(102,jH)]) ⟨iY,j9,Fe,trivial⟩ (by kernel_rfl) (D7.mpr fun p g r E rm m A c l Q h=>by
 obtain⟨hp0,hp1,hp2,h⟩:=h
 subst hp1
 exact fun f1 f2=>(by(have hw:=fun a b=>cz (E:=E) f2 a b);(have hi64:=fun a b=>af (x:=(E.on m).word a b) (by have:=hw a b;omega));(have hu64:=fun a b=>dQ (x:=(E.on m).word a b) (by have:=hw a b;omega));(have hub:=dQ (x:=E.ay) (by have:=f1.ay;omega));exact aj ‹_› fun s3=>aj (by rfl) fun s4=>aj ‹_› fun s5=>aQ (fun c1=>aM h (by grind)) fun c1=>aj ‹_› fun s6=>aj (by rfl) fun s7=>aY ((decide ((u64.wrap ((E.on m).word p 1):Int)≥(u64.wrap E.ay))) || (decide ((((E.on m).word p 2):Int)>4096))) (ab (fun c2=>(by grind)) fun c2=>aj ‹_› fun s8=>aj (by rfl) fun s9=>(by grind))<| aK (fun c3=>aM h (by grind)) fun c3=>⟨fun m1 x30=>(m1=(p - x30).toNat)∧(0≤x30∧x30≤p)∧(eU (fun z=>!(((E.on m).at_ z).typ==1 && (E.on m).word z 1==(E.on m).word p 1)) 0 x30=true),⟨_,rfl,(by grind),(dq (Int.le_refl _))⟩,fun m1 _ x30 ⟨hm,hi1,hz⟩=>au (fun c4=>aY (((E.on m).is x30 1) && ((((E.on m).word x30 1):Int)==((E.on m).word p 1))) (aj ‹_› fun s10=>aj (by rfl) fun s11=>aj (by grind) fun s12=>ab (fun c5=>aj ‹_› fun s13=>aj (by rfl) fun s14=>(by grind)) fun c5=>(by grind))<| bz (fun c6=>aM h (by rw [DB.rI,DB.fq,bT hi1.1 c4 (by grind)];grind)) fun c6=>⟨_,(by(have h9:=af (x:=x30+1) (by grind));grind),rfl,(by(have h9:=af (x:=x30+1) (by grind));grind),(by exact bI hz (by have hh:(E.on m).has x30=true:=(by grind);rw [DB.is,hh]at c6;grind) (af (by grind)))⟩) fun c4=>aM h (by(have hq:x30=p:=by omega);subst hq;rw [DB.rI,DB.fq,hz];grind)⟩))
end
def jv:Ctr Un:=⟨[.one (.ptr 0),.one (.int .i64)],[],[.blk [.obj 1 0,.sl 3] 58,.ob 1 [(1,2,0)],.ob 0 [],.lst 4 false 99],[],fun p g r E rm m A c l K=>E.n=m.S∧l=E.ai∧(E.on m).has p=true∧K ⟨(.bool ((E.on m).clause 6 p)),none,[],[],[]⟩⟩
def GI(p:Int)(g:Nat)(r:Nat→Nat)(E:Pd)(rm:Nat→Nat)(m:Mem)(A:Option Addr)(c:Nat)(l:List Ent)(Q:Ou Un→Prop):Prop:=
 Pd.Ok E→
 Mem.Wf m→
 E.n=m.S∧
 l=E.ai∧
 (E.on m).has p=true∧
 split (!((E.on m).is p 1)) (
  Q ⟨(.bool true),none,[],[],[]⟩) (
  E.n=m.S∧
  l=E.ai∧
  (0≤(37:Int)∧(1024:Int)≤1024)∧
  split (!((E.on m).zero p 37 1024)) (
   Q ⟨(.bool false),none,[],[],[]⟩) (
   E.n=m.S∧
   l=E.ai∧
   (0≤(11:Int)∧(11:Int)<1024∧0≤(26:Int)∧(26:Int)<1024)∧
   ∀(A1:Option Addr)(c1:Nat),
   ∀(l1:List U32),l1=(E.on m).some_ p 11 (Int.toNat 26)→
   ((∀x∈l1,0≤x.v∧x.v<4294967296))∧
   ∀(dp:Value),
   ∃J:Bool→Prop,(
    split ((Dg.aE l1)==0) (
     E.n=m.S∧
     l=E.ai∧
     (0≤(3:Int)∧(11:Int)≤1024)∧
     ∀init:Bool,init=((E.on m).zero p 3 11)→
     J init) (
     ∀init:Bool,init=false→
     J init))∧∀(_gv:Nat→Value)(init:Bool),J init→
   E.n=m.S∧
   l=E.ai∧
   (0≤(11:Int)∧(37:Int)≤1024)∧
   (0≤p∧p<(l.length:Int))∧
   ∀x42:Bool,x42=(((l.getD p.toNat Ent.free).state:Int)==1)→
   split x42 (
    Q ⟨(.bool init),none,[],[],[]⟩) (
    ∀x45:Bool,x45=(((l.getD p.toNat Ent.free).state:Int)==2)→
    split x45 (
     Q ⟨(.bool ((E.on m).zero p 11 37)),none,[],[],[]⟩) (
     ∃J1:Bool→Prop,(
      split init (
       J1 true) (
       J1 ((E.on m).zero p 11 37)))∧∀(_gv1:Nat→Value)(x4:Bool),J1 x4→
     Q ⟨(.bool x4),none,[],[],[]⟩))))
theorem GJ:Vc2 Un Tryz.prog (aN [(56,cJ),(58,eP),(104,lE),(103,vS)]) [7,42,45] Tryz.f63 (.r' (.r' (.r' (.r' (.two (.node [] (some ⟨[(7,(.one .bool))],[],[7]++upN 24 7,[]⟩) [] [] .leaf .leaf) (.r' (.r' (.two (.node [] (some ⟨[(4,(.one .bool))],[],[4,48,49,50,51],[]⟩) [] [] .leaf .leaf) .leaf)))))))) [] jv=(∀p g r (E:Pd) rm (m:Mem) A c (l:List Ent),∀Q,(E.n=m.S∧l=E.ai∧(E.on m).has p=true∧Q ⟨(.bool ((E.on m).clause 6 p)),none,[],[],[]⟩)→GI p g r E rm m A c l Q):=by kernel_rfl
section
attribute [local grind=] DB.Gj DB.lY DB.Cc DB.is
theorem yv:LV Un Tryz.prog 63 jv:=verify Tryz.func63 aa (tb:= [(56,cJ),(58,eP),(104,lE),(103,vS)]) ⟨iY,nu,CK,IG,trivial⟩ (by kernel_rfl) (GJ.mpr fun p g r E rm m A c l Q h=>by
 obtain⟨hp0,hp1,hp2,h⟩:=h
 subst hp1
 exact fun f1 f2=>(by(have hw:=fun a b=>cz (E:=E) f2 a b);(have hi64:=fun a b=>af (x:=(E.on m).word a b) (by have:=hw a b;omega));(have hu64:=fun a b=>dQ (x:=(E.on m).word a b) (by have:=hw a b;omega));exact aj ‹_› fun s3=>aj (by rfl) fun s4=>aj ‹_› fun s5=>aQ (fun c1=>aM h (by grind)) fun c1=>aj ‹_› fun s6=>aj (by rfl) fun s7=>aj (by omega) fun s8=>aQ (fun c2=>aM h (by grind)) fun c2=>aj ‹_› fun s9=>aj (by rfl) fun s10=>aj (by omega) fun s11=>fun A1 c1=>fun l1 h_l1=>aj (by rw [h_l1];exact mP f2 _ _ _) fun s12=>fun dp=>aY ((((Dg.aE l1):Int)==0) && ((E.on m).zero p 3 11)) (ab (fun c3=>aj ‹_› fun s13=>aj (by rfl) fun s14=>aj (by omega) fun s15=>allEq<| (by grind)) fun c3=>allEq<| (by grind))<| aj ‹_› fun s16=>aj (by rfl) fun s17=>aj (by omega) fun s18=>aj (by grind) fun s19=>allEq<| aA (fun c4=>aM h (by grind)) fun c4=>allEq<| aA (fun c5=>aM h (by grind)) fun c5=>aY (((((Dg.aE l1):Int)==0) && ((E.on m).zero p 3 11)) || ((E.on m).zero p 11 37)) (ab (fun c6=>(by grind)) fun c6=>(by grind))<| aM h (by grind)))
end
def jx:Ctr Un:=⟨[.one (.ptr 0),.one (.int .i64)],[],[.blk [.obj 1 0,.sl 3] 58,.ob 1 [(1,2,0)],.ob 0 [],.lst 4 false 99],[],fun p g r E rm m A c l K=>E.n=m.S∧l=E.ai∧(E.on m).has p=true∧K ⟨(.bool ((E.on m).clause 7 p)),none,[],[],[]⟩⟩
def GU(p:Int)(g:Nat)(r:Nat→Nat)(E:Pd)(rm:Nat→Nat)(m:Mem)(A:Option Addr)(c:Nat)(l:List Ent)(Q:Ou Un→Prop):Prop:=
 Pd.Ok E→
 Mem.Wf m→
 ∃J:Bool→Prop,(
  E.n=m.S∧
  l=E.ai∧
  (E.on m).has p=true∧
  split (!((E.on m).is p 1)) (
   J true) (
   E.n=m.S∧
   l=E.ai∧
   (E.on m).has p=true∧
   J (!(if(E.on m).is p 1 then((E.on m).at_ p).state !=3 else(E.on m).alive p))))∧∀(_gv:Nat→Value)(x15:Bool),J x15→
 split x15 (
  Q ⟨(.bool true),none,[],[],[]⟩) (
  E.n=m.S∧
  l=E.ai∧
  ∀(A1:Option Addr)(c1:Nat),
  ∀(l1:List I64),l1=(E.on m).pgs 3 p (E.on m).S→
  ∃J1:Bool→Prop,(
   split (((((E.on m).pgs 3 p (E.on m).S).length):Int)==1) (
    (0≤(0:Int)∧(0:Int)<(l1.length:Int))∧
    E.n=m.S∧
    l=E.ai∧
    J1 (((E.on m).word p 0)==(u32.wrap ((l1.getD (Int.toNat 0) (I64.mk 0)).v)))) (
    J1 false))∧∀(_gv1:Nat→Value)(x4:Bool),J1 x4→
  Q ⟨(.bool x4),none,[],[],[]⟩)
theorem GV:Vc2 Un Tryz.prog (aN [(56,cJ),(105,eI),(106,ph),(101,cY)]) [] Tryz.f64 (.r' (.two (.two (.node [] (some ⟨[(15,(.one .bool))],[],upN 6 10,[]⟩) [] [] .leaf .leaf) .leaf) (.r' (.two (.node [] (some ⟨[(4,(.one .bool))],[],[4]++upN 19 13,[]⟩) [] [(9,[4])] .leaf .leaf) .leaf)))) [] jx=(∀p g r (E:Pd) rm (m:Mem) A c (l:List Ent),∀Q,(E.n=m.S∧l=E.ai∧(E.on m).has p=true∧Q ⟨(.bool ((E.on m).clause 7 p)),none,[],[],[]⟩)→GU p g r E rm m A c l Q):=by kernel_rfl
section
attribute [local grind=] DB.Gi DB.lZ DB.is
theorem yz:LV Un Tryz.prog 64 jx:=verify Tryz.func64 aa (tb:= [(56,cJ),(105,eI),(106,ph),(101,cY)]) ⟨iY,nw,GN,j9,trivial⟩ (by kernel_rfl) (GV.mpr fun p g r E rm m A c l Q h=>by
 obtain⟨hp0,hp1,hp2,h⟩:=h
 subst hp1
 exact fun f1 f2=>aY ((!((E.on m).is p 1)) || (!(if(E.on m).is p 1 then((E.on m).at_ p).state !=3 else(E.on m).alive p))) (aj ‹_› fun s3=>aj (by rfl) fun s4=>aj ‹_› fun s5=>ab (fun c1=>(by grind)) fun c1=>aj ‹_› fun s6=>aj (by rfl) fun s7=>aj ‹_› fun s8=>(by grind))<| aK (fun c2=>aM h (by grind)) fun c2=>aj ‹_› fun s9=>aj (by rfl) fun s10=>fun A1 c1=>fun l1 h_l1=>aY ((((((((E.on m).pgs 3 p (E.on m).S).length):Nat):Int):Int)==1) && ((((E.on m).word p 0):Int)==(u32.wrap ((l1.getD (Int.toNat 0) (I64.mk 0)).v)))) (ab (fun c3=>aj (by grind) fun s11=>aj ‹_› fun s12=>aj (by rfl) fun s13=>(by grind)) fun c3=>(by grind))<| aM h (by rw [h_l1,DB.first_eq (by grind)];grind))
end
def gU:Ctr Un:=⟨[.one (.ptr 0),.one (.int .i64)],[],[.blk [.obj 1 0,.sl 3] 58,.ob 1 [(1,2,0)],.ob 0 [],.lst 4 false 99],[],fun p g r E rm m A c l K=>E.n=m.S∧l=E.ai∧(E.on m).has p=true∧K ⟨(.bool ((E.on m).clause 11 p)),none,[],[],[]⟩⟩
def DW(p:Int)(g:Nat)(r:Nat→Nat)(E:Pd)(rm:Nat→Nat)(m:Mem)(A:Option Addr)(c:Nat)(l:List Ent)(Q:Ou Un→Prop):Prop:=
 Pd.Ok E→
 Mem.Wf m→
 E.n=m.S∧
 l=E.ai∧
 (E.on m).has p=true∧
 split (!((E.on m).is p 2)) (
  Q ⟨(.bool true),none,[],[],[]⟩) (
  E.n=m.S∧
  l=E.ai∧
  (0≤(18:Int)∧(1024:Int)≤1024)∧
  split (!((E.on m).zero p 18 1024)) (
   Q ⟨(.bool false),none,[],[],[]⟩) (
   (0≤p∧p<(l.length:Int))∧
   split (!((l.getD p.toNat Ent.free).aG)) (
    E.n=m.S∧
    l=E.ai∧
    (0≤(1:Int)∧(18:Int)≤1024)∧
    Q ⟨(.bool ((E.on m).zero p 1 18)),none,[],[],[]⟩) (
    E.n=m.S∧
    l=E.ai∧
    (0≤(1:Int)∧(1:Int)<1024∧0≤(17:Int)∧(17:Int)<1024)∧
    ∀(A1:Option Addr)(c1:Nat),
    ∀(l1:List U32),l1=(E.on m).some_ p 1 (Int.toNat 17)→
    ((∀x∈l1,0≤x.v∧x.v<4294967296))∧
    ∀(gv:Nat),
    ∀(s:Fl),s=Fl.zero→
    Fl.Ok s→
    True∧
    ∀(s1:Fl),s1=(Fl.norm (File.unpack l1))→
    Fl.Ok s1→
    E.n=m.S∧
    l=E.ai∧
    (E.on m).has p=true∧
    ∃J:Bool→Prop,(
     split ((File.cZ l1)==0) (
      split (decide (((E.on m).cg p)<0)) (
       J true) (
       (0≤((E.on m).cg p)∧((E.on m).cg p)<(l.length:Int))∧
       J ((l.getD (Int.toNat ((E.on m).cg p)) Ent.free).state !=1))) (
      J false))∧∀(_gv1:Nat→Value)(x4:Bool),J x4→
    Q ⟨(.bool x4),none,[],[],[]⟩)))
theorem DX:Vc2 Un Tryz.prog (aN [(56,cJ),(58,eP),(104,lE),(110,lI),(60,gm)]) [] Tryz.f68 (.r' (.r' (.r' (.r' (.r' (.r' (.two (.node [] (some ⟨[(4,(.one .bool))],[],[4]++upN 38 17,[]⟩) [] [] .leaf .leaf) .leaf))))))) [] gU=(∀p g r (E:Pd) rm (m:Mem) A c (l:List Ent),∀Q,(E.n=m.S∧l=E.ai∧(E.on m).has p=true∧Q ⟨(.bool ((E.on m).clause 11 p)),none,[],[],[]⟩)→DW p g r E rm m A c l Q):=by kernel_rfl
section
attribute [local grind=] DB.DJ DB.jK DB.is DB.cg
theorem uB:LV Un Tryz.prog 68 gU:=verify Tryz.func68 aa (tb:= [(56,cJ),(58,eP),(104,lE),(110,lI),(60,gm)]) ⟨iY,nu,CK,EV,r3,trivial⟩ (by kernel_rfl) (DX.mpr fun p g r E rm m A c l Q h=>by
 obtain⟨hp0,hp1,hp2,h⟩:=h
 subst hp1
 exact fun f1 f2=>(by(have hw:=fun a b=>cz (E:=E) f2 a b);(have hi64:=fun a b=>af (x:=(E.on m).word a b) (by have:=hw a b;omega));(have hu64:=fun a b=>dQ (x:=(E.on m).word a b) (by have:=hw a b;omega));exact aj ‹_› fun s3=>aj (by rfl) fun s4=>aj ‹_› fun s5=>aQ (fun c1=>aM h (by grind)) fun c1=>aj ‹_› fun s6=>aj (by rfl) fun s7=>aj (by omega) fun s8=>aQ (fun c2=>aM h (by grind)) fun c2=>aj (by grind) fun s9=>aQ (fun c3=>aj ‹_› fun s10=>aj (by rfl) fun s11=>aj (by omega) fun s12=>aM h (by grind)) fun c3=>aj ‹_› fun s13=>aj (by rfl) fun s14=>aj (by omega) fun s15=>fun A1 c1=>fun l1 h_l1=>aj (by rw [h_l1];exact mP f2 _ _ _) fun s16=>fun gv=>fun s h_s f17=>aj trivial fun _=>fun s1 h_s1 f19=>aj ‹_› fun s20=>aj (by rfl) fun s21=>aj ‹_› fun s22=>aY ((((File.cZ l1):Int)==0) && ((decide ((((E.on m).cg p):Int)<0)) || (((E.ai.getD (Int.toNat ((E.on m).cg p)) Ent.free).state:Int) !=1))) (ab (fun c4=>ab (fun c5=>(by grind)) fun c5=>aj (by grind) fun s23=>(by grind)) fun c4=>(by grind))<| aM h (by grind)))
end
end Go.Proofs.YtbjlecpmgocoeaaGreatDoor
end
section
set_option maxRecDepth 100000
set_option maxHeartbeats 1000000
namespace Go.Proofs.YtbjlecpmgocoeaaGreatDoor
open Go Go.RowKit V
open Go.IntKind (i64 u32 u64)
open Go.Proofs (Tryz.prog)
attribute [local grind=] Pd.cB Pd.bN Pd.jT Pd.kq Pd.dy Pd.cA Pd.eT Pd.gM Pd.mT Pd.gi
attribute [local grind .] Pd.Ok.ent
attribute [local grind→] Pd.Ok.dk
def jw:Ctr Un:=⟨[.one (.ptr 0),.one (.int .i64)],[],[.blk [.obj 1 0,.sl 3] 58,.ob 1 [(1,2,0)],.ob 0 [],.lst 4 false 99],[],fun p g r E rm m A c l K=>E.n=m.S∧l=E.ai∧(E.on m).has p=true∧K ⟨(.bool ((E.on m).clause 8 p)),none,[],[],[]⟩⟩
def GO(p:Int)(g:Nat)(r:Nat→Nat)(E:Pd)(rm:Nat→Nat)(m:Mem)(A:Option Addr)(c:Nat)(l:List Ent)(Q:Ou Un→Prop):Prop:=
 Pd.Ok E→
 Mem.Wf m→
 ∃J:Bool→Prop,(
  E.n=m.S∧
  l=E.ai∧
  (E.on m).has p=true∧
  split (!((E.on m).is p 3)) (
   J true) (
   E.n=m.S∧
   l=E.ai∧
   (E.on m).has p=true∧
   J (!(if(E.on m).is p 1 then((E.on m).at_ p).state !=3 else(E.on m).alive p))))∧∀(_gv:Nat→Value)(x23:Bool),J x23→
 split x23 (
  Q ⟨(.bool true),none,[],[],[]⟩) (
  E.n=m.S∧
  l=E.ai∧
  (0≤(256:Int)∧(1024:Int)≤1024)∧
  split (!((E.on m).zero p 256 1024)) (
   Q ⟨(.bool false),none,[],[],[]⟩) (
   ((64:Int)=64∧0≤(64:Int)∧1*(64:Int)≤281474976710656)∧
   ∀(gv1:Nat),
   ∀(l1:List Bl),l1=(List.replicate (Int.toNat 64) (Bl.mk false:Bl))→
   ∀count:Int,count=0→
   (0≤p∧p<(l.length:Int))∧
   E.n=m.S∧
   l=E.ai∧
   ∀(A1:Option Addr)(c1:Nat),
   ∀(l2:List I64),l2=(E.on m).pgs 4 ((l.getD p.toNat Ent.free).owner) (E.on m).S→
   ∃I:Nat→Int→Int→Option Addr→Nat→List Bl→Prop,(∃m1,I m1 count 0 (some (Addr.mk gv1 0 none)) (Int.toNat 64) l1)∧∀(m1:Nat)(_gv2:Nat→Value)(count1:Int)(x39:Int)(A4:Option Addr)(c4:Nat)(l4:List Bl),I m1 count1 x39 A4 c4 l4→
   split (decide (x39<256)) (
    E.n=m.S∧
    l=E.ai∧
    split (((E.on m).word p x39)==0) (
     ∃m2,m2<m1∧I m2 count1 (i64.wrap (x39+1)) A4 c4 l4) (
     (0≤((E.on m).word p x39)∧((E.on m).word p x39)<4294967296)∧
     ∃J1:Bool→Prop,(
      split ((ia ((E.on m).word p x39)) !=0) (
       J1 true) (
       (0≤(aP ((E.on m).word p x39))∧(aP ((E.on m).word p x39))<(l4.length:Int))∧
       J1 ((l4.getD (Int.toNat (aP ((E.on m).word p x39))) (Bl.mk false)).v)))∧∀(_gv3:Nat→Value)(x60:Bool),J1 x60→
     split x60 (
      Q ⟨(.bool false),none,[],[],[]⟩) (
      ∃I1:Nat→Int→Int→Option Addr→Nat→List Bl→Prop,(∃m3,I1 m3 count1 0 A4 c4 l4)∧∀(m3:Nat)(_gv4:Nat→Value)(count2:Int)(x63:Int)(A41:Option Addr)(c41:Nat)(l41:List Bl),I1 m3 count2 x63 A41 c41 l41→
      split (decide (x63<((((E.on m).pgs 4 ((l.getD p.toNat Ent.free).owner) (E.on m).S).length):Int))) (
       (0≤x63∧x63<(l2.length:Int))∧
       split ((l2.getD x63.toNat (I64.mk 0)).v==(aP ((E.on m).word p x39))) (
        (0≤(aP ((E.on m).word p x39))∧(aP ((E.on m).word p x39))<(l41.length:Int))∧
        ∀(l3:List Bl),l3=(l41.set (Int.toNat (aP ((E.on m).word p x39))) (Bl.mk true))→
        ∀count3:Int,count3=(i64.wrap (count2+1))→
        ∃m2,m2<m1∧I m2 count3 (i64.wrap (x39+1)) A41 c41 l3) (
        ∃m4,m4<m3∧I1 m4 count2 (i64.wrap (x63+1)) A41 c41 l41)) (
       Q ⟨(.bool false),none,[],[],[]⟩)))) (
    Q ⟨(.bool (count1==((((E.on m).pgs 4 ((l.getD p.toNat Ent.free).owner) (E.on m).S).length):Int))),none,[],[],[]⟩)))
theorem GP:Vc2 Un Tryz.prog (aN [(56,cJ),(105,eI),(58,eP),(106,ph),(101,cY),(107,eH)]) [6] Tryz.f65 (.r' (.two (.two (.two (.node [] (some ⟨[(23,(.one .bool))],[],upN 14 10,[]⟩) [] [] .leaf .leaf) .leaf) (.r' (.r' (.r' (.r' (.two (.r' (.two (.node [] (some ⟨[(6,(.one (.int .i64))),(39,(.one (.int .i64)))],[(5,(.p (.sl 4 0)))],[4,6,8,9,10,11,13]++upN 39 38,[(4,(.lst 3))]⟩) [] [] (.r' (.r' (.two (.two (.r' (.r' (.r' (.r' (.two (.two (.node [] (some ⟨[(60,(.one .bool))],[],upN 53 8,[]⟩) [] [] .leaf .leaf) .leaf) (.two (.r' (.two (.node [] (some ⟨[(6,(.one (.int .i64))),(63,(.one (.int .i64)))],[(5,(.p (.sl 4 0)))],[6,13]++upN 63 13,[(4,(.lst 3))]⟩) [] [] .leaf .leaf) .leaf)) .leaf)))))) .leaf) .leaf))) .leaf) .leaf)) .leaf)))))) .leaf)) [] jw=(∀p g r (E:Pd) rm (m:Mem) A c (l:List Ent),∀Q,(E.n=m.S∧l=E.ai∧(E.on m).has p=true∧Q ⟨(.bool ((E.on m).clause 8 p)),none,[],[],[]⟩)→GO p g r E rm m A c l Q):=by kernel_rfl
section
attribute [local grind=] DB.kN DB.is
theorem yy:LV Un Tryz.prog 65 jw:=verify Tryz.func65 aa (tb:= [(56,cJ),(105,eI),(58,eP),(106,ph),(101,cY),(107,eH)]) ⟨iY,nw,nu,GN,j9,sZ,trivial⟩ (by kernel_rfl) (GP.mpr fun p g r E rm m A c l Q h=>by
 obtain⟨hp0,hp1,hp2,h⟩:=h
 subst hp1
 exact fun f1 f2=>(by(have hw:=fun a b=>cz (E:=E) f2 a b);(have hge:E.ai.getD p.toNat Ent.free=(E.on m).at_ p:=by rw [Pd.bN (by grind),Pd.kq]);exact aY ((!((E.on m).is p 3)) || (!(if(E.on m).is p 1 then((E.on m).at_ p).state !=3 else(E.on m).alive p))) (aj ‹_› fun s3=>aj (by rfl) fun s4=>aj ‹_› fun s5=>ab (fun c1=>(by grind)) fun c1=>aj ‹_› fun s6=>aj (by rfl) fun s7=>aj ‹_› fun s8=>(by grind))<| aK (fun c2=>aM h (by grind)) fun c2=>(by(have hty:((E.on m).at_ p).typ=3∧(E.on m).alive p=true:=by grind);exact aj ‹_› fun s9=>aj (by rfl) fun s10=>aj (by omega) fun s11=>aQ (fun c3=>aM h (by rw [DB.kN,DB.fp,c3];simp [hty])) fun c3=>aj (by omega) fun s12=>fun gv1=>fun l1 h_l1=>allEq<| aj (by grind) fun s13=>aj ‹_› fun s14=>aj (by rfl) fun s15=>fun A1 c1=>fun l2 h_l2=>⟨fun m1 count1 x39 A4 c4 l4=>(m1=(256 - x39).toNat)∧(0≤x39∧x39≤256)∧(DB.Nms (E.on m) p x39 count1 l4),⟨_,rfl,(by omega),(by rw [h_l1];exact DB.Nms.init _ _)⟩,fun m1 _ count1 x39 A4 c4 l4 ⟨hm,hx,hn⟩=>(by(have hl2:l2=(E.on m).pgs 4 ((E.on m).at_ p).owner (E.on m).S:=by rw [h_l2,hge]);(have h64:(l2.length:Int)≤64:=by rw [hl2];(have h8:=DB.jS (E.on m) 4 ((E.on m).at_ p).owner (E.on m).S);have h7:=f1.dk;(rw [Pd.gi _ _ hp0]at h8 ⊢);omega);(have hcb:0≤count1∧count1≤64:=by rw [hn.cnt];(have h7:=fD (f:=fun q=>(E.on m).named p x39 q==1) (n:=((E.on m).S:Int)) (by omega));(have h6:=dV (f:=fun q=>(E.on m).named p x39 q==1) (n:=((E.on m).S:Int)));have h5:=f1.dk;(rw [Pd.gi _ _ hp0]at h7 h6 ⊢);omega);exact au (fun c4=>aj ‹_› fun s16=>aj (by rfl) fun s17=>aA (fun c5=>⟨_,(by rw [af (x:=x39+1) (by omega)];omega),rfl,(by rw [af (x:=x39+1) (by omega)];omega),(by rw [af (x:=x39+1) (by omega)];exact hn.skip hx.1 c5)⟩) fun c5=>aj (hw p x39) fun s18=>aY ((((ia ((E.on m).word p x39)):Int) !=0) || ((l4.getD (Int.toNat (aP ((E.on m).word p x39))) (Bl.mk false)).v)) (ab (fun c6=>(by grind)) fun c6=>aj (by(have h8:=qc (hw p x39).1);(have h7:=hn.len);(rw [h7];exact h8)) fun s19=>(by grind))<| aK (fun c7=>aM h (by(have hb:=hn.bad ⟨hx.1,c4⟩ (hw p x39).1 c5 (fun he ho=>by rcases c7 with h | h;(simp [he]at h);exact h));rw [DB.kN,hb];simp [hty])) fun c7=>⟨fun m3 count2 x63 A41 c41 l41=>(m3=((l2.length:Int) - x63).toNat)∧(0≤x63∧x63≤(l2.length:Int))∧(count2=count1)∧(l41=l4)∧(∀j:Nat,(j:Int)<x63→¬(l2.getD j (I64.mk 0)).v=aP ((E.on m).word p x39)),⟨_,rfl,(by omega),(by rfl),(by rfl),(by intro j hj;omega)⟩,fun m3 _ count2 x63 A41 c41 l41 ⟨hm,hy,hc2,hl41,hno⟩=>(by have hy2:x63<(l2.length:Int)∨¬x63<(l2.length:Int):=Classical.em _;exact au (fun c8=>aj (by rw [h_l2];exact⟨hy.1,c8⟩) fun s20=>aA (fun c9=>aj (by(have h8:=qc (hw p x39).1);(have h7:=hn.len);(rw [hl41,h7];exact h8)) fun s21=>fun l3 h_l3=>allEq<| ⟨_,(by rw [af (x:=x39+1) (by omega)];omega),rfl,(by rw [af (x:=x39+1) (by omega)];omega),(by rw [af (x:=x39+1) (by omega)];(rw [h_l3,hl41,hc2,af (x:=count1+1) (by omega)];exact hn.put hx.1 (hw p x39).1 c5 (by simpa using c7.1) c7.2 (DB.J4 hl2 ⟨hy.1,by rw [h_l2];exact c8⟩ c9)))⟩) fun c9=>⟨_,(by have c8':=c8;rw [← h_l2]at c8';rw [af (x:=x63+1) (by omega)];omega),rfl,(by have c8':=c8;rw [← h_l2]at c8';rw [af (x:=x63+1) (by omega)];omega),(hc2),(hl41),(by have c8':=c8;rw [← h_l2]at c8';rw [af (x:=x63+1) (by omega)];intro j hj;by_cases hjx:(j:Int)=x63;(have hjn:j=x63.toNat:=by omega);subst hjn;exact c9;exact hno j (by omega))⟩) fun c8=>aM h (by(have hb:=hn.bad ⟨hx.1,c4⟩ (hw p x39).1 c5 (fun _ ho=>by rw [DB.HZ hl2 (fun j hj=>hno j (by rw [← h_l2]at c8;omega))]at ho;cases ho));rw [DB.kN,hb];simp [hty]))⟩) fun c4=>aM h (by(have hx256:x39=256:=by omega);subst hx256;rw [DB.kN,hn.done (by rw [Pd.gi _ _ hp0];exact f1.dk) c3,hge];simp [hty]))⟩)))
end
def lF:Ctr Un:=⟨[.one (.ptr 0),.one (.int .i64)],[],[.blk [.obj 1 0,.sl 3] 58,.ob 1 [(1,2,0)],.ob 0 [],.lst 4 false 99],[],fun p g r E rm m A c l K=>E.n=m.S∧l=E.ai∧(E.on m).has p=true∧K ⟨(.bool ((E.on m).clause 9 p)),none,[],[],[]⟩⟩
def IB(p:Int)(g:Nat)(r:Nat→Nat)(E:Pd)(rm:Nat→Nat)(m:Mem)(A:Option Addr)(c:Nat)(l:List Ent)(Q:Ou Un→Prop):Prop:=
 Pd.Ok E→
 Mem.Wf m→
 ∃J:Bool→Prop,(
  E.n=m.S∧
  l=E.ai∧
  (E.on m).has p=true∧
  split (!((E.on m).is p 4)) (
   J true) (
   E.n=m.S∧
   l=E.ai∧
   (E.on m).has p=true∧
   J (!(if(E.on m).is p 1 then((E.on m).at_ p).state !=3 else(E.on m).alive p))))∧∀(_gv:Nat→Value)(x18:Bool),J x18→
 split x18 (
  Q ⟨(.bool true),none,[],[],[]⟩) (
  ∃I:Nat→Int→Prop,(∃m1,I m1 0)∧∀(m1:Nat)(_gv1:Nat→Value)(x19:Int),I m1 x19→
  split (decide (x19<1024)) (
   E.n=m.S∧
   l=E.ai∧
   split (((E.on m).word p x19)==0) (
    ∃m2,m2<m1∧I m2 (i64.wrap (x19+1))) (
    (0≤((E.on m).word p x19)∧((E.on m).word p x19)<4294967296)∧
    ∀(gv2:Nat),
    ∃J1:Bool→Prop,(
     split ((fz ((E.on m).word p x19)) !=0) (
      J1 true) (
      J1 (!(m.has ((bE ((E.on m).word p x19)).bt) ((bE ((E.on m).word p x19)).aq)))))∧∀(_gv3:Nat→Value)(x45:Bool),J1 x45→
    split x45 (
     Q ⟨(.bool false),none,[],[],[]⟩) (
     ∃J2:Bool→Prop,(
      split ((bE ((E.on m).word p x19)).bt) (
       E.n=m.S∧
       l=E.ai∧
       (E.on m).has ((bE ((E.on m).word p x19)).aq)=true∧
       split (!((E.on m).is ((bE ((E.on m).word p x19)).aq) 5)) (
        J2 true) (
        (0≤(bE ((E.on m).word p x19)).aq∧(bE ((E.on m).word p x19)).aq<(l.length:Int))∧
        (0≤p∧p<(l.length:Int))∧
        J2 ((l.getD (Int.toNat ((bE ((E.on m).word p x19)).aq)) Ent.free).owner !=((l.getD p.toNat Ent.free).owner)))) (
       J2 false))∧∀(_gv4:Nat→Value)(x77:Bool),J2 x77→
     split x77 (
      Q ⟨(.bool false),none,[],[],[]⟩) (
      ∃m2,m2<m1∧I m2 (i64.wrap (x19+1)))))) (
   Q ⟨(.bool true),none,[],[],[]⟩))
theorem IC:Vc2 Un Tryz.prog (aN [(56,cJ),(105,eI),(101,cY),(108,cE),(54,fR),(109,BT)]) [] Tryz.f66 (.r' (.two (.two (.node [] (some ⟨[(18,(.one .bool))],[],upN 9 10,[]⟩) [] [] .leaf .leaf) .leaf) (.two (.r' (.two (.node [] (some ⟨[(19,(.one (.int .i64)))],[],upN 4 5++upN 19 60,[]⟩) [] [] (.r' (.r' (.two (.two (.r' (.r' (.r' (.r' (.two (.two (.node [] (some ⟨[(45,(.one .bool))],[],upN 33 13,[]⟩) [] [(6,[0]),(9,[4])] .leaf .leaf) .leaf) (.two (.node [] (some ⟨[(77,(.one .bool))],[],upN 46 32,[]⟩) [] [(2,[4]),(7,[4]),(14,[0]),(17,[4]),(20,[3]),(24,[0]),(28,[3])] .leaf .leaf) .leaf)))))) .leaf) .leaf))) .leaf) .leaf)) .leaf))) [] lF=(∀p g r (E:Pd) rm (m:Mem) A c (l:List Ent),∀Q,(E.n=m.S∧l=E.ai∧(E.on m).has p=true∧Q ⟨(.bool ((E.on m).clause 9 p)),none,[],[],[]⟩)→IB p g r E rm m A c l Q):=by kernel_rfl
section
attribute [local grind=] DB.nj DB.is
theorem CM:LV Un Tryz.prog 66 lF:=verify Tryz.func66 aa (tb:= [(56,cJ),(105,eI),(101,cY),(108,cE),(54,fR),(109,BT)]) ⟨iY,nw,j9,kT,uT,Ky,trivial⟩ (by kernel_rfl) (IC.mpr fun p g r E rm m A c l Q h=>by
 obtain⟨hp0,hp1,hp2,h⟩:=h
 subst hp1
 exact fun f1 f2=>(by(have hw:=fun a b=>cz (E:=E) f2 a b);(have hi64:=fun a b=>af (x:=(E.on m).word a b) (by have:=hw a b;omega));(have hu64:=fun a b=>dQ (x:=(E.on m).word a b) (by have:=hw a b;omega));(have hge:E.ai.getD p.toNat Ent.free=(E.on m).at_ p:=by rw [Pd.bN (by grind),Pd.kq]);(have hmt:∀q,m.has true q=(E.on m).has q:=fun q=>rfl);(have hmf:∀q,m.has false q=decide (0≤q∧q<(m.I:Int)):=fun q=>rfl);(have hps:=fun w=>Ck w);exact aY ((!((E.on m).is p 4)) || (!(if(E.on m).is p 1 then((E.on m).at_ p).state !=3 else(E.on m).alive p))) (aj ‹_› fun s3=>aj (by rfl) fun s4=>aj ‹_› fun s5=>ab (fun c1=>(by grind)) fun c1=>aj ‹_› fun s6=>aj (by rfl) fun s7=>aj ‹_› fun s8=>(by grind))<| aK (fun c2=>aM h (by grind)) fun c2=>⟨fun m1 x19=>(m1=(1024 - x19).toNat)∧(0≤x19∧x19≤1024)∧(eU ((E.on m).ij p) 0 x19=true),⟨_,rfl,(by omega),(dq (Int.le_refl _))⟩,fun m1 _ x19 ⟨hm,hx,hz⟩=>au (fun c3=>aj ‹_› fun s9=>aj (by rfl) fun s10=>aA (fun c4=>⟨_,(by(have h9:=af (x:=x19+1) (by grind));omega),rfl,(by(have h9:=af (x:=x19+1) (by grind));omega),(bI hz (by(grind [DB.ij,DB.of])) (af (by omega)))⟩) fun c4=>aj (hw p x19) fun s11=>fun gv2=>aY ((((fz ((E.on m).word p x19)):Int) !=0) || (!(m.has ((bE ((E.on m).word p x19)).bt) ((bE ((E.on m).word p x19)).aq)))) (ab (fun c5=>(by grind)) fun c5=>(by grind))<| aK (fun c6=>aM h (by(have hb:(E.on m).ij p x19=false:=by(grind [DB.ij,DB.of]));rw [DB.nj,DB.ko,bT hx.1 c3 hb];grind)) fun c6=>aY (((bE ((E.on m).word p x19)).bt) && ((!((E.on m).is ((bE ((E.on m).word p x19)).aq) 5)) || (((E.ai.getD (Int.toNat ((bE ((E.on m).word p x19)).aq)) Ent.free).owner:Int) !=((E.ai.getD p.toNat Ent.free).owner)))) (ab (fun c7=>aj ‹_› fun s12=>aj (by rfl) fun s13=>aj (by grind) fun s14=>ab (fun c8=>(by grind)) fun c8=>aj (by grind) fun s15=>aj (by grind) fun s16=>(by grind)) fun c7=>(by grind))<| bz (fun c9=>aM h (by(have hb:(E.on m).ij p x19=false:=by(grind [DB.ij,DB.of]));rw [DB.nj,DB.ko,bT hx.1 c3 hb];grind)) fun c9=>⟨_,(by(have h9:=af (x:=x19+1) (by grind));omega),rfl,(by(have h9:=af (x:=x19+1) (by grind));omega),(bI hz (by(grind [DB.ij,DB.of])) (af (by omega)))⟩) fun c3=>aM h (by rw [DB.nj,DB.ko,← show x19=1024 by omega,hz];simp)⟩))
end
def gV:Ctr Un:=⟨[.one (.ptr 0),.one (.int .i64)],[],[.blk [.obj 1 0,.sl 3] 58,.ob 1 [(1,2,0)],.ob 0 [],.lst 4 false 99],[],fun p g r E rm m A c l K=>E.n=m.S∧l=E.ai∧(E.on m).has p=true∧K ⟨(.bool ((E.on m).clause 10 p)),none,[],[],[]⟩⟩
def DY(p:Int)(g:Nat)(r:Nat→Nat)(E:Pd)(rm:Nat→Nat)(m:Mem)(A:Option Addr)(c:Nat)(l:List Ent)(Q:Ou Un→Prop):Prop:=
 Pd.Ok E→
 Mem.Wf m→
 ∃J:Bool→Prop,(
  E.n=m.S∧
  l=E.ai∧
  (E.on m).has p=true∧
  split (!((E.on m).is p 5)) (
   J true) (
   E.n=m.S∧
   l=E.ai∧
   (E.on m).has p=true∧
   J (!(if(E.on m).is p 1 then((E.on m).at_ p).state !=3 else(E.on m).alive p))))∧∀(_gv:Nat→Value)(x20:Bool),J x20→
 split x20 (
  Q ⟨(.bool true),none,[],[],[]⟩) (
  ∀n:Int,n=0→
  (0≤p∧p<(l.length:Int))∧
  E.n=m.S∧
  l=E.ai∧
  ∀(A1:Option Addr)(c1:Nat),
  ∀(l1:List I64),l1=(E.on m).pgs 4 ((l.getD p.toNat Ent.free).owner) (E.on m).S→
  ∃I:Nat→Int→Int→Prop,(∃m1,I m1 n 0)∧∀(m1:Nat)(_gv1:Nat→Value)(n1:Int)(x32:Int),I m1 n1 x32→
  split (decide (x32<((((E.on m).pgs 4 ((l.getD p.toNat Ent.free).owner) (E.on m).S).length):Int))) (
   (0≤x32∧x32<(l1.length:Int))∧
   ∃I1:Nat→Int→Int→Prop,(∃m3,I1 m3 n1 0)∧∀(m3:Nat)(_gv2:Nat→Value)(n2:Int)(x36:Int),I1 m3 n2 x36→
   split (decide (x36<1024)) (
    E.n=m.S∧
    l=E.ai∧
    (0≤((E.on m).word ((l1.getD x32.toNat (I64.mk 0)).v) x36)∧((E.on m).word ((l1.getD x32.toNat (I64.mk 0)).v) x36)<4294967296)∧
    ∀(gv3:Nat),
    ∃J1:Bool→Prop,(
     split ((fz ((E.on m).word ((l1.getD x32.toNat (I64.mk 0)).v) x36))==0) (
      J1 (bd #[(.bool ((bE ((E.on m).word ((l1.getD x32.toNat (I64.mk 0)).v) x36)).bt)),(.int .i64 ((bE ((E.on m).word ((l1.getD x32.toNat (I64.mk 0)).v) x36)).aq))] #[(.bool true),(.int .i64 p)])) (
      J1 false))∧∀(_gv4:Nat→Value)(x55:Bool),J1 x55→
    split x55 (
     ∀n3:Int,n3=(i64.wrap (n2+1))→
     ∃m4,m4<m3∧I1 m4 n3 (i64.wrap (x36+1))) (
     ∃m4,m4<m3∧I1 m4 n2 (i64.wrap (x36+1)))) (
    ∃m2,m2<m1∧I m2 n2 (i64.wrap (x32+1)))) (
   Q ⟨(.bool (n1==1)),none,[],[],[]⟩))
theorem DZ:Vc2 Un Tryz.prog (aN [(56,cJ),(105,eI),(106,ph),(101,cY),(108,cE)]) [5] Tryz.f67 (.r' (.two (.two (.node [] (some ⟨[(20,(.one .bool))],[],upN 11 10,[]⟩) [] [] .leaf .leaf) .leaf) (.r' (.two (.r' (.two (.node [] (some ⟨[(5,(.one (.int .i64))),(32,(.one (.int .i64)))],[],[5,7,8,9,10]++upN 32 28,[]⟩) [] [] (.r' (.r' (.two (.two (.r' (.r' (.two (.node [] (some ⟨[(5,(.one (.int .i64))),(36,(.one (.int .i64)))],[],[5,8,9,10]++upN 36 23,[]⟩) [] [] (.r' (.r' (.two (.two (.r' (.r' (.two (.node [] (some ⟨[(55,(.one .bool))],[],upN 47 9,[]⟩) [] [] .leaf .leaf) .leaf))) .leaf) .leaf))) .leaf) .leaf))) .leaf) .leaf))) .leaf) .leaf)) .leaf)))) [] gV=(∀p g r (E:Pd) rm (m:Mem) A c (l:List Ent),∀Q,(E.n=m.S∧l=E.ai∧(E.on m).has p=true∧Q ⟨(.bool ((E.on m).clause 10 p)),none,[],[],[]⟩)→DY p g r E rm m A c l Q):=by kernel_rfl
section
attribute [local grind=] DB.uj DB.is
theorem uC:LV Un Tryz.prog 67 gV:=verify Tryz.func67 aa (tb:= [(56,cJ),(105,eI),(106,ph),(101,cY),(108,cE)]) ⟨iY,nw,GN,j9,kT,trivial⟩ (by kernel_rfl) (DZ.mpr fun p g r E rm m A c l Q h=>by
 obtain⟨hp0,hp1,hp2,h⟩:=h
 subst hp1
 exact fun f1 f2=>(by(have hw:=fun a b=>cz (E:=E) f2 a b);(have hi64:=fun a b=>af (x:=(E.on m).word a b) (by have:=hw a b;omega));(have hu64:=fun a b=>dQ (x:=(E.on m).word a b) (by have:=hw a b;omega));(have hge:E.ai.getD p.toNat Ent.free=(E.on m).at_ p:=by rw [Pd.bN (by grind),Pd.kq]);(have hmt:∀q,m.has true q=(E.on m).has q:=fun q=>rfl);(have hmf:∀q,m.has false q=decide (0≤q∧q<(m.I:Int)):=fun q=>rfl);(have hps:=fun w=>Ck w);exact aY ((!((E.on m).is p 5)) || (!(if(E.on m).is p 1 then((E.on m).at_ p).state !=3 else(E.on m).alive p))) (aj ‹_› fun s3=>aj (by rfl) fun s4=>aj ‹_› fun s5=>ab (fun c1=>(by grind)) fun c1=>aj ‹_› fun s6=>aj (by rfl) fun s7=>aj ‹_› fun s8=>(by grind))<| aK (fun c2=>aM h (by grind)) fun c2=>allEq<| aj (by grind) fun s9=>aj ‹_› fun s10=>aj (by rfl) fun s11=>fun A1 c1=>fun l1 h_l1=>⟨fun m1 n1 x32=>(m1=((l1.length:Int) - x32).toNat)∧(0≤x32∧x32≤(l1.length:Int))∧(n1=(E.on m).jk p l1 x32),⟨_,rfl,(by constructor<;>omega),(by rfl)⟩,fun m1 _ n1 x32 ⟨hm,hx,hn⟩=>(by(have hl1:l1=(E.on m).pgs 4 ((E.on m).at_ p).owner (E.on m).S:=by rw [h_l1,hge]);exact au (fun c3=>aj (by grind) fun s12=>⟨fun m3 n2 x36=>(m3=(1024 - x36).toNat)∧(0≤x36∧x36≤1024)∧(n2=(E.on m).jk p l1 x32+dJ ((E.on m).eF p (l1.getD x32.toNat (I64.mk 0)).v) x36),⟨_,rfl,(by omega),(by rw [uh,Int.add_zero];exact hn)⟩,fun m3 _ n2 x36 ⟨hm,hj,hm2⟩=>au (fun c4=>aj ‹_› fun s13=>aj (by rfl) fun s14=>aj (hw _ x36) fun s15=>fun gv3=>aY ((((fz ((E.on m).word ((l1.getD x32.toNat (I64.mk 0)).v) x36)):Int)==0) && (bd #[(.bool ((bE ((E.on m).word ((l1.getD x32.toNat (I64.mk 0)).v) x36)).bt)),(.int .i64 ((bE ((E.on m).word ((l1.getD x32.toNat (I64.mk 0)).v) x36)).aq))] #[(.bool true),(.int .i64 p)])) (ab (fun c5=>(by grind)) fun c5=>(by grind))<| bz (fun c6=>allEq<| ⟨_,(by(have h9:=af (x:=x36+1) (by grind));omega),rfl,(by(have h9:=af (x:=x36+1) (by grind));omega),(by have h81:=DB.jS (E.on m) 4 ((E.on m).at_ p).owner (E.on m).S;rw [← hl1]at h81;have h9:=af (x:=x36+1) (by omega);have h8:=cy (f:=(E.on m).eF p (l1.getD x32.toNat (I64.mk 0)).v) hj.1;have h7:=fD (f:=(E.on m).eF p (l1.getD x32.toNat (I64.mk 0)).v) hj.1;have h6:=dV (f:=(E.on m).eF p (l1.getD x32.toNat (I64.mk 0)).v) (n:=x36);have h5:=DB.tG (D:=E.on m) (p:=p) (l:=l1) hx.1;have h3:=af (x:=n2+1) (by grind);(grind [DB.eF,eqF]))⟩) fun c6=>⟨_,(by(have h9:=af (x:=x36+1) (by grind));omega),rfl,(by(have h9:=af (x:=x36+1) (by grind));omega),(by have h81:=DB.jS (E.on m) 4 ((E.on m).at_ p).owner (E.on m).S;rw [← hl1]at h81;have h9:=af (x:=x36+1) (by omega);have h8:=cy (f:=(E.on m).eF p (l1.getD x32.toNat (I64.mk 0)).v) hj.1;have h7:=fD (f:=(E.on m).eF p (l1.getD x32.toNat (I64.mk 0)).v) hj.1;have h6:=dV (f:=(E.on m).eF p (l1.getD x32.toNat (I64.mk 0)).v) (n:=x36);have h5:=DB.tG (D:=E.on m) (p:=p) (l:=l1) hx.1;have h3:=af (x:=n2+1) (by grind);(grind [DB.eF,eqF]))⟩) fun c4=>⟨_,(by have h81:=DB.jS (E.on m) 4 ((E.on m).at_ p).owner (E.on m).S;rw [← hl1]at h81;rw [af (x:=x32+1) (by grind)];grind),rfl,(by have h81:=DB.jS (E.on m) 4 ((E.on m).at_ p).owner (E.on m).S;rw [← hl1]at h81;rw [af (x:=x32+1) (by grind)];grind),(by have h81:=DB.jS (E.on m) 4 ((E.on m).at_ p).owner (E.on m).S;rw [← hl1]at h81;rw [af (x:=x32+1) (by grind),DB.qx ⟨hx.1,by grind⟩,hm2,show x36=1024 by omega])⟩⟩) fun c3=>aM h (by(have hb:=DB.once_eq (D:=E.on m) (p:=p) (n:=n1) (x:=x32) (by rw [← hl1];grind) (by rw [← hl1];exact hn));rw [DB.uj,hb];grind))⟩))
end
end Go.Proofs.YtbjlecpmgocoeaaGreatDoor
end
