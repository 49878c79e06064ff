/- ValidFirst returns true for every input, and each argument reads behind the call as it read before; no condition but that the listed variables read as the row lists them. -/
import Derived.Test.YtbjlecpmgocoeaaGreatDoorF4
import Derived.KernelRfl
set_option linter.unusedVariables false
set_option linter.unusedSimpArgs false
section
set_option maxRecDepth 100000
set_option maxHeartbeats 1000000
namespace Go.Proofs.YtbjlecpmgocoeaaGreatDoor
open Go Go.RowKit V
open Go.IntKind (i64 u32 u64)
open Go.Proofs (Tryz.prog)
def j4:Ctr Un:=⟨[.one (.int .i64)],[],[],[],fun p K=>K ⟨(.tuple #[(.int .u32 (gR p)),(.int .i64 (dR p))]),(some (.t [none,none])),[],[],[]⟩⟩
def FB(p:Int)(Q:Ou Un→Prop):Prop:=
 ∃J:Bool→Prop,(
  split (decide (p<0)) (
   J true) (
   J (decide (p≥64))))∧∀(_gv:Nat→Value)(x9:Bool),J x9→
 split x9 (
  Q ⟨(.tuple #[(.int .u32 0),(.int .i64 4)]),(some (.t [none,none])),[],[],[]⟩) (
  Q ⟨(.tuple #[(.int .u32 (u32.wrap (BitVec.ofInt u32.bits (u32.wrap ((u32.wrap p)*2 ^ 8)) ||| BitVec.ofInt u32.bits 1).toNat)),(.int .i64 0)]),(some (.t [none,none])),[],[],[]⟩)
theorem FC:Vc2 Un Tryz.prog (bd []) [] Tryz.f134 (.r' (.two (.two (.node [] (some ⟨[(9,(.one .bool))],[],upN 4 6,[]⟩) [] [] .leaf .leaf) .leaf) .leaf)) [] j4=(∀p,∀Q,(j4.body p Q)→FB p Q):=by kernel_rfl
theorem FA:LV Un Tryz.prog 134 j4:=verify Tryz.func134 aa (tb:= []) trivial (by kernel_rfl) (FC.mpr fun p Q h=>bw ((decide ((p:Int)<0)) || (decide ((p:Int)≥64))) (ae (fun c1=>(by grind)) fun c1=>(by grind))<| aS (fun c2=>aK h (by(have h:¬(0≤p∧p<64):=by grind);simp [gR,dR,h]) rfl rfl) fun c2=>aK h (by(have h:0≤p∧p<64:=by grind);rw [Ew h];simp [gR,dR,h]) rfl rfl)
def eu:Ctr Un:=⟨[.one (.int .u32),.one (.int .i64),.one (.fn 134)],[],[],[],fun v x K=>∀(ra:Int)(re:Int),((ra=(if v≠0∧dR x=0∧gR x=v then x else 0)∧re=(if v=0 then 92 else if dR x=0∧gR x=v then 0 else 90)))→K ⟨(.tuple #[(.int .i64 ra),(.int .i64 re)]),(some (.t [none,none])),[],[],[]⟩⟩
def r8(v:Int)(x:Int)(Q:Ou Un→Prop):Prop:=
 split (v==0) (
  Q ⟨(.tuple #[(.int .i64 0),(.int .i64 92)]),(some (.t [none,none])),[],[],[]⟩) (
  ∃J:Bool→Prop,(
   split ((dR x) !=0) (
    J true) (
    J ((gR x) !=v)))∧∀(_gv:Nat→Value)(x26:Bool),J x26→
  split x26 (
   Q ⟨(.tuple #[(.int .i64 0),(.int .i64 90)]),(some (.t [none,none])),[],[],[]⟩) (
   Q ⟨(.tuple #[(.int .i64 x),(.int .i64 0)]),(some (.t [none,none])),[],[],[]⟩))
theorem r9:Vc2 Un Tryz.prog (bd [(134,j4)]) [] Tryz.f133 (.r' (.r' (.r' (.two (.r' (.two (.node [] (some ⟨[(26,(.one .bool))],[],upN 20 7,[]⟩) [] [] .leaf .leaf) .leaf)) .leaf)))) [] eu=(∀v x,∀Q,(eu.body v x Q)→r8 v x Q):=by kernel_rfl
theorem r7:LV Un Tryz.prog 133 eu:=verify Tryz.func133 aa (tb:= [(134,j4)]) ⟨FA,trivial⟩ (by kernel_rfl) (r9.mpr fun v x Q h=>by
 try skip
 exact aE (fun c1=>(h 0 92 (by omega))) fun c1=>bw ((((dR x):Int) !=0) || (((gR x):Int) !=v)) (ae (fun c2=>(by grind)) fun c2=>(by grind))<| aS (fun c3=>(h 0 90 (by grind))) fun c3=>(h x 0 (by grind)))
def ew:Ctr Un:=⟨[.one (.int .u32)],[],[],[],fun v K=>(0≤(v:Int)∧(v:Int)<4294967296)∧K ⟨(.tuple #[(.int .i64 (aZ v)),(.int .i64 (pZ v))]),(some (.t [none,none])),[],[],[]⟩⟩
def sb(v:Int)(Q:Ou Un→Prop):Prop:=
 ∀(ra:Int)(re:Int),
 ((ra=(if v≠0∧dR (i64.wrap (v.fdiv (2 ^ 8)))=0∧gR (i64.wrap (v.fdiv (2 ^ 8)))=v then(i64.wrap (v.fdiv (2 ^ 8)))else 0)∧re=(if v=0 then 92 else if dR (i64.wrap (v.fdiv (2 ^ 8)))=0∧gR (i64.wrap (v.fdiv (2 ^ 8)))=v then 0 else 90)))→
 Q ⟨(.tuple #[(.int .i64 ra),(.int .i64 re)]),(some (.t [none,none])),[],[],[]⟩
theorem sd:Vc2 Un Tryz.prog (bd [(133,eu)]) [] Tryz.f107 .leaf [] ew=(∀v,∀Q,(ew.body v Q)→sb v Q):=by kernel_rfl
theorem sa:LV Un Tryz.prog 107 ew:=verify Tryz.func107 aa (tb:= [(133,eu)]) ⟨r7,trivial⟩ (by kernel_rfl) (sd.mpr fun v Q h=>by
 obtain⟨hp0,h⟩:=h
 exact fun ra re f1=>(by(have e0:i64.wrap ((v:Int).fdiv (2 ^ 8))=v / 256:=by rw [nZ,ai (by omega)];rfl);rw [e0]at f1;(have h1:(dR (v / 256)=0∧gR (v / 256)=v)↔Co v=true:=(by simp only [dR,gR,Co,decide_eq_true_eq];constructor<;>intro h<;>grind));(have h2:v=0→Co v=false:=by intro h;subst h;decide);exact aK h (by simp only [h1]at f1;rw [f1.1,f1.2];simp only [aZ,pZ]<;>grind) rfl rfl))
def nk:Ctr Un:=⟨[.agg [.bool,.int .i64,.bool,.bool]],[],[],[],fun ma mb mc md K=>K ⟨(.tuple #[(.int .u32 ((Mp.mk ma mb mc md).word)),(.int .i64 ((Mp.mk ma mb mc md).err))]),(some (.t [none,none])),[],[],[]⟩⟩
theorem CU:LV Un Tryz.prog 136 nk:=by
 show ∀(ma:Bool)(mb:Int)(mc:Bool)(md:Bool),∀Q:Ou Un→Prop,(Q ⟨(.tuple #[(.int .u32 ((Mp.mk ma mb mc md).word)),(.int .i64 ((Mp.mk ma mb mc md).err))]),(some (.t [none,none])),[],[],[]⟩)→∀(X:Nat→Nat→Prop)(w:World),Sat (U:=Un) [] X w→aD (U:=Un) [] fr0 []→Calls Tryz.prog 136 #[(.agg #[(.bool ma),(.int .i64 mb),(.bool mc),(.bool md)])] w (aP (U:=Un) [] [] X w Q)
 intro ma mb mc md Q hQ X w hs hl
 refine(Gy ma mb mc md).mono ?_
 rintro e w' ⟨u,rfl,rfl,q⟩
 exact aP.pu hs q hQ (KnO.tup _ (by simp))
def cy:Ctr Un:=⟨[.one (.int .u32),.agg [.bool,.int .i64,.bool,.bool],.one (.fn 136)],[],[],[],fun v ma mb mc md K=>∀(ra:Bool)(rb:Int)(rc:Bool)(rd:Bool)(re:Int),((Mp.mk ra rb rc rd=(if v≠0∧(Mp.mk ma mb mc md).err=0∧(Mp.mk ma mb mc md).word=v then(Mp.mk ma mb mc md)else Mp.nil)∧re=(if v=0 then 92 else if(Mp.mk ma mb mc md).err=0∧(Mp.mk ma mb mc md).word=v then 0 else 90)))→K ⟨(.tuple #[(.agg #[(.bool ra),(.int .i64 rb),(.bool rc),(.bool rd)]),(.int .i64 re)]),(some (.t [none,none])),[],[],[]⟩⟩
def lx(v:Int)(ma:Bool)(mb:Int)(mc:Bool)(md:Bool)(Q:Ou Un→Prop):Prop:=
 ∀(gv:Nat),
 ∀(gv1:Nat),
 ∀(gv2:Nat),
 split (v==0) (
  Q ⟨(.tuple #[(.agg #[(.bool false),(.int .i64 0),(.bool false),(.bool false)]),(.int .i64 92)]),(some (.t [none,none])),[],[],[]⟩) (
  ∃J:Bool→Prop,(
   split ((Mp.mk ma mb mc md).err !=0) (
    J true) (
    J ((Mp.mk ma mb mc md).word !=v)))∧∀(_gv3:Nat→Value)(x26:Bool),J x26→
  split x26 (
   Q ⟨(.tuple #[(.agg #[(.bool false),(.int .i64 0),(.bool false),(.bool false)]),(.int .i64 90)]),(some (.t [none,none])),[],[],[]⟩) (
   Q ⟨(.tuple #[(.agg #[(.bool ma),(.int .i64 mb),(.bool mc),(.bool md)]),(.int .i64 0)]),(some (.t [none,none])),[],[],[]⟩))
theorem ly:Vc2 Un Tryz.prog (bd [(136,nk)]) [] Tryz.f135 (.r' (.r' (.r' (.two (.r' (.two (.node [] (some ⟨[(26,(.one .bool))],[],upN 20 7,[]⟩) [] [] .leaf .leaf) .leaf)) .leaf)))) [] cy=(∀v ma mb mc md,∀Q,(cy.body v ma mb mc md Q)→lx v ma mb mc md Q):=by kernel_rfl
theorem lv:LV Un Tryz.prog 135 cy:=verify Tryz.func135 aa (tb:= [(136,nk)]) ⟨CU,trivial⟩ (by kernel_rfl) (ly.mpr fun v ma mb mc md Q h=>fun gv=>fun gv1=>fun gv2=>aE (fun c1=>(h false 0 false false 92 (by(grind)))) fun c1=>bw ((((Mp.mk ma mb mc md).err:Int) !=0) || (((Mp.mk ma mb mc md).word:Int) !=v)) (ae (fun c2=>(by grind)) fun c2=>(by grind))<| aS (fun c3=>(h false 0 false false 90 (by(grind)))) fun c3=>(h ma mb mc md 0 (by(grind))))
def cz:Ctr Un:=⟨[.one (.int .u32)],[],[],[],fun v K=>(0≤(v:Int)∧(v:Int)<4294967296)∧K ⟨(.tuple #[(.agg #[(.bool ((cw v).bH)),(.int .i64 ((cw v).ar)),(.bool ((cw v).write)),(.bool ((cw v).exec))]),(.int .i64 (lT v))]),(some (.t [none,none])),[],[],[]⟩⟩
def qT(v:Int)(Q:Ou Un→Prop):Prop:=
 ∀(gv:Nat),
 ∀x7:Bool,x7=((u32.wrap (BitVec.ofInt u32.bits v &&& BitVec.ofInt u32.bits 2).toNat:Int) !=0)→
 ∀x10:Int,x10=(i64.wrap ((v:Int).fdiv (2 ^ 8)))→
 ∀x14:Bool,x14=((u32.wrap (BitVec.ofInt u32.bits v &&& BitVec.ofInt u32.bits 4).toNat:Int) !=0)→
 ∀x17:Bool,x17=((u32.wrap (BitVec.ofInt u32.bits v &&& BitVec.ofInt u32.bits 8).toNat:Int) !=0)→
 ∀(ra:Bool)(rb:Int)(rc:Bool)(rd:Bool)(re:Int),
 ((Mp.mk ra rb rc rd=(if v≠0∧(Mp.mk x7 x10 x14 x17).err=0∧(Mp.mk x7 x10 x14 x17).word=v then(Mp.mk x7 x10 x14 x17)else Mp.nil)∧re=(if v=0 then 92 else if(Mp.mk x7 x10 x14 x17).err=0∧(Mp.mk x7 x10 x14 x17).word=v then 0 else 90)))→
 Q ⟨(.tuple #[(.agg #[(.bool ra),(.int .i64 rb),(.bool rc),(.bool rd)]),(.int .i64 re)]),(some (.t [none,none])),[],[],[]⟩
theorem qU:Vc2 Un Tryz.prog (bd [(135,cy)]) [7,10,14,17] Tryz.f108 .leaf [] cz=(∀v,∀Q,(cz.body v Q)→qT v Q):=by kernel_rfl
theorem j3:LV Un Tryz.prog 108 cz:=verify Tryz.func108 aa (tb:= [(135,cy)]) ⟨lv,trivial⟩ (by kernel_rfl) (qU.mpr fun v Q h=>by
 obtain⟨hp0,h⟩:=h
 exact fun gv=>fun x7 h_x7=>fun x10 h_x10=>fun x14 h_x14=>fun x17 h_x17=>fun ra rb rc rd re f1=>(by(have e0:i64.wrap ((v:Int).fdiv (2 ^ 8))=v / 256:=by rw [nZ,ai (by omega)];rfl);(rw [gp 1 2 (by decide) (by omega) hp0]at h_x7);rw [e0]at h_x10;(rw [gp 2 4 (by decide) (by omega) hp0]at h_x14);(rw [gp 3 8 (by decide) (by omega) hp0]at h_x17);(have hg:Mp.mk x7 x10 x14 x17=Mp.Bz v:=by rw [h_x7,h_x10,h_x14,h_x17];rfl);rw [hg]at f1;exact aK h (by(have hm:cw v=Mp.mk ra rb rc rd∧lT v=re:=by grind [cw,lT,uv]);rw [hm.1,hm.2]) rfl rfl))
def j8:Ctr Un:=⟨[.enc 6],[],[],[],fun f K=>K ⟨(.int .u32 (File.flags f)),none,[],[],[]⟩⟩
def Gk(f:Fl)(Q:Ou Un→Prop):Prop:=
 ∀(gv:Nat),
 ∀(s:Fl),s=(Fl.norm f)→
 Fl.Ok s→
 split (Fl.z s) (
  Q ⟨(.int .u32 1),none,[],[],[]⟩) (
  ∀wv:Int,wv=0→
  split (Fl.n s) (
   ∀wv1:Int,wv1=(u32.wrap (BitVec.ofInt u32.bits wv ||| BitVec.ofInt u32.bits 2).toNat)→
   split (Fl.l s) (
    ∀wv2:Int,wv2=(u32.wrap (BitVec.ofInt u32.bits wv1 ||| BitVec.ofInt u32.bits 4).toNat)→
    Q ⟨(.int .u32 wv2),none,[],[],[]⟩) (
    Q ⟨(.int .u32 wv1),none,[],[],[]⟩)) (
   split (Fl.l s) (
    ∀wv1:Int,wv1=(u32.wrap (BitVec.ofInt u32.bits wv ||| BitVec.ofInt u32.bits 4).toNat)→
    Q ⟨(.int .u32 wv1),none,[],[],[]⟩) (
    Q ⟨(.int .u32 wv),none,[],[],[]⟩)))
theorem Gl:Vc2 Un Tryz.prog (bd []) [3] Tryz.f150 .leaf [] j8=(∀(f:Fl),∀Q,(j8.body f Q)→Gk f Q):=by kernel_rfl
theorem Gj:LV Un Tryz.prog 150 j8:=verify Tryz.func150 aa (tb:= []) trivial (by kernel_rfl) (Gl.mpr fun f Q h=>fun gv=>fun s h_s f1=>ae (fun c1=>eO h (by subst_vars;simp only [Fl.norm]at *;(simp [File.flags, *];done))) fun c1=>fun wv h_wv=>ae (fun c2=>fun wv1 h_wv1=>ae (fun c3=>fun wv2 h_wv2=>eO h (by subst_vars;simp only [Fl.norm]at *;(simp only [File.flags, *];rfl))) fun c3=>eO h (by subst_vars;simp only [Fl.norm]at *;(simp only [File.flags, *];rfl))) fun c2=>ae (fun c4=>fun wv1 h_wv1=>eO h (by subst_vars;simp only [Fl.norm]at *;(simp only [File.flags, *];rfl))) fun c4=>eO h (by subst_vars;simp only [Fl.norm]at *;(simp [File.flags, *];done)))
def ic:Ctr Un:=⟨[.enc 6,.one (.int .u32)],[],[],[],fun f w K=>Fl.Ok f∧(0≤(w:Int)∧(w:Int)<4294967296)∧K ⟨(.tuple #[(.agg ⟨Fl.cells (File.eE f w)⟩),(.int .i64 (File.fE w))]),(some (.t [none,none])),[],[],[]⟩⟩
def AU(f:Fl)(w:Int)(Q:Ou Un→Prop):Prop:=
 ∀(gv:Nat),
 ∀(s:Fl),s=(Fl.norm f)→
 Fl.Ok s→
 ∀(gv1:Nat),
 ∀(s1:Fl),s1=Fl.zero→
 Fl.Ok s1→
 ∀x8:Bool,x8=((u32.wrap (BitVec.ofInt u32.bits w &&& BitVec.ofInt u32.bits 1).toNat:Int) !=0)→
 ∀x11:Bool,x11=((u32.wrap (BitVec.ofInt u32.bits w &&& BitVec.ofInt u32.bits 2).toNat:Int) !=0)→
 ∀x14:Bool,x14=((u32.wrap (BitVec.ofInt u32.bits w &&& BitVec.ofInt u32.bits 4).toNat:Int) !=0)→
 True∧
 ∀(s2:Fl),s2=({s with z:=x8}:Fl)→
 Fl.Ok s2→
 True∧
 ∀(s3:Fl),s3=({s2 with n:=x11}:Fl)→
 Fl.Ok s3→
 True∧
 ∀(s4:Fl),s4=({s3 with l:=x14}:Fl)→
 Fl.Ok s4→
 True∧
 split ((File.flags (Fl.norm s4)) !=w) (
  True∧
  ∀(s5:Fl),s5=Fl.zero→
  Fl.Ok s5→
  True∧
  Q ⟨(.tuple #[(.agg ⟨Fl.cells s5⟩),(.int .i64 80)]),(some (.t [none,none])),[],[],[]⟩) (
  True∧
  True∧
  ∀(s5:Fl),s5=(Fl.norm s4)→
  Fl.Ok s5→
  True∧
  Q ⟨(.tuple #[(.agg ⟨Fl.cells s5⟩),(.int .i64 0)]),(some (.t [none,none])),[],[],[]⟩)
theorem AW:Vc2 Un Tryz.prog (bd [(150,j8)]) [8,11,14] Tryz.f137 .leaf [] ic=(∀(f:Fl) w,∀Q,(ic.body f w Q)→AU f w Q):=by kernel_rfl
theorem AT:LV Un Tryz.prog 137 ic:=verify Tryz.func137 aa (tb:= [(150,j8)]) ⟨Gj,trivial⟩ (by kernel_rfl) (AW.mpr fun f w Q h=>by
 obtain⟨hp0,hp1,h⟩:=h
 exact fun gv=>fun s h_s f1=>fun gv1=>fun s1 h_s1 f2=>fun x8 h_x8=>fun x11 h_x11=>fun x14 h_x14=>ao trivial fun _=>fun s2 h_s2 f4=>ao trivial fun _=>fun s3 h_s3 f6=>ao trivial fun _=>fun s4 h_s4 f8=>ao trivial fun _=>bo (fun c1=>ao trivial fun _=>fun s5 h_s5 f11=>ao trivial fun _=>(by(have e4:Fl.norm s4= {f with z:=x8,n:=x11,l:=x14}:=by rw [Fl.norm_eq (show Fl.Ok s4 by assumption),h_s4,h_s3,h_s2,h_s,Fl.norm_eq hp0]);(rw [gp 0 1 (by decide) (by omega) hp1]at h_x8);(rw [gp 1 2 (by decide) (by omega) hp1]at h_x11);(rw [gp 2 4 (by decide) (by omega) hp1]at h_x14);have hi:=File.wO hp1;(have h0:File.fU w=false:=(by rw [e4,h_x8,h_x11,h_x14]at c1;simp only [File.flags]at c1;rw [hi]at c1;simpa using c1));exact aK h (congrArg (fun l=>Value.tuple (List.toArray l)) (af (congrArg (fun s:Fl=>Value.agg ⟨Fl.cells s⟩) (by rw [File.wM h0,h_s5])) (af (congrArg (Value.int .i64) (by rw [File.wP h0])) rfl))) rfl rfl)) fun c1=>ao trivial fun _=>ao trivial fun _=>fun s5 h_s5 f15=>ao trivial fun _=>(by(have e4:Fl.norm s4= {f with z:=x8,n:=x11,l:=x14}:=by rw [Fl.norm_eq (show Fl.Ok s4 by assumption),h_s4,h_s3,h_s2,h_s,Fl.norm_eq hp0]);(rw [gp 0 1 (by decide) (by omega) hp1]at h_x8);(rw [gp 1 2 (by decide) (by omega) hp1]at h_x11);(rw [gp 2 4 (by decide) (by omega) hp1]at h_x14);have hi:=File.wO hp1;(have h0:File.fU w=true:=(by rw [e4,h_x8,h_x11,h_x14]at c1;simp only [File.flags]at c1;rw [hi]at c1;simpa using c1));have h2:=File.Cz h0;exact aK h (congrArg (fun l=>Value.tuple (List.toArray l)) (af (congrArg (fun s:Fl=>Value.agg ⟨Fl.cells s⟩) (by rw [File.zP h0,h_s5,e4,h_x8,h_x11,h_x14,h2.1,h2.2.1,h2.2.2])) (af (congrArg (Value.int .i64) (by rw [File.zQ h0])) rfl))) rfl rfl))
def kA:Ctr Un:=⟨[.one (.sl 0)],[],[.lst 1 false 22],[],fun A c l K=>((∀x∈l,0≤x.v∧x.v<4294967296))∧K ⟨(.tuple #[(.agg ⟨Fl.cells (File.unpack l)⟩),(.int .i64 (File.fu l))]),(some (.t [none,none])),[],[],[]⟩⟩
def DK(A:Option Addr)(c:Nat)(l:List U32)(Q:Ou Un→Prop):Prop:=
 ∀(gv:Nat),
 ∀(s:Fl),s=Fl.zero→
 Fl.Ok s→
 split ((l.length:Int) !=17) (
  True∧
  ∀(s1:Fl),s1=Fl.zero→
  Fl.Ok s1→
  True∧
  Q ⟨(.tuple #[(.agg ⟨Fl.cells s1⟩),(.int .i64 80)]),(some (.t [none,none])),[],[],[]⟩) (
  (0<l.length∧15≤l.length)∧
  (15≤l.length)∧
  (0≤(15:Int)∧(15:Int)<(l.length:Int))∧
  ∀(gv1:Nat),
  ∀(s1:Fl),s1=Fl.zero→
  Fl.Ok s1→
  True∧
  ∀(s2:Fl),s2=(Fl.mk [U32.mk ((l.getD 0 (U32.mk 0)).v),U32.mk ((l.getD 1 (U32.mk 0)).v),U32.mk ((l.getD 2 (U32.mk 0)).v),U32.mk ((l.getD 3 (U32.mk 0)).v),U32.mk ((l.getD 4 (U32.mk 0)).v),U32.mk ((l.getD 5 (U32.mk 0)).v),U32.mk ((l.getD 6 (U32.mk 0)).v),U32.mk ((l.getD 7 (U32.mk 0)).v),U32.mk ((l.getD 8 (U32.mk 0)).v),U32.mk ((l.getD 9 (U32.mk 0)).v),U32.mk ((l.getD 10 (U32.mk 0)).v),U32.mk ((l.getD 11 (U32.mk 0)).v),U32.mk ((l.getD 12 (U32.mk 0)).v),U32.mk ((l.getD 13 (U32.mk 0)).v),U32.mk ((l.getD 14 (U32.mk 0)).v)] ((l.getD (Int.toNat 15) (U32.mk 0)).v) false false false)→
  Fl.Ok s2→
  True∧
  (0≤(16:Int)∧(16:Int)<(l.length:Int))∧
  Fl.Ok (Fl.norm s2)∧
  (0≤((l.getD (Int.toNat 16) (U32.mk 0)).v)∧((l.getD (Int.toNat 16) (U32.mk 0)).v)<4294967296)∧
  True∧
  ∀(s3:Fl),s3=(Fl.norm (File.eE (Fl.norm s2) ((l.getD (Int.toNat 16) (U32.mk 0)).v)))→
  Fl.Ok s3→
  ∃J:Bool→Prop,(
   split ((File.fE ((l.getD (Int.toNat 16) (U32.mk 0)).v))==0) (
    True∧
    J (bf ⟨Fl.cells s3⟩ ⟨Fl.cells Fl.zero⟩)) (
    J false))∧∀(_gv2:Nat→Value)(x31:Bool),J x31→
  split x31 (
   True∧
   ∀(s4:Fl),s4=Fl.zero→
   Fl.Ok s4→
   True∧
   Q ⟨(.tuple #[(.agg ⟨Fl.cells s4⟩),(.int .i64 0)]),(some (.t [none,none])),[],[],[]⟩) (
   True∧
   True∧
   ∀(s4:Fl),s4=(Fl.norm s3)→
   Fl.Ok s4→
   True∧
   Q ⟨(.tuple #[(.agg ⟨Fl.cells s4⟩),(.int .i64 (File.fE ((l.getD (Int.toNat 16) (U32.mk 0)).v)))]),(some (.t [none,none])),[],[],[]⟩))
theorem DL:Vc2 Un Tryz.prog (bd [(137,ic)]) [] Tryz.f110 (.r' (.r' (.two (.node [] none [] [(2,[0]),(5,[0])] .leaf .leaf) (.two (.node [] none [] [(0,[2]),(3,[0])] .leaf .leaf) (.two (.two (.node [] (some ⟨[(31,(.one .bool))],[],upN 25 7,[]⟩) [] [] .leaf .leaf) .leaf) .leaf))))) [] kA=(∀A c (l:List U32),∀Q,(((∀x∈l,0≤x.v∧x.v<4294967296))∧Q ⟨(.tuple #[(.agg ⟨Fl.cells (File.unpack l)⟩),(.int .i64 (File.fu l))]),(some (.t [none,none])),[],[],[]⟩)→DK A c l Q):=by kernel_rfl
theorem DJ:LV Un Tryz.prog 110 kA:=verify Tryz.func110 aa (tb:= [(137,ic)]) ⟨AT,trivial⟩ (by kernel_rfl) (DL.mpr fun A c l Q h=>by
 obtain⟨hp0,h⟩:=h
 exact fun gv=>fun s h_s f1=>bo (fun c1=>ao trivial fun _=>fun s1 h_s1 f3=>ao trivial fun _=>(by(have h0:¬l.length=17:=by omega);exact aK h (congrArg (fun l=>Value.tuple (List.toArray l)) (af (congrArg (fun s:Fl=>Value.agg ⟨Fl.cells s⟩) (by rw [(File.pC h0).1,h_s1])) (af (congrArg (Value.int .i64) (by rw [(File.pC h0).2])) rfl))) rfl rfl)) fun c1=>ao (by omega) fun s5=>ao (by omega) fun s6=>ao (by omega) fun s7=>fun gv1=>fun s1 h_s1 f8=>ao trivial fun _=>fun s2 h_s2 f10=>ao trivial fun _=>ao (by omega) fun s12=>ao (Fl.GX _) fun s13=>ao (File.zO hp0 _) fun s14=>ao trivial fun _=>fun s3 h_s3 f16=>bw ((((File.fE ((l.getD (Int.toNat 16) (U32.mk 0)).v)):Int)==0) && (bf ⟨Fl.cells s3⟩ ⟨Fl.cells Fl.zero⟩)) (ae (fun c2=>ao trivial fun _=>(by grind)) fun c2=>(by grind))<| bQ (fun c3=>ao trivial fun _=>fun s4 h_s4 f19=>ao trivial fun _=>(by(have h0:l.length=17:=by omega);have hu:=File.nL h0;(have e2:Fl.norm s2=File.bare l:=by rw [Fl.norm_eq (show Fl.Ok s2 by assumption),h_s2,File.bare_eq h0]);(have e3:s3=File.eE (File.bare l) (l.getD 16 (U32.mk 0)).v:=by rw [h_s3,e2];exact Fl.norm_eq (File.qy h0 _));(have hz:=Fl.G7 (show Fl.Ok s3 by assumption) c3.2);exact aK h (congrArg (fun l=>Value.tuple (List.toArray l)) (af (congrArg (fun s:Fl=>Value.agg ⟨Fl.cells s⟩) (by rw [hu.1,← e3,hz,h_s4])) (af (congrArg (Value.int .i64) (by(rw [hu.2];simpa using c3.1))) rfl))) rfl rfl)) fun c3=>ao trivial fun _=>ao trivial fun _=>fun s4 h_s4 f23=>ao trivial fun _=>(by(have h0:l.length=17:=by omega);have hu:=File.nL h0;(have e2:Fl.norm s2=File.bare l:=by rw [Fl.norm_eq (show Fl.Ok s2 by assumption),h_s2,File.bare_eq h0]);(have e3:s3=File.eE (File.bare l) (l.getD 16 (U32.mk 0)).v:=by rw [h_s3,e2];exact Fl.norm_eq (File.qy h0 _));exact aK h (congrArg (fun l=>Value.tuple (List.toArray l)) (af (congrArg (fun s:Fl=>Value.agg ⟨Fl.cells s⟩) (by(rw [hu.1,← e3,h_s4];exact(Fl.norm_eq ‹_›).symm))) (af (congrArg (Value.int .i64) (by exact hu.2)) rfl))) rfl rfl))
end Go.Proofs.YtbjlecpmgocoeaaGreatDoor
end
section
set_option maxRecDepth 10000
set_option maxHeartbeats 1000000
namespace Go.Proofs.YtbjlecpmgocoeaaGreatDoor
open Go Go.RowKit V
open Go.IntKind (i64 u32 u64)
theorem Kd {w:World}:
 Calls Tryz.prog 87 #[] w fun e w'=>∃v,e= .returned v∧∃g:Nat,∃L:DgL,v= .pointer (some (Addr.mk g 0 none))∧mG w' g L Dg.new∧(∀k,L.X g k→w.heap.size≤k)∧Pu w w':=by
 refine Ag ?_
 have hp:=Ch.refl (fun _=>False) w
 refine Calls.mono (Ek) ?_
 rintro e wv ⟨_,rfl,rfl,q_wv⟩
 refine⟨_,_,_,_,_,_,_,_,rfl,?_⟩
 refine mkd fun gv wv1 m_gv=>?_
 have b_gv:=m_gv.blk
 have hp:=Ch.made (Ch.pu hp q_wv) m_gv
 exact⟨gv,⟨fun _=>False,none,0,0⟩,rfl,⟨⟨_,b_gv⟩,Rd.nil,fun h=>h⟩,by have:=m_gv.num;have:=q_wv.size;rintro k (rfl | hk);omega;exact hk.elim,hp⟩
theorem Ke {g:Nat} {L:DgL} {D:Dg} {Z:Nat→Prop} {wordsA:Option Addr} {wordsN:Nat} {wordsC:Nat} {l:List U32} {K:List Int} {w:World}(h:mG w g L D)(hz:Rd w Z wordsA wordsN wordsC l)(hk:fV w 1 K)(ok:D.Ok)(hlen:l.length≤1099511627776)(hzg:¬Z g)(hg1:¬g=1):
 Calls Tryz.prog 89 #[(.pointer (some (Addr.mk g 0 none))),(.slice wordsA wordsN wordsC)] w fun e w'=>∃v,e= .returned v∧∃L':DgL,v= .tuple #[]∧mG w' g L' (D.add K l)∧(∀k,(L'.X g) k→(L.X g) k∨w.heap.size≤k)∧Ch (L.X g) w w':=by
 refine Ai (some (Addr.mk g 0 none)) _ _ _ ?_
 have hn:=ok.n
 have hz0:=hz
 have hg9:=h.lt g (.inl rfl)
 have hp:=Ch.refl (L.X g) w
 have lt_h:=h.lt
 have lt_hz:=hz.lt
 have lt_hk:=hk.lt
 obtain⟨⟨hT,hb⟩,hr,hoff⟩:=h
 have lt_hr:=hr.lt
 refine ah _ rfl ⟨_,hb.at rfl,?_⟩
 refine ax (fun c1=>?_) (fun c1=>?_)
 ·exact⟨L,rfl,by have hc:(l.length:Int)>36028797018963968 - D.n:=(by have:=hz.len;rw [ai (by omega)]at c1;omega);rw [Dg.add,if_pos hc];exact⟨⟨_,hb⟩,hr,hoff⟩,fun k hk=>.inl hk,hp⟩
 ·have hzl:=hz.len
  have hrl:=hr.len
  have hn:=ok.n
  have hwl:=ok.len
  have hcap:=hr.cap
  rw [ai (by omega)]at c1
  refine ah _ rfl ⟨_,hb.at rfl,ah _ rfl (aM hb (by simp) fun wv s_wv=>?_)⟩
  have hb:Blk wv g #[(.int .u32 D.st.a),(.int .u32 D.st.b),(.int .u32 D.st.c),(.int .u32 D.st.d),(.int .u32 D.st.e),(.int .u32 D.st.f),(.int .u32 D.st.g),(.int .u32 D.st.h),(.int .i64 (i64.wrap (D.n+((wordsN:Nat):Int)))),(.slice L.a L.n L.c)] _:=s_wv.blk.cast (by kernel_rfl)
  refine⟨bXU [] [3,7,12] wv.drew (fun _=>False),?_⟩
  have hb:=Blk.drew hb
  refine ah _ rfl ⟨.inl (by decide),_,_,_,hb.at rfl,ah _ rfl ⟨.inl (by decide),_,_,_,hb.at rfl,ah _ rfl ⟨.inl (by decide),_,_,_,hb.at rfl,⟨by omega,⟨by omega,?_⟩⟩⟩⟩⟩
  have hr:=(hr.ch s_wv.ch (fun k hx e=>(hoff) (e▸hx))).pu (Pu.aI _)
  rintro x36A e_x36A x36N e_x36N x36C e_x36C
  have r_x36A:=Rd.all hr e_x36A e_x36N e_x36C (by omega) (by omega)
  have hz:=(hz.ch s_wv.ch (fun k hx e=>(hzg) (e▸hx))).pu (Pu.aI _)
  have hp:=Ch.drew (Ch.call hp s_wv.ch (by exact fun k hk=>.inl (.inl hk)))
  refine I3 pG r_x36A (by omega) hz (by omega) (by omega) fun A_wv1 c_wv1 wv1 o_wv1 q_wv1=>?_
  refine bXU.qo q_wv1 (by decide) ?_
  have hp:=Ch.pu hp q_wv1
  have hz:=hz.pu q_wv1
  have hk:=((hk.ch s_wv.ch (fun k hx e=>(hg1) (e▸hx))).pu (Pu.aI _)).pu q_wv1
  have hb:=Pu.blk q_wv1 hb
  refine⟨fun mz leftA leftN leftC W=>∃Z_ll:Nat→Prop,∃ll:List U32,∃S:S8,∃n2:Int,mz=ll.length∧(bJ K S ll=bJ K D.st (D.waits++l))∧(¬Z_ll g)∧(ll.length≤1099511627800)∧(n2=D.n+l.length)∧Rd W Z_ll leftA leftN leftC ll∧Ch (L.X g) w W∧Rd W Z wordsA wordsN wordsC l∧fV W 1 K∧Blk W g #[(.int .u32 S.a),(.int .u32 S.b),(.int .u32 S.c),(.int .u32 S.d),(.int .u32 S.e),(.int .u32 S.f),(.int .u32 S.g),(.int .u32 S.h),(.int .i64 n2),(.slice L.a L.n L.c)] hT,⟨_,(fun k=>(L.Y k∨wv.drew.heap.size≤k)∧k<wv1.heap.size),(D.waits++l),D.st,_,rfl,rfl,(by rintro⟨h | h,_⟩;exact hoff h;exact absurd (Nat.lt_of_lt_of_le hg9 (Nat.le_trans s_wv.kept.size h)) (Nat.lt_irrefl _)),(by rw [List.length_append];omega),(by rw [ai (by omega)];omega),o_wv1,hp,hz,hk,hb⟩,?_⟩
  rintro _ _ leftA leftN leftC wv2 ⟨Z_ll,ll,S,n2,rfl,hI,hlz,hlb,hn2,h_ll,hp,hz,hk,hb⟩
  refine ax (fun c2=>?_) (fun c2=>?_)
  ·refine⟨bXU [] [4,7] wv2.drew (fun _=>False),?_⟩
   have hb:=Blk.drew hb
   have h_ll:=h_ll.pu (Pu.aI _)
   refine ah _ rfl ⟨.inl (by decide),_,_,_,_,_,_,_,_,⟨hb.at2 rfl,hb.at2 rfl,hb.at2 rfl,hb.at2 rfl,hb.at2 rfl,hb.at2 rfl,hb.at2 rfl,hb.at2 rfl⟩,⟨by omega,?_⟩⟩
   obtain⟨p3,ha3,hz3,hc3⟩:=h_ll.u32 (by omega)
   refine ah p3 ha3 ⟨.inl (by decide),_,_,_,_,_,_,_,_,_,_,_,_,_,_,_,_,⟨hc3 0 (by omega),hc3 1 (by omega),hc3 2 (by omega),hc3 3 (by omega),hc3 4 (by omega),hc3 5 (by omega),hc3 6 (by omega),hc3 7 (by omega),hc3 8 (by omega),hc3 9 (by omega),hc3 10 (by omega),hc3 11 (by omega),hc3 12 (by omega),hc3 13 (by omega),hc3 14 (by omega),hc3 15 (by omega)⟩,?_⟩
   have hk:=hk.pu (Pu.aI _)
   refine Calls.mono (Il hk _ _ _ _ _ _ _ _ _ _ _ _ _ _ _ _ _ _ _ _ _ _ _ _) ?_
   rintro e wv3 ⟨_,rfl,rfl,q_wv3⟩
   refine⟨_,_,_,_,_,_,_,_,rfl,?_⟩
   refine bXU.qo q_wv3 (by decide) ?_
   have hb:=Pu.blk q_wv3 hb
   refine ah _ rfl (aM hb (by simp) fun wv4 s_wv4=>?_)
   have hb:Blk wv4 g #[(.int .u32 ((dk K (S8.mk S.a S.b S.c S.d S.e S.f S.g S.h) [((ll.getD 0 ⟨0⟩).v),((ll.getD 1 ⟨0⟩).v),((ll.getD 2 ⟨0⟩).v),((ll.getD 3 ⟨0⟩).v),((ll.getD 4 ⟨0⟩).v),((ll.getD 5 ⟨0⟩).v),((ll.getD 6 ⟨0⟩).v),((ll.getD 7 ⟨0⟩).v),((ll.getD 8 ⟨0⟩).v),((ll.getD 9 ⟨0⟩).v),((ll.getD 10 ⟨0⟩).v),((ll.getD 11 ⟨0⟩).v),((ll.getD 12 ⟨0⟩).v),((ll.getD 13 ⟨0⟩).v),((ll.getD 14 ⟨0⟩).v),((ll.getD 15 ⟨0⟩).v)]).a)),(.int .u32 ((dk K (S8.mk S.a S.b S.c S.d S.e S.f S.g S.h) [((ll.getD 0 ⟨0⟩).v),((ll.getD 1 ⟨0⟩).v),((ll.getD 2 ⟨0⟩).v),((ll.getD 3 ⟨0⟩).v),((ll.getD 4 ⟨0⟩).v),((ll.getD 5 ⟨0⟩).v),((ll.getD 6 ⟨0⟩).v),((ll.getD 7 ⟨0⟩).v),((ll.getD 8 ⟨0⟩).v),((ll.getD 9 ⟨0⟩).v),((ll.getD 10 ⟨0⟩).v),((ll.getD 11 ⟨0⟩).v),((ll.getD 12 ⟨0⟩).v),((ll.getD 13 ⟨0⟩).v),((ll.getD 14 ⟨0⟩).v),((ll.getD 15 ⟨0⟩).v)]).b)),(.int .u32 ((dk K (S8.mk S.a S.b S.c S.d S.e S.f S.g S.h) [((ll.getD 0 ⟨0⟩).v),((ll.getD 1 ⟨0⟩).v),((ll.getD 2 ⟨0⟩).v),((ll.getD 3 ⟨0⟩).v),((ll.getD 4 ⟨0⟩).v),((ll.getD 5 ⟨0⟩).v),((ll.getD 6 ⟨0⟩).v),((ll.getD 7 ⟨0⟩).v),((ll.getD 8 ⟨0⟩).v),((ll.getD 9 ⟨0⟩).v),((ll.getD 10 ⟨0⟩).v),((ll.getD 11 ⟨0⟩).v),((ll.getD 12 ⟨0⟩).v),((ll.getD 13 ⟨0⟩).v),((ll.getD 14 ⟨0⟩).v),((ll.getD 15 ⟨0⟩).v)]).c)),(.int .u32 ((dk K (S8.mk S.a S.b S.c S.d S.e S.f S.g S.h) [((ll.getD 0 ⟨0⟩).v),((ll.getD 1 ⟨0⟩).v),((ll.getD 2 ⟨0⟩).v),((ll.getD 3 ⟨0⟩).v),((ll.getD 4 ⟨0⟩).v),((ll.getD 5 ⟨0⟩).v),((ll.getD 6 ⟨0⟩).v),((ll.getD 7 ⟨0⟩).v),((ll.getD 8 ⟨0⟩).v),((ll.getD 9 ⟨0⟩).v),((ll.getD 10 ⟨0⟩).v),((ll.getD 11 ⟨0⟩).v),((ll.getD 12 ⟨0⟩).v),((ll.getD 13 ⟨0⟩).v),((ll.getD 14 ⟨0⟩).v),((ll.getD 15 ⟨0⟩).v)]).d)),(.int .u32 ((dk K (S8.mk S.a S.b S.c S.d S.e S.f S.g S.h) [((ll.getD 0 ⟨0⟩).v),((ll.getD 1 ⟨0⟩).v),((ll.getD 2 ⟨0⟩).v),((ll.getD 3 ⟨0⟩).v),((ll.getD 4 ⟨0⟩).v),((ll.getD 5 ⟨0⟩).v),((ll.getD 6 ⟨0⟩).v),((ll.getD 7 ⟨0⟩).v),((ll.getD 8 ⟨0⟩).v),((ll.getD 9 ⟨0⟩).v),((ll.getD 10 ⟨0⟩).v),((ll.getD 11 ⟨0⟩).v),((ll.getD 12 ⟨0⟩).v),((ll.getD 13 ⟨0⟩).v),((ll.getD 14 ⟨0⟩).v),((ll.getD 15 ⟨0⟩).v)]).e)),(.int .u32 ((dk K (S8.mk S.a S.b S.c S.d S.e S.f S.g S.h) [((ll.getD 0 ⟨0⟩).v),((ll.getD 1 ⟨0⟩).v),((ll.getD 2 ⟨0⟩).v),((ll.getD 3 ⟨0⟩).v),((ll.getD 4 ⟨0⟩).v),((ll.getD 5 ⟨0⟩).v),((ll.getD 6 ⟨0⟩).v),((ll.getD 7 ⟨0⟩).v),((ll.getD 8 ⟨0⟩).v),((ll.getD 9 ⟨0⟩).v),((ll.getD 10 ⟨0⟩).v),((ll.getD 11 ⟨0⟩).v),((ll.getD 12 ⟨0⟩).v),((ll.getD 13 ⟨0⟩).v),((ll.getD 14 ⟨0⟩).v),((ll.getD 15 ⟨0⟩).v)]).f)),(.int .u32 ((dk K (S8.mk S.a S.b S.c S.d S.e S.f S.g S.h) [((ll.getD 0 ⟨0⟩).v),((ll.getD 1 ⟨0⟩).v),((ll.getD 2 ⟨0⟩).v),((ll.getD 3 ⟨0⟩).v),((ll.getD 4 ⟨0⟩).v),((ll.getD 5 ⟨0⟩).v),((ll.getD 6 ⟨0⟩).v),((ll.getD 7 ⟨0⟩).v),((ll.getD 8 ⟨0⟩).v),((ll.getD 9 ⟨0⟩).v),((ll.getD 10 ⟨0⟩).v),((ll.getD 11 ⟨0⟩).v),((ll.getD 12 ⟨0⟩).v),((ll.getD 13 ⟨0⟩).v),((ll.getD 14 ⟨0⟩).v),((ll.getD 15 ⟨0⟩).v)]).g)),(.int .u32 ((dk K (S8.mk S.a S.b S.c S.d S.e S.f S.g S.h) [((ll.getD 0 ⟨0⟩).v),((ll.getD 1 ⟨0⟩).v),((ll.getD 2 ⟨0⟩).v),((ll.getD 3 ⟨0⟩).v),((ll.getD 4 ⟨0⟩).v),((ll.getD 5 ⟨0⟩).v),((ll.getD 6 ⟨0⟩).v),((ll.getD 7 ⟨0⟩).v),((ll.getD 8 ⟨0⟩).v),((ll.getD 9 ⟨0⟩).v),((ll.getD 10 ⟨0⟩).v),((ll.getD 11 ⟨0⟩).v),((ll.getD 12 ⟨0⟩).v),((ll.getD 13 ⟨0⟩).v),((ll.getD 14 ⟨0⟩).v),((ll.getD 15 ⟨0⟩).v)]).h)),(.int .i64 n2),(.slice L.a L.n L.c)] _:=s_wv4.blk.cast (by kernel_rfl)
   refine bXU.grow s_wv4.ch ?_
   refine⟨by omega,?_⟩
   have h_ll:=(h_ll.pu q_wv3).ch s_wv4.ch (fun k hx e=>(hlz) (e▸hx))
   rintro x43A e_x43A x43N e_x43N x43C e_x43C
   have r_x43A:=Rd.from_ (lo:=16) h_ll e_x43A e_x43N e_x43C (by omega) (by have:=h_ll.cap;omega)
   have hp:=Ch.call (Ch.pu (Ch.drew hp) q_wv3) s_wv4.ch (by exact fun k hk=>.inl (.inl hk))
   have hz:=((hz.pu (Pu.aI _)).pu q_wv3).ch s_wv4.ch (fun k hx e=>(hzg) (e▸hx))
   have hk:=(hk.pu q_wv3).ch s_wv4.ch (fun k hx e=>(hg1) (e▸hx))
   exact⟨_,by rw [List.length_drop];have:=h_ll.len;omega,Z_ll,(ll.drop 16),(dk K S ((ll.take 16).map U32.v)),n2,rfl,(by rw [← hI,← dW (by have:=h_ll.len;omega)]),hlz,(by rw [List.length_drop];omega),hn2,r_x43A,hp,hz,hk,hb.cast (H7 (congrArg (Value.int .u32) (by rw [je (by have:=h_ll.len;omega)])) (congrArg (Value.int .u32) (by rw [je (by have:=h_ll.len;omega)])) (congrArg (Value.int .u32) (by rw [je (by have:=h_ll.len;omega)])) (congrArg (Value.int .u32) (by rw [je (by have:=h_ll.len;omega)])) (congrArg (Value.int .u32) (by rw [je (by have:=h_ll.len;omega)])) (congrArg (Value.int .u32) (by rw [je (by have:=h_ll.len;omega)])) (congrArg (Value.int .u32) (by rw [je (by have:=h_ll.len;omega)])) (congrArg (Value.int .u32) (by rw [je (by have:=h_ll.len;omega)])) (rfl) (rfl))⟩
  ·have hsz2:=hp.size
   have hog:¬wv2.heap.size≤g:=by omega
   refine mu pG h_ll (by omega) (by omega) fun A_wv3 c_wv3 wv3 o_wv3 q_wv3=>?_
   have hb:=Pu.blk q_wv3 hb
   refine ah _ rfl (aM hb (by simp) fun wv4 s_wv4=>?_)
   have hb:Blk wv4 g #[(.int .u32 S.a),(.int .u32 S.b),(.int .u32 S.c),(.int .u32 S.d),(.int .u32 S.e),(.int .u32 S.f),(.int .u32 S.g),(.int .u32 S.h),(.int .i64 n2),(.slice A_wv3 leftN c_wv3)] _:=s_wv4.blk.cast (by kernel_rfl)
   have o_wv3:=o_wv3.ch s_wv4.ch (fun k hx e=>hog (e▸hx.1))
   have hp:=Ch.call (Ch.pu hp q_wv3) s_wv4.ch (by exact fun k hk=>.inl (.inl hk))
   exact⟨⟨fun k=>wv2.heap.size≤k∧k<wv4.heap.size,A_wv3,leftN,c_wv3⟩,rfl,by have hn:=ok.n;have hc:¬(l.length:Int)>36028797018963968 - D.n:=(by have:=hz0.len;omega);have ha:bJ K D.st (D.waits++l)=(S,ll):=(by rw [← hI,dx (by have:=h_ll.len;omega)]);rw [Dg.add,if_neg hc,ha];exact⟨⟨_,Blk.cast hb (by rw [← hn2])⟩,(o_wv3).Is (fun k hk=>⟨hk.1.1,hk.2⟩) (fun k hk=>hk.2),fun h=>absurd h.1 hog⟩,fun k hk=>hk.elim (fun e=>.inl (.inl e)) (fun h=>.inr (Nat.le_trans hsz2 h.1)),hp⟩
theorem Ju {g:Nat} {L:DgL} {D:Dg} {w:World}(h:mG w g L D)(ok:D.Ok):
 Calls Tryz.prog 91 #[(.pointer (some (Addr.mk g 0 none)))] w fun e w'=>∃v,e= .returned v∧v= .agg (aT D.save)∧Pu w w':=by
 refine yd (some (Addr.mk g 0 none)) ?_
 have hwn:=h.rd.len
 have hwl:=ok.len
 have hp:=Ch.refl (fun _=>False) w
 have lt_h:=h.lt
 obtain⟨⟨hT,hb⟩,hr,hoff⟩:=h
 have lt_hr:=hr.lt
 refine mkd fun gv wv m_gv=>?_
 have lo_gv:=m_gv.lo hp
 have ne_g_gv:=m_gv.ne hb
 have b_gv:Blk wv gv (aT (List.replicate 26 0)) _:=m_gv.blk.cast (dN _ _)
 have hp:=Ch.made hp m_gv
 have hb:=Made.old m_gv hb
 refine mkd fun gv1 wv1 m_gv1=>?_
 have lo_gv1:=m_gv1.lo hp
 have ne_g_gv1:=m_gv1.ne hb
 have ne_gv_gv1:=m_gv1.ne b_gv
 have b_gv1:Blk wv1 gv1 (aT (List.replicate 26 0)) _:=m_gv1.blk.cast (dN _ _)
 refine⟨bXU [] [] wv1.drew (fun _=>False),?_⟩
 refine⟨by omega,?_⟩
 rintro _ rfl _ rfl _ rfl
 refine ah _ rfl ?_
 rintro _ rfl _ rfl _ rfl
 have b_gv1:=Blk.drew b_gv1
 have hb:=Blk.drew (Made.old m_gv1 hb)
 refine mh lP b_gv1 (o:=0) rfl (by(simp;done)) (cT.pre (Z:=fun _=>True) (o:=0) (r:= [D.st.a,D.st.b,D.st.c,D.st.d,D.st.e,D.st.f,D.st.g,D.st.h]) hb trivial rfl (by(simp;done)) (by rfl) (by rfl)) (by(simp;done)) fun wv2 s_wv2=>?_
 have b_gv1:=s_wv2.blk
 refine bXU.qo s_wv2.ch (by decide) ?_
 refine⟨bXU [] [3,10] wv2.drew (fun _=>False),?_⟩
 have hb:=Blk.drew (Ch.blk s_wv2.ch hb (ne_g_gv1))
 have b_gv1:=Blk.drew b_gv1
 refine ah _ rfl ⟨.inl (by decide),_,hb.at rfl,ah _ rfl ⟨.inl (by decide),_,hb.at rfl,⟨by decide,bU (i:=8) b_gv1 (by(simp;done)) fun wv3 s_wv3=>?_⟩⟩⟩
 have b_gv1:=s_wv3.blk
 refine bXU.qo s_wv3.ch (by decide) ?_
 refine⟨by decide,bU (i:=9) b_gv1 (by(simp;done)) fun wv4 s_wv4=>?_⟩
 have b_gv1:=s_wv4.blk
 refine bXU.grow s_wv4.ch ?_
 refine⟨bXU [] [4] wv4.drew (fun _=>False),?_⟩
 refine⟨by omega,?_⟩
 rintro _ rfl _ rfl _ rfl
 have hb:=Blk.drew (Ch.blk s_wv4.ch (Ch.blk s_wv3.ch hb (ne_g_gv1)) (ne_g_gv1))
 refine ah _ rfl ⟨.inl (by decide),_,_,_,hb.at rfl,?_⟩
 have b_gv1:=Blk.drew b_gv1
 have hr:=(((((((hr.pu m_gv.pu).pu m_gv1.pu).pu (Pu.aI _)).ch s_wv2.ch (fun k hx e=>(fun hx=>absurd (lt_hr _ hx) (Nat.not_lt.2 lo_gv1)) (e▸hx))).pu (Pu.aI _)).ch s_wv3.ch (fun k hx e=>(fun hx=>absurd (lt_hr _ hx) (Nat.not_lt.2 lo_gv1)) (e▸hx))).ch s_wv4.ch (fun k hx e=>(fun hx=>absurd (lt_hr _ hx) (Nat.not_lt.2 lo_gv1)) (e▸hx))).pu (Pu.aI _)
 refine mh lP b_gv1 (o:=10) rfl (by(simp;done)) (hr).ints (by(simp;omega)) fun wv5 s_wv5=>?_
 have b_gv1:=s_wv5.blk
 refine bXU.qo s_wv5.ch (by decide) ?_
 have b_gv:=Ch.blk s_wv5.ch (Blk.drew (Ch.blk s_wv4.ch (Ch.blk s_wv3.ch (Blk.drew (Ch.blk s_wv2.ch (Blk.drew (Made.old m_gv1 b_gv)) (ne_gv_gv1))) (ne_gv_gv1)) (ne_gv_gv1))) (ne_gv_gv1)
 refine⟨aT (eX (((eX (List.replicate 26 0) 0 ([D.st.a,D.st.b,D.st.c,D.st.d,D.st.e,D.st.f,D.st.g,D.st.h].take (min (8 - 0) ((Int.toNat 8) - 0)))).set 8 (u32.wrap ((u64.wrap D.n:Int).fdiv (2 ^ 32)))).set 9 (u32.wrap D.n)) 10 ((List.map U32.v D.waits).take (min L.n (26 - (Int.toNat 10))))),b_gv1.mQ (by(simp;done)),⟨by rw [dC];(simp;done),lQ,kj b_gv (by(simp;done)) fun wv6 s_wv6=>?_⟩⟩
 have b_gv:=s_wv6.blk
 refine⟨aT (eX (((eX (List.replicate 26 0) 0 ([D.st.a,D.st.b,D.st.c,D.st.d,D.st.e,D.st.f,D.st.g,D.st.h].take (min (8 - 0) ((Int.toNat 8) - 0)))).set 8 (u32.wrap ((u64.wrap D.n:Int).fdiv (2 ^ 32)))).set 9 (u32.wrap D.n)) 10 ((List.map U32.v D.waits).take (min L.n (26 - (Int.toNat 10))))),b_gv.mQ (by(simp;done)),?_⟩
 have hp:=Ch.call (Ch.call (Ch.drew (Ch.call (Ch.call (Ch.drew (Ch.call (Ch.drew (Ch.made hp m_gv1)) s_wv2.ch (by exact fun k e=>.inr (e▸lo_gv1)))) s_wv3.ch (by exact fun k e=>.inr (e▸lo_gv1))) s_wv4.ch (by exact fun k e=>.inr (e▸lo_gv1)))) s_wv5.ch (by exact fun k e=>.inr (e▸lo_gv1))) s_wv6.ch (by exact fun k e=>.inr (e▸lo_gv))
 exact⟨congrArg (fun l=>Value.agg (aT l)) (by exact Dg.save_eq ok (Dg.Ec ok.n) (u32_eq _) hwn),hp⟩
theorem Iu {w:World}:
 Calls Tryz.prog 88 #[] w fun e w'=>∃v,e= .returned v∧v= .agg #[(.int .u32 S8.first.a),(.int .u32 S8.first.b),(.int .u32 S8.first.c),(.int .u32 S8.first.d),(.int .u32 S8.first.e),(.int .u32 S8.first.f),(.int .u32 S8.first.g),(.int .u32 S8.first.h),(.slice none 0 0),(.int .i64 0)]∧Pu w w':=by
 refine vj ?_
 have hp:=Ch.refl (fun _=>False) w
 refine mkd fun gv wv m_gv=>?_
 have lo_gv:=m_gv.lo hp
 have b_gv:=m_gv.blk
 refine Calls.mono (Et) ?_
 rintro e wv1 ⟨_,rfl,rfl,q_wv1⟩
 have b_gv:=Pu.blk q_wv1 b_gv
 refine⟨_,_,_,_,_,_,_,_,rfl,cf b_gv rfl fun wv2 s_wv2=>?_⟩
 have b_gv:=s_wv2.blk
 refine⟨_,_,_,_,_,_,_,_,_,_,_,_,⟨b_gv.at rfl,b_gv.at rfl,b_gv.at rfl,b_gv.at rfl,b_gv.at rfl,b_gv.at rfl,b_gv.at rfl,b_gv.at rfl,b_gv.at rfl,b_gv.at rfl⟩,?_⟩
 have hp:=Ch.call (Ch.pu (Ch.made hp m_gv) q_wv1) s_wv2.ch (by exact fun k e=>.inr (e▸lo_gv))
 exact⟨rfl,hp⟩
theorem GN {Zd:Nat→Prop} {diA:Option Addr} {diN:Nat} {diC:Nat} {wl:List U32} {w:World}(hd:Rd w Zd diA diN diC wl)(da:Int)(db:Int)(dc:Int)(dd:Int)(de:Int)(df:Int)(dg:Int)(dh:Int)(dj:Int)(ok:(Dg.mk (S8.mk da db dc dd de df dg dh) dj wl).Ok):
 Calls Tryz.prog 92 #[(.agg #[(.int .u32 da),(.int .u32 db),(.int .u32 dc),(.int .u32 dd),(.int .u32 de),(.int .u32 df),(.int .u32 dg),(.int .u32 dh),(.slice diA diN diC),(.int .i64 dj)])] w fun e w'=>∃v,e= .returned v∧v= .agg (aT (Dg.mk (S8.mk da db dc dd de df dg dh) dj wl).save)∧Pu w w':=by
 refine sk _ _ _ _ _ _ _ _ _ _ _ _ ?_
 have hwn:=hd.len
 have hwl:wl.length=(dj % 16).toNat:=ok.len
 have hn:0≤dj∧dj≤36028797018963968:=ok.n
 have hp:=Ch.refl (fun _=>False) w
 have lt_hd:=hd.lt
 refine mkd fun gv wv m_gv=>?_
 have b_gv:=m_gv.blk
 have hp:=Ch.made hp m_gv
 refine mkd fun gv1 wv1 m_gv1=>?_
 have lo_gv1:=m_gv1.lo hp
 have ne_gv_gv1:=m_gv1.ne b_gv
 have b_gv1:Blk wv1 gv1 (aT (List.replicate 26 0)) _:=m_gv1.blk.cast (dN _ _)
 have hp:=Ch.made hp m_gv1
 have b_gv:=Made.old m_gv1 b_gv
 refine mkd fun gv2 wv2 m_gv2=>?_
 have lo_gv2:=m_gv2.lo hp
 have ne_gv_gv2:=m_gv2.ne b_gv
 have ne_gv1_gv2:=m_gv2.ne b_gv1
 have b_gv2:Blk wv2 gv2 (aT (List.replicate 26 0)) _:=m_gv2.blk.cast (dN _ _)
 rintro _ rfl
 have hp:=Ch.made hp m_gv2
 have hd:=((hd.pu m_gv.pu).pu m_gv1.pu).pu m_gv2.pu
 have b_gv:=Made.old m_gv2 b_gv
 have b_gv1:=Made.old m_gv2 b_gv1
 refine⟨fun mz i1 W=>Ch (fun _=>False) w W∧Rd W Zd diA diN diC wl∧(∃T,Blk W gv #[(.int .u32 da),(.int .u32 db),(.int .u32 dc),(.int .u32 dd),(.int .u32 de),(.int .u32 df),(.int .u32 dg),(.int .u32 dh),(.slice diA diN diC),(.int .i64 dj)] T)∧(∃T,Blk W gv1 (aT (List.replicate 26 0)) T)∧((mz=8∧i1=0∧(∃T,Blk W gv2 (aT (List.replicate 26 0)) T))∨(mz=7∧i1=1∧(∃T,Blk W gv2 (aT ((List.replicate 26 0).set 0 da)) T))∨(mz=6∧i1=2∧(∃T,Blk W gv2 (aT (((List.replicate 26 0).set 0 da).set 1 db)) T))∨(mz=5∧i1=3∧(∃T,Blk W gv2 (aT ((((List.replicate 26 0).set 0 da).set 1 db).set 2 dc)) T))∨(mz=4∧i1=4∧(∃T,Blk W gv2 (aT (((((List.replicate 26 0).set 0 da).set 1 db).set 2 dc).set 3 dd)) T))∨(mz=3∧i1=5∧(∃T,Blk W gv2 (aT ((((((List.replicate 26 0).set 0 da).set 1 db).set 2 dc).set 3 dd).set 4 de)) T))∨(mz=2∧i1=6∧(∃T,Blk W gv2 (aT (((((((List.replicate 26 0).set 0 da).set 1 db).set 2 dc).set 3 dd).set 4 de).set 5 df)) T))∨(mz=1∧i1=7∧(∃T,Blk W gv2 (aT ((((((((List.replicate 26 0).set 0 da).set 1 db).set 2 dc).set 3 dd).set 4 de).set 5 df).set 6 dg)) T))∨(mz=0∧i1=8∧(∃T,Blk W gv2 (aT (((((((((List.replicate 26 0).set 0 da).set 1 db).set 2 dc).set 3 dd).set 4 de).set 5 df).set 6 dg).set 7 dh)) T))),⟨_,hp,hd,⟨_,b_gv⟩,⟨_,b_gv1⟩,.inl ⟨rfl,rfl,⟨_,b_gv2⟩⟩⟩,?_⟩
 rintro _ _ i1 wv3 ⟨hp,hd,⟨_,b_gv⟩,⟨_,b_gv1⟩,hU⟩
 rcases hU with⟨rfl,rfl,⟨_,b_gv2⟩⟩ | ⟨rfl,rfl,⟨_,b_gv2⟩⟩ | ⟨rfl,rfl,⟨_,b_gv2⟩⟩ | ⟨rfl,rfl,⟨_,b_gv2⟩⟩ | ⟨rfl,rfl,⟨_,b_gv2⟩⟩ | ⟨rfl,rfl,⟨_,b_gv2⟩⟩ | ⟨rfl,rfl,⟨_,b_gv2⟩⟩ | ⟨rfl,rfl,⟨_,b_gv2⟩⟩ | ⟨rfl,rfl,⟨_,b_gv2⟩⟩
 ·refine bq ⟨by decide,⟨_,b_gv.at2 rfl,⟨by decide,bU (i:=0) b_gv2 (by(simp;done)) fun wv4 s_wv4=>?_⟩⟩⟩
  have b_gv2:=s_wv4.blk
  rintro _ rfl
  have hp:=Ch.call hp s_wv4.ch (by exact fun k e=>.inr (e▸lo_gv2))
  have hd:=hd.ch s_wv4.ch (fun k hx e=>(fun hx=>absurd (lt_hd _ hx) (Nat.not_lt.2 lo_gv2)) (e▸hx))
  have b_gv:=Ch.blk s_wv4.ch b_gv (ne_gv_gv2)
  have b_gv1:=Ch.blk s_wv4.ch b_gv1 (ne_gv1_gv2)
  exact⟨7,by decide,hp,hd,⟨_,b_gv⟩,⟨_,b_gv1⟩,.inr (.inl ⟨rfl,rfl,⟨_,b_gv2⟩⟩)⟩
 ·refine bq ⟨by decide,⟨_,b_gv.at2 rfl,⟨by decide,bU (i:=1) b_gv2 (by(simp;done)) fun wv4 s_wv4=>?_⟩⟩⟩
  have b_gv2:=s_wv4.blk
  rintro _ rfl
  have hp:=Ch.call hp s_wv4.ch (by exact fun k e=>.inr (e▸lo_gv2))
  have hd:=hd.ch s_wv4.ch (fun k hx e=>(fun hx=>absurd (lt_hd _ hx) (Nat.not_lt.2 lo_gv2)) (e▸hx))
  have b_gv:=Ch.blk s_wv4.ch b_gv (ne_gv_gv2)
  have b_gv1:=Ch.blk s_wv4.ch b_gv1 (ne_gv1_gv2)
  exact⟨6,by decide,hp,hd,⟨_,b_gv⟩,⟨_,b_gv1⟩,.inr (.inr (.inl ⟨rfl,rfl,⟨_,b_gv2⟩⟩))⟩
 ·refine bq ⟨by decide,⟨_,b_gv.at2 rfl,⟨by decide,bU (i:=2) b_gv2 (by(simp;done)) fun wv4 s_wv4=>?_⟩⟩⟩
  have b_gv2:=s_wv4.blk
  rintro _ rfl
  have hp:=Ch.call hp s_wv4.ch (by exact fun k e=>.inr (e▸lo_gv2))
  have hd:=hd.ch s_wv4.ch (fun k hx e=>(fun hx=>absurd (lt_hd _ hx) (Nat.not_lt.2 lo_gv2)) (e▸hx))
  have b_gv:=Ch.blk s_wv4.ch b_gv (ne_gv_gv2)
  have b_gv1:=Ch.blk s_wv4.ch b_gv1 (ne_gv1_gv2)
  exact⟨5,by decide,hp,hd,⟨_,b_gv⟩,⟨_,b_gv1⟩,.inr (.inr (.inr (.inl ⟨rfl,rfl,⟨_,b_gv2⟩⟩)))⟩
 ·refine bq ⟨by decide,⟨_,b_gv.at2 rfl,⟨by decide,bU (i:=3) b_gv2 (by(simp;done)) fun wv4 s_wv4=>?_⟩⟩⟩
  have b_gv2:=s_wv4.blk
  rintro _ rfl
  have hp:=Ch.call hp s_wv4.ch (by exact fun k e=>.inr (e▸lo_gv2))
  have hd:=hd.ch s_wv4.ch (fun k hx e=>(fun hx=>absurd (lt_hd _ hx) (Nat.not_lt.2 lo_gv2)) (e▸hx))
  have b_gv:=Ch.blk s_wv4.ch b_gv (ne_gv_gv2)
  have b_gv1:=Ch.blk s_wv4.ch b_gv1 (ne_gv1_gv2)
  exact⟨4,by decide,hp,hd,⟨_,b_gv⟩,⟨_,b_gv1⟩,.inr (.inr (.inr (.inr (.inl ⟨rfl,rfl,⟨_,b_gv2⟩⟩))))⟩
 ·refine bq ⟨by decide,⟨_,b_gv.at2 rfl,⟨by decide,bU (i:=4) b_gv2 (by(simp;done)) fun wv4 s_wv4=>?_⟩⟩⟩
  have b_gv2:=s_wv4.blk
  rintro _ rfl
  have hp:=Ch.call hp s_wv4.ch (by exact fun k e=>.inr (e▸lo_gv2))
  have hd:=hd.ch s_wv4.ch (fun k hx e=>(fun hx=>absurd (lt_hd _ hx) (Nat.not_lt.2 lo_gv2)) (e▸hx))
  have b_gv:=Ch.blk s_wv4.ch b_gv (ne_gv_gv2)
  have b_gv1:=Ch.blk s_wv4.ch b_gv1 (ne_gv1_gv2)
  exact⟨3,by decide,hp,hd,⟨_,b_gv⟩,⟨_,b_gv1⟩,.inr (.inr (.inr (.inr (.inr (.inl ⟨rfl,rfl,⟨_,b_gv2⟩⟩)))))⟩
 ·refine bq ⟨by decide,⟨_,b_gv.at2 rfl,⟨by decide,bU (i:=5) b_gv2 (by(simp;done)) fun wv4 s_wv4=>?_⟩⟩⟩
  have b_gv2:=s_wv4.blk
  rintro _ rfl
  have hp:=Ch.call hp s_wv4.ch (by exact fun k e=>.inr (e▸lo_gv2))
  have hd:=hd.ch s_wv4.ch (fun k hx e=>(fun hx=>absurd (lt_hd _ hx) (Nat.not_lt.2 lo_gv2)) (e▸hx))
  have b_gv:=Ch.blk s_wv4.ch b_gv (ne_gv_gv2)
  have b_gv1:=Ch.blk s_wv4.ch b_gv1 (ne_gv1_gv2)
  exact⟨2,by decide,hp,hd,⟨_,b_gv⟩,⟨_,b_gv1⟩,.inr (.inr (.inr (.inr (.inr (.inr (.inl ⟨rfl,rfl,⟨_,b_gv2⟩⟩))))))⟩
 ·refine bq ⟨by decide,⟨_,b_gv.at2 rfl,⟨by decide,bU (i:=6) b_gv2 (by(simp;done)) fun wv4 s_wv4=>?_⟩⟩⟩
  have b_gv2:=s_wv4.blk
  rintro _ rfl
  have hp:=Ch.call hp s_wv4.ch (by exact fun k e=>.inr (e▸lo_gv2))
  have hd:=hd.ch s_wv4.ch (fun k hx e=>(fun hx=>absurd (lt_hd _ hx) (Nat.not_lt.2 lo_gv2)) (e▸hx))
  have b_gv:=Ch.blk s_wv4.ch b_gv (ne_gv_gv2)
  have b_gv1:=Ch.blk s_wv4.ch b_gv1 (ne_gv1_gv2)
  exact⟨1,by decide,hp,hd,⟨_,b_gv⟩,⟨_,b_gv1⟩,.inr (.inr (.inr (.inr (.inr (.inr (.inr (.inl ⟨rfl,rfl,⟨_,b_gv2⟩⟩)))))))⟩
 ·refine bq ⟨by decide,⟨_,b_gv.at2 rfl,⟨by decide,bU (i:=7) b_gv2 (by(simp;done)) fun wv4 s_wv4=>?_⟩⟩⟩
  have b_gv2:=s_wv4.blk
  rintro _ rfl
  have hp:=Ch.call hp s_wv4.ch (by exact fun k e=>.inr (e▸lo_gv2))
  have hd:=hd.ch s_wv4.ch (fun k hx e=>(fun hx=>absurd (lt_hd _ hx) (Nat.not_lt.2 lo_gv2)) (e▸hx))
  have b_gv:=Ch.blk s_wv4.ch b_gv (ne_gv_gv2)
  have b_gv1:=Ch.blk s_wv4.ch b_gv1 (ne_gv1_gv2)
  exact⟨0,by decide,hp,hd,⟨_,b_gv⟩,⟨_,b_gv1⟩,.inr (.inr (.inr (.inr (.inr (.inr (.inr (.inr (⟨rfl,rfl,⟨_,b_gv2⟩⟩))))))))⟩
 ·refine eD ⟨_,b_gv.at rfl,⟨by decide,bU (i:=8) b_gv2 (by(simp;done)) fun wv4 s_wv4=>?_⟩⟩
  have b_gv2:=s_wv4.blk
  have b_gv:=Ch.blk s_wv4.ch b_gv (ne_gv_gv2)
  refine⟨_,b_gv.at rfl,⟨by decide,bU (i:=9) b_gv2 (by(simp;done)) fun wv5 s_wv5=>?_⟩⟩
  have b_gv2:=s_wv5.blk
  rintro _ rfl
  have hp:=Ch.call (Ch.call hp s_wv4.ch (by exact fun k e=>.inr (e▸lo_gv2))) s_wv5.ch (by exact fun k e=>.inr (e▸lo_gv2))
  have hd:=(hd.ch s_wv4.ch (fun k hx e=>(fun hx=>absurd (lt_hd _ hx) (Nat.not_lt.2 lo_gv2)) (e▸hx))).ch s_wv5.ch (fun k hx e=>(fun hx=>absurd (lt_hd _ hx) (Nat.not_lt.2 lo_gv2)) (e▸hx))
  have b_gv:=Ch.blk s_wv5.ch b_gv (ne_gv_gv2)
  have b_gv1:=Ch.blk s_wv5.ch (Ch.blk s_wv4.ch b_gv1 (ne_gv1_gv2)) (ne_gv1_gv2)
  refine⟨fun mz i3 W=>mz=(16 - i3).toNat∧(0≤i3∧i3≤diN)∧Ch (fun _=>False) w W∧Rd W Zd diA diN diC wl∧(∃T,Blk W gv #[(.int .u32 da),(.int .u32 db),(.int .u32 dc),(.int .u32 dd),(.int .u32 de),(.int .u32 df),(.int .u32 dg),(.int .u32 dh),(.slice diA diN diC),(.int .i64 dj)] T)∧(∃T,Blk W gv1 (aT (List.replicate 26 0)) T)∧(∃T,Blk W gv2 (aT (eX (((((((((((List.replicate 26 0).set 0 da).set 1 db).set 2 dc).set 3 dd).set 4 de).set 5 df).set 6 dg).set 7 dh).set 8 (u32.wrap ((u64.wrap dj:Int).fdiv (2 ^ 32)))).set 9 (u32.wrap (u64.wrap dj))) 10 ((wl.map U32.v).take i3.toNat))) T),⟨_,rfl,(by omega),hp,hd,⟨_,b_gv⟩,⟨_,b_gv1⟩,⟨_,b_gv2.cast (congrArg aT (by rfl))⟩⟩,?_⟩
  rintro _ _ i3 wv6 ⟨rfl,h0,hp,hd,⟨_,b_gv⟩,⟨_,b_gv1⟩,⟨_,b_gv2⟩⟩
  refine⟨_,_,_,b_gv.at rfl,?_⟩
  refine ax (fun c1=>?_) (fun c1=>?_)
  ·refine⟨_,_,_,b_gv.at rfl,?_⟩
   obtain⟨p2,x2,ha2,hx2,hz2,hc2⟩:=hd.ld (i:=i3) (by omega) (by omega)
   refine⟨by constructor<;>omega,ah p2 ha2 ⟨_,hc2 0 (by decide),⟨by(simp only [IntKind.wrap_i64];omega),jf b_gv2 (by(simp only [vU,List.length_set,List.length_replicate,IntKind.wrap_i64];omega)) fun wv7 s_wv7=>?_⟩⟩⟩
   have b_gv2:=s_wv7.blk
   rintro _ rfl
   have hp:=Ch.call hp s_wv7.ch (by exact fun k e=>.inr (e▸lo_gv2))
   have hd:=hd.ch s_wv7.ch (fun k hx e=>(fun hx=>absurd (lt_hd _ hx) (Nat.not_lt.2 lo_gv2)) (e▸hx))
   have b_gv:=Ch.blk s_wv7.ch b_gv (ne_gv_gv2)
   have b_gv1:=Ch.blk s_wv7.ch b_gv1 (ne_gv1_gv2)
   exact⟨_,by rw [IntKind.wrap_i64];omega,rfl,by rw [IntKind.wrap_i64];omega,hp,hd,⟨_,b_gv⟩,⟨_,b_gv1⟩,⟨_,b_gv2.cast (congrArg aT (by exact Cb (by omega) hx2))⟩⟩
  ·refine⟨aT (eX (((((((((((List.replicate 26 0).set 0 da).set 1 db).set 2 dc).set 3 dd).set 4 de).set 5 df).set 6 dg).set 7 dh).set 8 (u32.wrap ((u64.wrap dj:Int).fdiv (2 ^ 32)))).set 9 (u32.wrap (u64.wrap dj))) 10 ((wl.map U32.v).take i3.toNat)),b_gv2.mQ (by(simp;done)),⟨by rw [dC];(simp;done),lQ,kj b_gv1 (by(simp;done)) fun wv7 s_wv7=>?_⟩⟩
   have b_gv1:=s_wv7.blk
   refine⟨aT (eX (((((((((((List.replicate 26 0).set 0 da).set 1 db).set 2 dc).set 3 dd).set 4 de).set 5 df).set 6 dg).set 7 dh).set 8 (u32.wrap ((u64.wrap dj:Int).fdiv (2 ^ 32)))).set 9 (u32.wrap (u64.wrap dj))) 10 ((wl.map U32.v).take i3.toNat)),b_gv1.mQ (by(simp;done)),?_⟩
   have hp:=Ch.call hp s_wv7.ch (by exact fun k e=>.inr (e▸lo_gv1))
   exact⟨congrArg (fun l=>Value.agg (aT l)) (by have e:=i3;have e2:i3.toNat=min diN 16:=(by omega);rw [e2];refine Dg.save_eq ok (Dg.Ec hn) ?_ hwn;rw [fg (by omega),u32_eq]),hp⟩
theorem Iv {Zd:Nat→Prop} {diA:Option Addr} {diN:Nat} {diC:Nat} {wl:List U32} {Z:Nat→Prop} {wordsA:Option Addr} {wordsN:Nat} {wordsC:Nat} {l:List U32} {K:List Int} {w:World}(hd:Rd w Zd diA diN diC wl)(hz:Rd w Z wordsA wordsN wordsC l)(hk:fV w 2 K)(da:Int)(db:Int)(dc:Int)(dd:Int)(de:Int)(df:Int)(dg:Int)(dh:Int)(dj:Int)(ok:(Dg.mk (S8.mk da db dc dd de df dg dh) dj wl).Ok)(hlen:l.length≤1099511627776):
 Calls Tryz.prog 90 #[(.agg #[(.int .u32 da),(.int .u32 db),(.int .u32 dc),(.int .u32 dd),(.int .u32 de),(.int .u32 df),(.int .u32 dg),(.int .u32 dh),(.slice diA diN diC),(.int .i64 dj)]),(.slice wordsA wordsN wordsC)] w fun e w'=>∃v,e= .returned v∧∃Z':Nat→Prop,∃A':Option Addr,∃N':Nat,∃C':Nat,v= .agg #[(.int .u32 (((Dg.mk (S8.mk da db dc dd de df dg dh) dj wl).add K l).st.a)),(.int .u32 (((Dg.mk (S8.mk da db dc dd de df dg dh) dj wl).add K l).st.b)),(.int .u32 (((Dg.mk (S8.mk da db dc dd de df dg dh) dj wl).add K l).st.c)),(.int .u32 (((Dg.mk (S8.mk da db dc dd de df dg dh) dj wl).add K l).st.d)),(.int .u32 (((Dg.mk (S8.mk da db dc dd de df dg dh) dj wl).add K l).st.e)),(.int .u32 (((Dg.mk (S8.mk da db dc dd de df dg dh) dj wl).add K l).st.f)),(.int .u32 (((Dg.mk (S8.mk da db dc dd de df dg dh) dj wl).add K l).st.g)),(.int .u32 (((Dg.mk (S8.mk da db dc dd de df dg dh) dj wl).add K l).st.h)),(.slice A' N' C'),(.int .i64 (((Dg.mk (S8.mk da db dc dd de df dg dh) dj wl).add K l).n))]∧Rd w' Z' A' N' C' ((Dg.mk (S8.mk da db dc dd de df dg dh) dj wl).add K l).waits∧(∀k,Z' k→Zd k∨w.heap.size≤k)∧((l.length:Int)≤36028797018963968 - dj→Own w' Z' 22 A' N' C' ((Dg.mk (S8.mk da db dc dd de df dg dh) dj wl).add K l).waits∧∀k,Z' k→w.heap.size≤k)∧Pu w w':=by
 refine vk _ _ _ _ _ _ _ _ _ _ _ _ _ _ _ ?_
 have hwn:=hd.len
 have hzn:=hz.len
 have hwl:wl.length=(dj % 16).toNat:=ok.len
 have hn:0≤dj∧dj≤36028797018963968:=ok.n
 have hp:=Ch.refl (fun _=>False) w
 have lt_hd:=hd.lt
 have lt_hz:=hz.lt
 have lt_hk:=hk.lt
 refine mkd fun gv wv m_gv=>?_
 have b_gv:=m_gv.blk
 have hp:=Ch.made hp m_gv
 refine mkd fun gv1 wv1 m_gv1=>?_
 have lo_gv1:=m_gv1.lo hp
 have ne_gv_gv1:=m_gv1.ne b_gv
 have b_gv1:=m_gv1.blk
 have b_gv:=Made.old m_gv1 b_gv
 refine⟨_,b_gv.at rfl,?_⟩
 refine ax (fun c1=>?_) (fun c1=>?_)
 ·rw [ai (by omega)]at c1
  have hr:((Dg.mk (S8.mk da db dc dd de df dg dh) dj wl).add K l)=(Dg.mk (S8.mk da db dc dd de df dg dh) dj wl):=by rw [Dg.add,if_pos (by rw [hzn];exact c1)]
  refine⟨_,_,_,_,_,_,_,_,_,_,_,_,⟨b_gv.at rfl,b_gv.at rfl,b_gv.at rfl,b_gv.at rfl,b_gv.at rfl,b_gv.at rfl,b_gv.at rfl,b_gv.at rfl,b_gv.at rfl,b_gv.at rfl⟩,cf b_gv1 rfl fun wv2 s_wv2=>?_⟩
  have b_gv1:=s_wv2.blk
  refine⟨_,_,_,_,_,_,_,_,_,_,_,_,⟨b_gv1.at rfl,b_gv1.at rfl,b_gv1.at rfl,b_gv1.at rfl,b_gv1.at rfl,b_gv1.at rfl,b_gv1.at rfl,b_gv1.at rfl,b_gv1.at rfl,b_gv1.at rfl⟩,?_⟩
  have hd:=((hd.pu m_gv.pu).pu m_gv1.pu).ch s_wv2.ch (fun k hx e=>(fun hx=>absurd (lt_hd _ hx) (Nat.not_lt.2 lo_gv1)) (e▸hx))
  have hp:=Ch.call (Ch.made hp m_gv1) s_wv2.ch (by exact fun k e=>.inr (e▸lo_gv1))
  exact⟨Zd,_,_,_,by rw [hr],by rw [hr];exact hd,fun k h=>.inl h,fun hh=>by rw [hzn]at hh;omega,hp⟩
 ·rw [ai (by omega)]at c1
  refine⟨_,_,_,b_gv.at rfl,?_⟩
  have hd:=(hd.pu m_gv.pu).pu m_gv1.pu
  have hp:=Ch.made hp m_gv1
  refine mu pG hd (by omega) (by omega) fun A_wv2 c_wv2 wv2 o_wv2 q_wv2=>?_
  have b_gv:=Pu.blk q_wv2 b_gv
  refine⟨_,_,_,_,_,_,_,_,⟨b_gv.at2 rfl,b_gv.at2 rfl,b_gv.at2 rfl,b_gv.at2 rfl,b_gv.at2 rfl,b_gv.at2 rfl,b_gv.at2 rfl,b_gv.at2 rfl⟩,⟨_,b_gv.at rfl,?_⟩⟩
  have hp:=Ch.pu hp q_wv2
  have b_gv1:=Pu.blk q_wv2 b_gv1
  refine mkd fun gv2 wv3 m_gv2=>?_
  have lo_gv2:=m_gv2.lo hp
  have ne_gv_gv2:=m_gv2.ne b_gv
  have ne_gv1_gv2:=m_gv2.ne b_gv1
  have b_gv2:=m_gv2.blk
  refine cf b_gv2 rfl fun wv4 s_wv4=>?_
  have b_gv2:=s_wv4.blk
  rintro _ rfl
  have o_wv2:=(o_wv2.pu m_gv2.pu).ch s_wv4.ch (fun k hx e=>absurd hx.2 (by have:=m_gv2.num;omega))
  have hp:=Ch.call (Ch.made hp m_gv2) s_wv4.ch (by exact fun k e=>.inr (e▸lo_gv2))
  have hd:=((hd.pu q_wv2).pu m_gv2.pu).ch s_wv4.ch (fun k hx e=>(fun hx=>absurd (lt_hd _ hx) (Nat.not_lt.2 lo_gv2)) (e▸hx))
  have hz:=((((hz.pu m_gv.pu).pu m_gv1.pu).pu q_wv2).pu m_gv2.pu).ch s_wv4.ch (fun k hx e=>(fun hx=>absurd (lt_hz _ hx) (Nat.not_lt.2 lo_gv2)) (e▸hx))
  have hk:=((((hk.pu m_gv.pu).pu m_gv1.pu).pu q_wv2).pu m_gv2.pu).ch s_wv4.ch (fun k hx e=>(fun hx=>absurd (lt_hk _ hx) (Nat.not_lt.2 lo_gv2)) (e▸hx))
  have b_gv1:=Ch.blk s_wv4.ch (Made.old m_gv2 b_gv1) (ne_gv1_gv2)
  refine⟨fun mz waitA waitN waitC i1 W=>∃wl2:List U32,∃S:S8,∃n2:Int,mz=(wordsN - i1).toNat∧(0≤i1∧i1≤wordsN)∧(bJ K (S8.mk da db dc dd de df dg dh) (wl++l.take i1.toNat)=(S,wl2))∧(wl2.length<16)∧(n2=dj+l.length)∧Own W (fun k=>w.heap.size≤k∧k≠gv1∧k≠gv2) 22 waitA waitN waitC wl2∧Ch (fun _=>False) w W∧Rd W Zd diA diN diC wl∧Rd W Z wordsA wordsN wordsC l∧fV W 2 K∧Blk W gv1 #[(.int .u32 0),(.int .u32 0),(.int .u32 0),(.int .u32 0),(.int .u32 0),(.int .u32 0),(.int .u32 0),(.int .u32 0),(.slice none 0 0),(.int .i64 0)] 130∧Blk W gv2 #[(.int .u32 S.a),(.int .u32 S.b),(.int .u32 S.c),(.int .u32 S.d),(.int .u32 S.e),(.int .u32 S.f),(.int .u32 S.g),(.int .u32 S.h),(.slice none 0 0),(.int .i64 n2)] 130,⟨_,wl,(S8.mk da db dc dd de df dg dh),_,rfl,(by omega),(by simpa using dx (by omega)),(by omega),(by rw [ai (by omega)];omega),(o_wv2).to (by intro k h1 h2;have e1:=m_gv1.lt;have e2:=m_gv2.num;have e3:=m_gv.kept.size;have e4:=m_gv1.kept.size;refine⟨?_,?_,?_⟩<;>omega),hp,hd,hz,hk,b_gv1,b_gv2⟩,?_⟩
  rintro _ _ waitA waitN waitC i1 wv5 ⟨wl2,S,n2,rfl,h0,hI,hwb,hn2,h_wl2,hp,hd,hz,hk,b_gv1,b_gv2⟩
  refine ax (fun c2=>?_) (fun c2=>?_)
  ·have hwn2:=h_wl2.len
   obtain⟨p3,x3,ha3,hx3,hz3,hc3⟩:=hz.ld (i:=i1) (by omega) (by omega)
   refine⟨by omega,ah p3 ha3 ⟨_,hc3 0 (by decide),?_⟩⟩
   refine mkd fun gv4 wv6 m_gv4=>?_
   have ne_gv2_gv4:=m_gv4.ne b_gv2
   have b_gv4:=m_gv4.blk
   have h_wl2:=h_wl2.pu m_gv4.pu
   have hp:=Ch.made hp m_gv4
   refine h_wl2.app pG b_gv4 (x:=(⟨x3.v⟩:U32)) (by rfl) (by omega) (by omega) (by have h1:=b_gv1.lt;have h2:=b_gv2.lt;have h3:=m_gv4.kept.size;have h4:=hp.size;refine⟨?_,?_,?_⟩<;>omega) fun A_wv7 c_wv7 wv7 h_wl2 q_wv7=>?_
   refine aE (fun c4=>?_) (fun c4=>?_)
   ·refine⟨bXU [] [1,4] wv7.drew (fun _=>False),?_⟩
    have b_gv2:=Blk.drew (Ch.blk q_wv7 (Made.old m_gv4 b_gv2) (fun h=>h.2.2 rfl))
    have h_wl2:=h_wl2.pu (Pu.aI _)
    refine⟨.inl (by decide),_,_,_,_,_,_,_,_,⟨b_gv2.at2 rfl,b_gv2.at2 rfl,b_gv2.at2 rfl,b_gv2.at2 rfl,b_gv2.at2 rfl,b_gv2.at2 rfl,b_gv2.at2 rfl,b_gv2.at2 rfl⟩,⟨by omega,?_⟩⟩
    obtain⟨p5,ha5,hz5,hc5⟩:=h_wl2.rd.u32 (by omega)
    refine ah p5 ha5 ⟨.inl (by decide),_,_,_,_,_,_,_,_,_,_,_,_,_,_,_,_,⟨hc5 0 (by omega),hc5 1 (by omega),hc5 2 (by omega),hc5 3 (by omega),hc5 4 (by omega),hc5 5 (by omega),hc5 6 (by omega),hc5 7 (by omega),hc5 8 (by omega),hc5 9 (by omega),hc5 10 (by omega),hc5 11 (by omega),hc5 12 (by omega),hc5 13 (by omega),hc5 14 (by omega),hc5 15 (by omega)⟩,?_⟩
    have hk:=((hk.pu m_gv4.pu).ch q_wv7 (fun k hx hy=>by have h1:=lt_hk k hx;omega)).pu (Pu.aI _)
    refine Calls.mono (Eu hk _ _ _ _ _ _ _ _ _ _ _ _ _ _ _ _ _ _ _ _ _ _ _ _) ?_
    rintro e wv8 ⟨_,rfl,rfl,q_wv8⟩
    refine⟨_,_,_,_,_,_,_,_,rfl,?_⟩
    refine bXU.grow q_wv8 ?_
    have b_gv2:=Pu.blk q_wv8 b_gv2
    refine aM b_gv2 (by simp) fun wv9 s_wv9=>?_
    have b_gv2:Blk wv9 gv2 #[(.int .u32 ((dk K (S8.mk S.a S.b S.c S.d S.e S.f S.g S.h) [(((wl2++ [(⟨x3.v⟩:U32)]).getD 0 ⟨0⟩).v),(((wl2++ [(⟨x3.v⟩:U32)]).getD 1 ⟨0⟩).v),(((wl2++ [(⟨x3.v⟩:U32)]).getD 2 ⟨0⟩).v),(((wl2++ [(⟨x3.v⟩:U32)]).getD 3 ⟨0⟩).v),(((wl2++ [(⟨x3.v⟩:U32)]).getD 4 ⟨0⟩).v),(((wl2++ [(⟨x3.v⟩:U32)]).getD 5 ⟨0⟩).v),(((wl2++ [(⟨x3.v⟩:U32)]).getD 6 ⟨0⟩).v),(((wl2++ [(⟨x3.v⟩:U32)]).getD 7 ⟨0⟩).v),(((wl2++ [(⟨x3.v⟩:U32)]).getD 8 ⟨0⟩).v),(((wl2++ [(⟨x3.v⟩:U32)]).getD 9 ⟨0⟩).v),(((wl2++ [(⟨x3.v⟩:U32)]).getD 10 ⟨0⟩).v),(((wl2++ [(⟨x3.v⟩:U32)]).getD 11 ⟨0⟩).v),(((wl2++ [(⟨x3.v⟩:U32)]).getD 12 ⟨0⟩).v),(((wl2++ [(⟨x3.v⟩:U32)]).getD 13 ⟨0⟩).v),(((wl2++ [(⟨x3.v⟩:U32)]).getD 14 ⟨0⟩).v),(((wl2++ [(⟨x3.v⟩:U32)]).getD 15 ⟨0⟩).v)]).a)),(.int .u32 ((dk K (S8.mk S.a S.b S.c S.d S.e S.f S.g S.h) [(((wl2++ [(⟨x3.v⟩:U32)]).getD 0 ⟨0⟩).v),(((wl2++ [(⟨x3.v⟩:U32)]).getD 1 ⟨0⟩).v),(((wl2++ [(⟨x3.v⟩:U32)]).getD 2 ⟨0⟩).v),(((wl2++ [(⟨x3.v⟩:U32)]).getD 3 ⟨0⟩).v),(((wl2++ [(⟨x3.v⟩:U32)]).getD 4 ⟨0⟩).v),(((wl2++ [(⟨x3.v⟩:U32)]).getD 5 ⟨0⟩).v),(((wl2++ [(⟨x3.v⟩:U32)]).getD 6 ⟨0⟩).v),(((wl2++ [(⟨x3.v⟩:U32)]).getD 7 ⟨0⟩).v),(((wl2++ [(⟨x3.v⟩:U32)]).getD 8 ⟨0⟩).v),(((wl2++ [(⟨x3.v⟩:U32)]).getD 9 ⟨0⟩).v),(((wl2++ [(⟨x3.v⟩:U32)]).getD 10 ⟨0⟩).v),(((wl2++ [(⟨x3.v⟩:U32)]).getD 11 ⟨0⟩).v),(((wl2++ [(⟨x3.v⟩:U32)]).getD 12 ⟨0⟩).v),(((wl2++ [(⟨x3.v⟩:U32)]).getD 13 ⟨0⟩).v),(((wl2++ [(⟨x3.v⟩:U32)]).getD 14 ⟨0⟩).v),(((wl2++ [(⟨x3.v⟩:U32)]).getD 15 ⟨0⟩).v)]).b)),(.int .u32 ((dk K (S8.mk S.a S.b S.c S.d S.e S.f S.g S.h) [(((wl2++ [(⟨x3.v⟩:U32)]).getD 0 ⟨0⟩).v),(((wl2++ [(⟨x3.v⟩:U32)]).getD 1 ⟨0⟩).v),(((wl2++ [(⟨x3.v⟩:U32)]).getD 2 ⟨0⟩).v),(((wl2++ [(⟨x3.v⟩:U32)]).getD 3 ⟨0⟩).v),(((wl2++ [(⟨x3.v⟩:U32)]).getD 4 ⟨0⟩).v),(((wl2++ [(⟨x3.v⟩:U32)]).getD 5 ⟨0⟩).v),(((wl2++ [(⟨x3.v⟩:U32)]).getD 6 ⟨0⟩).v),(((wl2++ [(⟨x3.v⟩:U32)]).getD 7 ⟨0⟩).v),(((wl2++ [(⟨x3.v⟩:U32)]).getD 8 ⟨0⟩).v),(((wl2++ [(⟨x3.v⟩:U32)]).getD 9 ⟨0⟩).v),(((wl2++ [(⟨x3.v⟩:U32)]).getD 10 ⟨0⟩).v),(((wl2++ [(⟨x3.v⟩:U32)]).getD 11 ⟨0⟩).v),(((wl2++ [(⟨x3.v⟩:U32)]).getD 12 ⟨0⟩).v),(((wl2++ [(⟨x3.v⟩:U32)]).getD 13 ⟨0⟩).v),(((wl2++ [(⟨x3.v⟩:U32)]).getD 14 ⟨0⟩).v),(((wl2++ [(⟨x3.v⟩:U32)]).getD 15 ⟨0⟩).v)]).c)),(.int .u32 ((dk K (S8.mk S.a S.b S.c S.d S.e S.f S.g S.h) [(((wl2++ [(⟨x3.v⟩:U32)]).getD 0 ⟨0⟩).v),(((wl2++ [(⟨x3.v⟩:U32)]).getD 1 ⟨0⟩).v),(((wl2++ [(⟨x3.v⟩:U32)]).getD 2 ⟨0⟩).v),(((wl2++ [(⟨x3.v⟩:U32)]).getD 3 ⟨0⟩).v),(((wl2++ [(⟨x3.v⟩:U32)]).getD 4 ⟨0⟩).v),(((wl2++ [(⟨x3.v⟩:U32)]).getD 5 ⟨0⟩).v),(((wl2++ [(⟨x3.v⟩:U32)]).getD 6 ⟨0⟩).v),(((wl2++ [(⟨x3.v⟩:U32)]).getD 7 ⟨0⟩).v),(((wl2++ [(⟨x3.v⟩:U32)]).getD 8 ⟨0⟩).v),(((wl2++ [(⟨x3.v⟩:U32)]).getD 9 ⟨0⟩).v),(((wl2++ [(⟨x3.v⟩:U32)]).getD 10 ⟨0⟩).v),(((wl2++ [(⟨x3.v⟩:U32)]).getD 11 ⟨0⟩).v),(((wl2++ [(⟨x3.v⟩:U32)]).getD 12 ⟨0⟩).v),(((wl2++ [(⟨x3.v⟩:U32)]).getD 13 ⟨0⟩).v),(((wl2++ [(⟨x3.v⟩:U32)]).getD 14 ⟨0⟩).v),(((wl2++ [(⟨x3.v⟩:U32)]).getD 15 ⟨0⟩).v)]).d)),(.int .u32 ((dk K (S8.mk S.a S.b S.c S.d S.e S.f S.g S.h) [(((wl2++ [(⟨x3.v⟩:U32)]).getD 0 ⟨0⟩).v),(((wl2++ [(⟨x3.v⟩:U32)]).getD 1 ⟨0⟩).v),(((wl2++ [(⟨x3.v⟩:U32)]).getD 2 ⟨0⟩).v),(((wl2++ [(⟨x3.v⟩:U32)]).getD 3 ⟨0⟩).v),(((wl2++ [(⟨x3.v⟩:U32)]).getD 4 ⟨0⟩).v),(((wl2++ [(⟨x3.v⟩:U32)]).getD 5 ⟨0⟩).v),(((wl2++ [(⟨x3.v⟩:U32)]).getD 6 ⟨0⟩).v),(((wl2++ [(⟨x3.v⟩:U32)]).getD 7 ⟨0⟩).v),(((wl2++ [(⟨x3.v⟩:U32)]).getD 8 ⟨0⟩).v),(((wl2++ [(⟨x3.v⟩:U32)]).getD 9 ⟨0⟩).v),(((wl2++ [(⟨x3.v⟩:U32)]).getD 10 ⟨0⟩).v),(((wl2++ [(⟨x3.v⟩:U32)]).getD 11 ⟨0⟩).v),(((wl2++ [(⟨x3.v⟩:U32)]).getD 12 ⟨0⟩).v),(((wl2++ [(⟨x3.v⟩:U32)]).getD 13 ⟨0⟩).v),(((wl2++ [(⟨x3.v⟩:U32)]).getD 14 ⟨0⟩).v),(((wl2++ [(⟨x3.v⟩:U32)]).getD 15 ⟨0⟩).v)]).e)),(.int .u32 ((dk K (S8.mk S.a S.b S.c S.d S.e S.f S.g S.h) [(((wl2++ [(⟨x3.v⟩:U32)]).getD 0 ⟨0⟩).v),(((wl2++ [(⟨x3.v⟩:U32)]).getD 1 ⟨0⟩).v),(((wl2++ [(⟨x3.v⟩:U32)]).getD 2 ⟨0⟩).v),(((wl2++ [(⟨x3.v⟩:U32)]).getD 3 ⟨0⟩).v),(((wl2++ [(⟨x3.v⟩:U32)]).getD 4 ⟨0⟩).v),(((wl2++ [(⟨x3.v⟩:U32)]).getD 5 ⟨0⟩).v),(((wl2++ [(⟨x3.v⟩:U32)]).getD 6 ⟨0⟩).v),(((wl2++ [(⟨x3.v⟩:U32)]).getD 7 ⟨0⟩).v),(((wl2++ [(⟨x3.v⟩:U32)]).getD 8 ⟨0⟩).v),(((wl2++ [(⟨x3.v⟩:U32)]).getD 9 ⟨0⟩).v),(((wl2++ [(⟨x3.v⟩:U32)]).getD 10 ⟨0⟩).v),(((wl2++ [(⟨x3.v⟩:U32)]).getD 11 ⟨0⟩).v),(((wl2++ [(⟨x3.v⟩:U32)]).getD 12 ⟨0⟩).v),(((wl2++ [(⟨x3.v⟩:U32)]).getD 13 ⟨0⟩).v),(((wl2++ [(⟨x3.v⟩:U32)]).getD 14 ⟨0⟩).v),(((wl2++ [(⟨x3.v⟩:U32)]).getD 15 ⟨0⟩).v)]).f)),(.int .u32 ((dk K (S8.mk S.a S.b S.c S.d S.e S.f S.g S.h) [(((wl2++ [(⟨x3.v⟩:U32)]).getD 0 ⟨0⟩).v),(((wl2++ [(⟨x3.v⟩:U32)]).getD 1 ⟨0⟩).v),(((wl2++ [(⟨x3.v⟩:U32)]).getD 2 ⟨0⟩).v),(((wl2++ [(⟨x3.v⟩:U32)]).getD 3 ⟨0⟩).v),(((wl2++ [(⟨x3.v⟩:U32)]).getD 4 ⟨0⟩).v),(((wl2++ [(⟨x3.v⟩:U32)]).getD 5 ⟨0⟩).v),(((wl2++ [(⟨x3.v⟩:U32)]).getD 6 ⟨0⟩).v),(((wl2++ [(⟨x3.v⟩:U32)]).getD 7 ⟨0⟩).v),(((wl2++ [(⟨x3.v⟩:U32)]).getD 8 ⟨0⟩).v),(((wl2++ [(⟨x3.v⟩:U32)]).getD 9 ⟨0⟩).v),(((wl2++ [(⟨x3.v⟩:U32)]).getD 10 ⟨0⟩).v),(((wl2++ [(⟨x3.v⟩:U32)]).getD 11 ⟨0⟩).v),(((wl2++ [(⟨x3.v⟩:U32)]).getD 12 ⟨0⟩).v),(((wl2++ [(⟨x3.v⟩:U32)]).getD 13 ⟨0⟩).v),(((wl2++ [(⟨x3.v⟩:U32)]).getD 14 ⟨0⟩).v),(((wl2++ [(⟨x3.v⟩:U32)]).getD 15 ⟨0⟩).v)]).g)),(.int .u32 ((dk K (S8.mk S.a S.b S.c S.d S.e S.f S.g S.h) [(((wl2++ [(⟨x3.v⟩:U32)]).getD 0 ⟨0⟩).v),(((wl2++ [(⟨x3.v⟩:U32)]).getD 1 ⟨0⟩).v),(((wl2++ [(⟨x3.v⟩:U32)]).getD 2 ⟨0⟩).v),(((wl2++ [(⟨x3.v⟩:U32)]).getD 3 ⟨0⟩).v),(((wl2++ [(⟨x3.v⟩:U32)]).getD 4 ⟨0⟩).v),(((wl2++ [(⟨x3.v⟩:U32)]).getD 5 ⟨0⟩).v),(((wl2++ [(⟨x3.v⟩:U32)]).getD 6 ⟨0⟩).v),(((wl2++ [(⟨x3.v⟩:U32)]).getD 7 ⟨0⟩).v),(((wl2++ [(⟨x3.v⟩:U32)]).getD 8 ⟨0⟩).v),(((wl2++ [(⟨x3.v⟩:U32)]).getD 9 ⟨0⟩).v),(((wl2++ [(⟨x3.v⟩:U32)]).getD 10 ⟨0⟩).v),(((wl2++ [(⟨x3.v⟩:U32)]).getD 11 ⟨0⟩).v),(((wl2++ [(⟨x3.v⟩:U32)]).getD 12 ⟨0⟩).v),(((wl2++ [(⟨x3.v⟩:U32)]).getD 13 ⟨0⟩).v),(((wl2++ [(⟨x3.v⟩:U32)]).getD 14 ⟨0⟩).v),(((wl2++ [(⟨x3.v⟩:U32)]).getD 15 ⟨0⟩).v)]).h)),(.slice none 0 0),(.int .i64 n2)] _:=s_wv9.blk.cast (by kernel_rfl)
    refine bXU.grow s_wv9.ch ?_
    rintro _ rfl
    have hp:=Ch.call (Ch.pu (Ch.drew (Ch.call hp q_wv7 (by intro k hk;exact .inr hk.1))) q_wv8) s_wv9.ch (by exact fun k e=>.inr (e▸lo_gv2))
    have hd:=((((hd.pu m_gv4.pu).ch q_wv7 (fun k hx hy=>by have h1:=lt_hd k hx;omega)).pu (Pu.aI _)).pu q_wv8).ch s_wv9.ch (fun k hx e=>(fun hx=>absurd (lt_hd _ hx) (Nat.not_lt.2 lo_gv2)) (e▸hx))
    have hz:=((((hz.pu m_gv4.pu).ch q_wv7 (fun k hx hy=>by have h1:=lt_hz k hx;omega)).pu (Pu.aI _)).pu q_wv8).ch s_wv9.ch (fun k hx e=>(fun hx=>absurd (lt_hz _ hx) (Nat.not_lt.2 lo_gv2)) (e▸hx))
    have hk:=(hk.pu q_wv8).ch s_wv9.ch (fun k hx e=>(fun hx=>absurd (lt_hk _ hx) (Nat.not_lt.2 lo_gv2)) (e▸hx))
    have b_gv1:=Ch.blk s_wv9.ch (Pu.blk q_wv8 (Blk.drew (Ch.blk q_wv7 (Made.old m_gv4 b_gv1) (fun h=>h.2.1 rfl)))) (ne_gv1_gv2)
    exact⟨_,by rw [IntKind.wrap_i64];omega,([]),(dk K S ((wl2++ [x3]).map U32.v)),n2,rfl,by rw [IntKind.wrap_i64];omega,by rw [oc hI (by omega) hx3,if_pos (by omega)],by simp,hn2,Own.nil,hp,hd,hz,hk,b_gv1,b_gv2.cast (H7 (congrArg (Value.int .u32) (by rw [oa (by simp;omega)])) (congrArg (Value.int .u32) (by rw [oa (by simp;omega)])) (congrArg (Value.int .u32) (by rw [oa (by simp;omega)])) (congrArg (Value.int .u32) (by rw [oa (by simp;omega)])) (congrArg (Value.int .u32) (by rw [oa (by simp;omega)])) (congrArg (Value.int .u32) (by rw [oa (by simp;omega)])) (congrArg (Value.int .u32) (by rw [oa (by simp;omega)])) (congrArg (Value.int .u32) (by rw [oa (by simp;omega)])) (rfl) (rfl))⟩
   ·rintro _ rfl
    have hp:=Ch.call hp q_wv7 (by intro k hk;exact .inr hk.1)
    have hd:=(hd.pu m_gv4.pu).ch q_wv7 (fun k hx hy=>by have h1:=lt_hd k hx;omega)
    have hz:=(hz.pu m_gv4.pu).ch q_wv7 (fun k hx hy=>by have h1:=lt_hz k hx;omega)
    have hk:=(hk.pu m_gv4.pu).ch q_wv7 (fun k hx hy=>by have h1:=lt_hk k hx;omega)
    have b_gv1:=Ch.blk q_wv7 (Made.old m_gv4 b_gv1) (fun h=>h.2.1 rfl)
    have b_gv2:=Ch.blk q_wv7 (Made.old m_gv4 b_gv2) (fun h=>h.2.2 rfl)
    exact⟨_,by rw [IntKind.wrap_i64];omega,(wl2++ [(⟨x3.v⟩:U32)]),S,n2,rfl,by rw [IntKind.wrap_i64];omega,by rw [oc hI (by omega) hx3,if_neg (by omega)],by simp;omega,hn2,h_wl2,hp,hd,hz,hk,b_gv1,b_gv2⟩
  ·have hi:i1.toNat=l.length:=by omega
   have hr:((Dg.mk (S8.mk da db dc dd de df dg dh) dj wl).add K l)=⟨S,n2,wl2⟩:=by rw [hi,List.take_of_length_le (Nat.le_refl _)]at hI;rw [Dg.add,if_neg (by rw [hzn];exact c1),hI,hn2]
   have hlt:=h_wl2.len
   refine aM b_gv2 (by simp) fun wv6 s_wv6=>?_
   have b_gv2:Blk wv6 gv2 #[(.int .u32 S.a),(.int .u32 S.b),(.int .u32 S.c),(.int .u32 S.d),(.int .u32 S.e),(.int .u32 S.f),(.int .u32 S.g),(.int .u32 S.h),(.slice waitA waitN waitC),(.int .i64 n2)] _:=s_wv6.blk.cast (by kernel_rfl)
   have b_gv1:=Ch.blk s_wv6.ch b_gv1 (ne_gv1_gv2)
   refine⟨_,_,_,_,_,_,_,_,_,_,_,_,⟨b_gv2.at rfl,b_gv2.at rfl,b_gv2.at rfl,b_gv2.at rfl,b_gv2.at rfl,b_gv2.at rfl,b_gv2.at rfl,b_gv2.at rfl,b_gv2.at rfl,b_gv2.at rfl⟩,cf b_gv1 rfl fun wv7 s_wv7=>?_⟩
   have b_gv1:=s_wv7.blk
   refine⟨_,_,_,_,_,_,_,_,_,_,_,_,⟨b_gv1.at rfl,b_gv1.at rfl,b_gv1.at rfl,b_gv1.at rfl,b_gv1.at rfl,b_gv1.at rfl,b_gv1.at rfl,b_gv1.at rfl,b_gv1.at rfl,b_gv1.at rfl⟩,?_⟩
   have h_wl2:=(h_wl2.ch s_wv6.ch (fun k hx e=>hx.2.2 e)).ch s_wv7.ch (fun k hx e=>hx.2.1 e)
   have hp:=Ch.call (Ch.call hp s_wv6.ch (by exact fun k e=>.inr (e▸lo_gv2))) s_wv7.ch (by exact fun k e=>.inr (e▸lo_gv1))
   exact⟨_,_,_,_,by rw [hr],by rw [hr];exact(h_wl2).rd,by intro k h;exact .inr h.1.1,fun _=>⟨by rw [hr];exact(h_wl2).within,by intro k h;exact h.1.1⟩,hp⟩
theorem Jv {Z:Nat→Prop} {wordsA:Option Addr} {wordsN:Nat} {wordsC:Nat} {l:List U32} {w:World}(hz:Rd w Z wordsA wordsN wordsC l)(hw:∀x∈l,0≤x.v∧x.v<4294967296):
 Calls Tryz.prog 103 #[(.slice wordsA wordsN wordsC)] w fun e w'=>∃v,e= .returned v∧∃p:Option Addr,v= .tuple #[(.pointer p),(.int .i64 (Dg.aJ l))]∧(Dg.aJ l=0→∃g L,p=some (Addr.mk g 0 none)∧mG w' g L (Dg.load l)∧∀k,L.X g k→w.heap.size≤k)∧Pu w w':=by
 refine yf _ _ _ ?_
 have hl:=hz.len
 have hcap:=hz.cap
 have hp:=Ch.refl (fun _=>False) w
 have lt_hz:=hz.lt
 refine bo (fun c1=>?_) (fun c1=>?_)
 ·exact⟨none,congrArg Value.tuple (r4 (rfl) (congrArg (Value.int .i64) (by rw [Dg.l6 (by omega)]))),fun h=>absurd h (by rw [Dg.l6 (by omega)];omega),hp⟩
 ·have hl26:l.length=26:=by omega
  have hnO:=Dg.nOf_eq hw hl26
  refine⟨by omega,?_⟩
  obtain⟨p2,ha2,hz2,hc2⟩:=hz.u32 (by omega)
  refine ah p2 ha2 ?_
  have hz:=hz.pu (Pu.aI _)
  refine⟨_,hc2 8 (by omega),⟨by omega,?_⟩⟩
  obtain⟨p3,ha3,hz3,hc3⟩:=hz.u32 (by omega)
  refine ah p3 ha3 ⟨_,hc3 9 (by omega),?_⟩
  rintro n e_n
  obtain rfl:n=Dg.nOf l:=e_n.trans (by exact hnO.1)
  refine⟨by omega,⟨by omega,?_⟩⟩
  rintro x23A e_x23A x23N e_x23N x23C e_x23C
  have r_x23A:=Rd.cut (lo:=0) (hi:=(Int.toNat 8)) hz e_x23A e_x23N e_x23C (by omega) (by omega) (by omega)
  refine⟨by omega,?_⟩
  obtain⟨p4,ha4,hz4,hc4⟩:=r_x23A.u32 (by omega)
  refine ah p4 ha4 ⟨_,_,_,_,_,_,_,_,⟨hc4 0 (by omega),hc4 1 (by omega),hc4 2 (by omega),hc4 3 (by omega),hc4 4 (by omega),hc4 5 (by omega),hc4 6 (by omega),hc4 7 (by omega)⟩,?_⟩
  have hp:=Ch.drew hp
  refine mkd fun gv wv m_gv=>?_
  have lo_gv:=m_gv.lo hp
  have b_gv:=m_gv.blk
  refine⟨_,?_,fun _ x43 wv1 h=>h⟩
  refine⟨bXU [9] [] wv.drew (fun _=>False),?_⟩
  refine ax (fun c5=>?_) (fun c5=>?_)
  ·refine bq ?_
   have hp:=Ch.drew (Ch.made hp m_gv)
   exact⟨none,congrArg Value.tuple (r4 (rfl) (congrArg (Value.int .i64) (by rw [Dg.gn hl26 (.inl c5)]))),fun h=>absurd h (by rw [Dg.gn hl26 (.inl c5)];omega),hp⟩
  ·refine ax (fun c6=>?_) (fun c6=>?_)
   ·have b_gv:=Blk.drew b_gv
    refine⟨.inr ⟨by decide,bX.ld b_gv (fun h=>h) _⟩,_,_,_,_,_,_,_,_,⟨b_gv.at2 rfl,b_gv.at2 rfl,b_gv.at2 rfl,b_gv.at2 rfl,b_gv.at2 rfl,b_gv.at2 rfl,b_gv.at2 rfl,b_gv.at2 rfl⟩,?_⟩
    refine Calls.mono (Ek) ?_
    rintro e wv1 ⟨_,rfl,rfl,q_wv1⟩
    refine⟨_,_,_,_,_,_,_,_,rfl,?_⟩
    refine bXU.cK q_wv1 (by decide) ?_
    refine aW (fun c7=>?_) (fun c7=>?_)
    ·have hst:Dg.kT l≠S8.first:=by intro h;simp [Dg.kT,S8.first]at h;simp [bf,eqL,jD,S8.first,h]at c7
     have hp:=Ch.pu (Ch.drew (Ch.made hp m_gv)) q_wv1
     exact⟨none,congrArg Value.tuple (r4 (rfl) (congrArg (Value.int .i64) (by rw [Dg.gn hl26 (.inr ⟨c6,hst⟩)]))),fun h=>absurd h (by rw [Dg.gn hl26 (.inr ⟨c6,hst⟩)];omega),hp⟩
    ·have hst:Dg.kT l=S8.first:=by simp [bf,eqL,jD,S8.first]at c7;simp [Dg.kT,S8.first,c7]
     have hg:¬(Dg.nOf l>36028797018963968∨(Dg.nOf l<16∧Dg.kT l≠S8.first)):=by rintro(h | h);exact c5 h;exact h.2 hst
     rintro waits e_waits
     obtain rfl:waits=Dg.nOf l % 16:=e_waits.trans (by rw [Int.tmod_eq_emod_of_nonneg hnO.2.1,ai (by omega)])
     refine⟨by(simp only [IntKind.wrap_i64];omega),?_⟩
     have hz:=((hz.pu m_gv.pu).pu (Pu.aI _)).pu q_wv1
     rintro x50A e_x50A x50N e_x50N x50C e_x50C
     have r_x50A:=Rd.from_ (lo:=(Int.toNat (i64.wrap (10+(Dg.nOf l % 16))))) hz e_x50A e_x50N e_x50C (by(rw [Dg.lo_eq];omega)) (by have:=hz.cap;omega)
     have hp:=Ch.pu (Ch.drew (Ch.made hp m_gv)) q_wv1
     have b_gv:=Pu.blk q_wv1 b_gv
     refine⟨fun mz x52 W=>mz=(x50N - x52).toNat∧(0≤x52∧x52≤x50N)∧(∀(i:Nat)(x:U32),i<x52.toNat→(l.drop (10+(Dg.nOf l % 16).toNat))[i]? =some x→x.v=0)∧Ch (fun _=>False) w W∧Rd W Z wordsA wordsN wordsC l∧Blk W gv #[(.int .u32 ((((l.drop 0).take ((Int.toNat 8) - 0)).getD 0 ⟨0⟩).v)),(.int .u32 ((((l.drop 0).take ((Int.toNat 8) - 0)).getD 1 ⟨0⟩).v)),(.int .u32 ((((l.drop 0).take ((Int.toNat 8) - 0)).getD 2 ⟨0⟩).v)),(.int .u32 ((((l.drop 0).take ((Int.toNat 8) - 0)).getD 3 ⟨0⟩).v)),(.int .u32 ((((l.drop 0).take ((Int.toNat 8) - 0)).getD 4 ⟨0⟩).v)),(.int .u32 ((((l.drop 0).take ((Int.toNat 8) - 0)).getD 5 ⟨0⟩).v)),(.int .u32 ((((l.drop 0).take ((Int.toNat 8) - 0)).getD 6 ⟨0⟩).v)),(.int .u32 ((((l.drop 0).take ((Int.toNat 8) - 0)).getD 7 ⟨0⟩).v)),(.int .i64 (i64.wrap (Dg.nOf l))),(.slice none 0 0)] 178∧Rd W Z x50A x50N x50C (l.drop (Int.toNat (i64.wrap (10+(Dg.nOf l % 16))))),⟨_,rfl,(by omega),(by intro i x h;omega),hp,hz,b_gv,r_x50A⟩,?_⟩
     rintro _ _ x52 wv2 ⟨rfl,h0,hq,hp,hz,b_gv,r_x50A⟩
     refine ax (fun c8=>?_) (fun c8=>?_)
     ·obtain⟨p9,x9,ha9,hx9,hz9,hc9⟩:=r_x50A.ld (i:=x52) (by omega) (by omega)
      refine⟨by constructor<;>omega,ah p9 ha9 ⟨_,hc9 0 (by decide),?_⟩⟩
      refine bo (fun c10=>?_) (fun c10=>?_)
      ·exact⟨none,congrArg Value.tuple (r4 (rfl) (congrArg (Value.int .i64) (by rw [Dg.lo_eq]at hx9;rw [Dg.dt hl26 hg hx9 c10]))),fun h=>absurd h (by rw [Dg.dt hl26 hg (Dg.lo_eq▸hx9) c10];omega),hp⟩
      ·exact⟨_,by rw [IntKind.wrap_i64];omega,rfl,by rw [IntKind.wrap_i64];omega,by rw [ai (by omega)];intro i x hi hx;by_cases he:i=x52.toNat;(subst he;(rw [Dg.lo_eq]at hx9;rw [hx]at hx9;injection hx9 with e;rw [e];simpa using c10));exact hq i x (by omega) hx,hp,hz,b_gv,r_x50A⟩
     ·have hz9:=hp
      have hgw:gv<wv2.heap.size:=b_gv.lt
      refine⟨by(simp only [IntKind.wrap_i64];omega),⟨by(simp only [IntKind.wrap_i64];omega),⟨by(simp only [IntKind.wrap_i64];omega),?_⟩⟩⟩
      rintro x65A e_x65A x65N e_x65N x65C e_x65C
      have r_x65A:=Rd.cut (lo:=10) (hi:=(Int.toNat (i64.wrap (10+(Dg.nOf l % 16))))) hz e_x65A e_x65N e_x65C (by(rw [Dg.lo_eq];omega)) (by(rw [Dg.lo_eq];omega)) (by omega)
      refine mu pG r_x65A (by have:= @Dg.lo_eq l;omega) (by have:= @Dg.lo_eq l;omega) fun A_wv3 c_wv3 wv3 o_wv3 q_wv3=>?_
      have b_gv:=Pu.blk q_wv3 b_gv
      refine aM b_gv (by simp) fun wv4 s_wv4=>?_
      have b_gv:Blk wv4 gv #[(.int .u32 ((((l.drop 0).take ((Int.toNat 8) - 0)).getD 0 ⟨0⟩).v)),(.int .u32 ((((l.drop 0).take ((Int.toNat 8) - 0)).getD 1 ⟨0⟩).v)),(.int .u32 ((((l.drop 0).take ((Int.toNat 8) - 0)).getD 2 ⟨0⟩).v)),(.int .u32 ((((l.drop 0).take ((Int.toNat 8) - 0)).getD 3 ⟨0⟩).v)),(.int .u32 ((((l.drop 0).take ((Int.toNat 8) - 0)).getD 4 ⟨0⟩).v)),(.int .u32 ((((l.drop 0).take ((Int.toNat 8) - 0)).getD 5 ⟨0⟩).v)),(.int .u32 ((((l.drop 0).take ((Int.toNat 8) - 0)).getD 6 ⟨0⟩).v)),(.int .u32 ((((l.drop 0).take ((Int.toNat 8) - 0)).getD 7 ⟨0⟩).v)),(.int .i64 (i64.wrap (Dg.nOf l))),(.slice A_wv3 x65N c_wv3)] _:=s_wv4.blk.cast (by kernel_rfl)
      have o_wv3:=o_wv3.ch s_wv4.ch (fun k hx e=>absurd hx.1 (by omega))
      have hp:=Ch.call (Ch.pu hp q_wv3) s_wv4.ch (by exact fun k e=>.inr (e▸lo_gv))
      exact⟨_,congrArg Value.tuple (r4 (rfl) (congrArg (Value.int .i64) (by rw [(Dg.qt hl26 hg (fun i x hx=>hq i x (by have:=(List.getElem?_eq_some_iff.1 hx).1;rw [List.length_drop]at this;have:= @Dg.lo_eq l;omega) hx))]))),fun _=>⟨gv,⟨fun k=>(wv2.heap.size≤k∧k<wv3.heap.size)∧k<wv4.heap.size,A_wv3,x65N,c_wv3⟩,rfl,⟨⟨_,Blk.cast b_gv (by simp [Dg.load,Dg.kT];have:=hnO.2;exact(ai (x:=Dg.nOf l) (by omega)).symm)⟩,by have h9:=(o_wv3).rd;have h8:= @Dg.lo_eq l;have e:Dg.load l=⟨Dg.kT l,Dg.nOf l,(l.drop 10).take (Int.toNat (i64.wrap (10+Dg.nOf l % 16)) - 10)⟩:=(by rw [h8,Nat.add_sub_cancel_left];rfl);rw [e];exact h9,by intro h;exact absurd h.1.1 (by have:=m_gv.num;have:=hz9.size;omega)⟩,fun k hk=>hk.elim (fun e=>by rw [e];exact lo_gv) (fun h=>by have:=hz9.size;have:=h.1.1;omega)⟩,hp⟩
   ·have hg:¬(Dg.nOf l>36028797018963968∨(Dg.nOf l<16∧Dg.kT l≠S8.first)):=by rintro(h | h);exact c5 h;exact c6 h.1
    refine eD ?_
    rintro waits e_waits
    obtain rfl:waits=Dg.nOf l % 16:=e_waits.trans (by rw [Int.tmod_eq_emod_of_nonneg hnO.2.1,ai (by omega)])
    refine⟨by(simp only [IntKind.wrap_i64];omega),?_⟩
    have hz:=(hz.pu m_gv.pu).pu (Pu.aI _)
    rintro x50A e_x50A x50N e_x50N x50C e_x50C
    have r_x50A:=Rd.from_ (lo:=(Int.toNat (i64.wrap (10+(Dg.nOf l % 16))))) hz e_x50A e_x50N e_x50C (by(rw [Dg.lo_eq];omega)) (by have:=hz.cap;omega)
    have hp:=Ch.drew (Ch.made hp m_gv)
    have b_gv:=Blk.drew b_gv
    refine⟨fun mz x52 W=>mz=(x50N - x52).toNat∧(0≤x52∧x52≤x50N)∧(∀(i:Nat)(x:U32),i<x52.toNat→(l.drop (10+(Dg.nOf l % 16).toNat))[i]? =some x→x.v=0)∧Ch (fun _=>False) w W∧Rd W Z wordsA wordsN wordsC l∧Blk W gv #[(.int .u32 ((((l.drop 0).take ((Int.toNat 8) - 0)).getD 0 ⟨0⟩).v)),(.int .u32 ((((l.drop 0).take ((Int.toNat 8) - 0)).getD 1 ⟨0⟩).v)),(.int .u32 ((((l.drop 0).take ((Int.toNat 8) - 0)).getD 2 ⟨0⟩).v)),(.int .u32 ((((l.drop 0).take ((Int.toNat 8) - 0)).getD 3 ⟨0⟩).v)),(.int .u32 ((((l.drop 0).take ((Int.toNat 8) - 0)).getD 4 ⟨0⟩).v)),(.int .u32 ((((l.drop 0).take ((Int.toNat 8) - 0)).getD 5 ⟨0⟩).v)),(.int .u32 ((((l.drop 0).take ((Int.toNat 8) - 0)).getD 6 ⟨0⟩).v)),(.int .u32 ((((l.drop 0).take ((Int.toNat 8) - 0)).getD 7 ⟨0⟩).v)),(.int .i64 (i64.wrap (Dg.nOf l))),(.slice none 0 0)] 178∧Rd W Z x50A x50N x50C (l.drop (Int.toNat (i64.wrap (10+(Dg.nOf l % 16))))),⟨_,rfl,(by omega),(by intro i x h;omega),hp,hz,b_gv,r_x50A⟩,?_⟩
    rintro _ _ x52 wv2 ⟨rfl,h0,hq,hp,hz,b_gv,r_x50A⟩
    refine ax (fun c11=>?_) (fun c11=>?_)
    ·obtain⟨p12,x12,ha12,hx12,hz12,hc12⟩:=r_x50A.ld (i:=x52) (by omega) (by omega)
     refine⟨by constructor<;>omega,ah p12 ha12 ⟨_,hc12 0 (by decide),?_⟩⟩
     refine bo (fun c13=>?_) (fun c13=>?_)
     ·exact⟨none,congrArg Value.tuple (r4 (rfl) (congrArg (Value.int .i64) (by rw [Dg.lo_eq]at hx12;rw [Dg.dt hl26 hg hx12 c13]))),fun h=>absurd h (by rw [Dg.dt hl26 hg (Dg.lo_eq▸hx12) c13];omega),hp⟩
     ·exact⟨_,by rw [IntKind.wrap_i64];omega,rfl,by rw [IntKind.wrap_i64];omega,by rw [ai (by omega)];intro i x hi hx;by_cases he:i=x52.toNat;(subst he;(rw [Dg.lo_eq]at hx12;rw [hx]at hx12;injection hx12 with e;rw [e];simpa using c13));exact hq i x (by omega) hx,hp,hz,b_gv,r_x50A⟩
    ·have hz9:=hp
     have hgw:gv<wv2.heap.size:=b_gv.lt
     refine⟨by(simp only [IntKind.wrap_i64];omega),⟨by(simp only [IntKind.wrap_i64];omega),⟨by(simp only [IntKind.wrap_i64];omega),?_⟩⟩⟩
     rintro x65A e_x65A x65N e_x65N x65C e_x65C
     have r_x65A:=Rd.cut (lo:=10) (hi:=(Int.toNat (i64.wrap (10+(Dg.nOf l % 16))))) hz e_x65A e_x65N e_x65C (by(rw [Dg.lo_eq];omega)) (by(rw [Dg.lo_eq];omega)) (by omega)
     refine mu pG r_x65A (by have:= @Dg.lo_eq l;omega) (by have:= @Dg.lo_eq l;omega) fun A_wv3 c_wv3 wv3 o_wv3 q_wv3=>?_
     have b_gv:=Pu.blk q_wv3 b_gv
     refine aM b_gv (by simp) fun wv4 s_wv4=>?_
     have b_gv:Blk wv4 gv #[(.int .u32 ((((l.drop 0).take ((Int.toNat 8) - 0)).getD 0 ⟨0⟩).v)),(.int .u32 ((((l.drop 0).take ((Int.toNat 8) - 0)).getD 1 ⟨0⟩).v)),(.int .u32 ((((l.drop 0).take ((Int.toNat 8) - 0)).getD 2 ⟨0⟩).v)),(.int .u32 ((((l.drop 0).take ((Int.toNat 8) - 0)).getD 3 ⟨0⟩).v)),(.int .u32 ((((l.drop 0).take ((Int.toNat 8) - 0)).getD 4 ⟨0⟩).v)),(.int .u32 ((((l.drop 0).take ((Int.toNat 8) - 0)).getD 5 ⟨0⟩).v)),(.int .u32 ((((l.drop 0).take ((Int.toNat 8) - 0)).getD 6 ⟨0⟩).v)),(.int .u32 ((((l.drop 0).take ((Int.toNat 8) - 0)).getD 7 ⟨0⟩).v)),(.int .i64 (i64.wrap (Dg.nOf l))),(.slice A_wv3 x65N c_wv3)] _:=s_wv4.blk.cast (by kernel_rfl)
     have o_wv3:=o_wv3.ch s_wv4.ch (fun k hx e=>absurd hx.1 (by omega))
     have hp:=Ch.call (Ch.pu hp q_wv3) s_wv4.ch (by exact fun k e=>.inr (e▸lo_gv))
     exact⟨_,congrArg Value.tuple (r4 (rfl) (congrArg (Value.int .i64) (by rw [(Dg.qt hl26 hg (fun i x hx=>hq i x (by have:=(List.getElem?_eq_some_iff.1 hx).1;rw [List.length_drop]at this;have:= @Dg.lo_eq l;omega) hx))]))),fun _=>⟨gv,⟨fun k=>(wv2.heap.size≤k∧k<wv3.heap.size)∧k<wv4.heap.size,A_wv3,x65N,c_wv3⟩,rfl,⟨⟨_,Blk.cast b_gv (by simp [Dg.load,Dg.kT];have:=hnO.2;exact(ai (x:=Dg.nOf l) (by omega)).symm)⟩,by have h9:=(o_wv3).rd;have h8:= @Dg.lo_eq l;have e:Dg.load l=⟨Dg.kT l,Dg.nOf l,(l.drop 10).take (Int.toNat (i64.wrap (10+Dg.nOf l % 16)) - 10)⟩:=(by rw [h8,Nat.add_sub_cancel_left];rfl);rw [e];exact h9,by intro h;exact absurd h.1.1 (by have:=m_gv.num;have:=hz9.size;omega)⟩,fun k hk=>hk.elim (fun e=>by rw [e];exact lo_gv) (fun h=>by have:=hz9.size;have:=h.1.1;omega)⟩,hp⟩
end Go.Proofs.YtbjlecpmgocoeaaGreatDoor
end
section
set_option maxRecDepth 100000
set_option maxHeartbeats 1000000
namespace Go.Proofs.YtbjlecpmgocoeaaGreatDoor
open Go Go.RowKit V
open Go.IntKind (i64 u32 u64)
open Go.Proofs (Tryz.prog)
attribute [local grind=] Pd.cP Pd.bM Pd.jl Pd.jG Pd.dq Pd.cx Pd.eK Pd.gj Pd.lM
attribute [local grind .] Pd.Ok.ent
attribute [local grind→] Pd.Ok.cH
section
attribute [local grind=] DB.word
end
section
attribute [local grind=] DB.zero
end
section
attribute [local grind=] DB.is
end
section
attribute [local grind=] DB.of DB.is
end
section
attribute [local grind=] DB.alive DB.is
end
theorem gB {E:Pd} {m:Mem}(h:m.Wf)(p o:Int):0≤(E.on m).word p o∧(E.on m).word p o<4294967296:=by
 show 0≤m.iM true p o∧m.iM true p o<_
 unfold Mem.iM
 split
 ·exact h.1 _ _ _
 ·omega
section
attribute [local grind=] DB.kg Pd.mV
end
section
attribute [local grind=] DB.ui
end
theorem uA(D:DB)(p:Int) {n:Int}(h:0≤n):D.lY p (n+1)=D.lY p n+(if D.of n 4 (D.at_ p).owner then dD (D.kC p n) 1024 else 0):=by
 unfold DB.lY
 rw [show(n+1).toNat=n.toNat+1 by omega,List.range_succ,List.map_append,List.sum_append]
 simp only [List.map_cons,List.map_nil,List.sum_cons,List.sum_nil,Int.add_zero,show((n.toNat:Nat):Int)=n by omega]
structure ze(D:DB)(p:Int)(l:List I64)(n:Int):Prop where
 len:l.length=D.S
 val:∀q:Int,0≤q→q<(D.S:Int)→(l.getD q.toNat (I64.mk 0)).v=D.named p n q
theorem gM(D:DB)(p q:Int) {n:Int}(h:0≤n):D.named p (n+1) q=D.named p n q+(if D.word p n !=0 && aZ (D.word p n)==q then 1 else 0):=eQ h
theorem ze.zero(D:DB)(p:Int)(n:Nat)(h:n=D.S):ze D p (List.replicate n (I64.mk 0)) 0:=
 ⟨by simp [h],fun q h1 h2=>by rw [List.getD_eq_getElem?_getD,List.getElem?_replicate,if_pos (by omega)];rfl⟩
theorem ze.skip {D:DB} {p n:Int} {l:List I64}(h:ze D p l n)(h0:0≤n)(hw:D.word p n=0):ze D p l (n+1):=
 ⟨h.len,fun q h1 h2=>by rw [h.val q h1 h2,gM D p q h0,hw];simp⟩
theorem ze.put {D:DB} {p n:Int} {l:List I64}(h:ze D p l n)(h0:0≤n∧n<256)(hw:¬D.word p n=0)(hp:0≤aZ (D.word p n)∧aZ (D.word p n)<(D.S:Int)):
 ze D p (l.set (aZ (D.word p n)).toNat (I64.mk (i64.wrap ((l.getD (aZ (D.word p n)).toNat (I64.mk 0)).v+1)))) (n+1):=by
 refine⟨by simp [h.len],fun q h1 h2=>?_⟩
 have hr:=mi (f:=fun i=>D.word p i !=0 && aZ (D.word p i)==aZ (D.word p n)) h0.1
 have hr2:=iu (f:=fun i=>D.word p i !=0 && aZ (D.word p i)==aZ (D.word p n)) (n:=n)
 have hv:=h.val _ hp.1 hp.2
 rw [gM D p q h0.1,List.getD_eq_getElem?_getD,List.getElem?_set]
 by_cases hq:aZ (D.word p n)=q
 ·subst hq
  rw [if_pos rfl,if_pos (by rw [h.len];omega)]
  show i64.wrap _=_
  rw [hv]
  unfold DB.named at *
  rw [ai (by omega)]
  simp [hw]
 ·rw [if_neg (by omega),← List.getD_eq_getElem?_getD,h.val q h1 h2]
  simp [hq]
section
attribute [local grind=] DB.of DB.is
end
theorem vQ {E:Pd} {m:Mem}(h:m.Wf)(p lo:Int)(n:Nat):∀x∈(E.on m).some_ p lo n,0≤x.v∧x.v<4294967296:=by
 intro x hx
 obtain⟨i,_,rfl⟩:=List.mem_map.1 hx
 exact gB h p _
section
attribute [local grind=] DB.uh DB.Bd
end
section
attribute [local grind=] DB.oV DB.is
end
end Go.Proofs.YtbjlecpmgocoeaaGreatDoor
end
section
namespace Go.Proofs.YtbjlecpmgocoeaaGreatDoor
open Go Go.RowKit V
open Go.IntKind (i64 u32 u64)
theorem Bk(w:Int):0≤(cw w).ar∧(cw w).ar<64:=by
 unfold cw
 split
 ·rename_i h
  have h:=h.2
  unfold uv Mp.err at h
  simp only [decide_eq_true_eq]at h
  have h:=h.1
  split at h
  ·assumption
  ·omega
 ·exact⟨by decide,by decide⟩
theorem oY {w:Int}(hw:0≤w):0≤aZ w∧aZ w<64:=by
 unfold aZ
 split
 ·rename_i h
  unfold Co at h
  simp only [decide_eq_true_eq]at h
  omega
 ·omega
theorem eqF(a b:Bool)(x y:Int):bf #[.bool a,.int .i64 x] #[.bool b,.int .i64 y]=((a==b) && (x==y)):=by
 simp [bf,eqL,jD]
theorem CE {f:Int→Bool} {a b:Int}(h:a≤b):dD f a≤dD f b:=by
 by_cases h0:a<0
 ·have e:dD f a=0:=by unfold dD;rw [show a.toNat=0 by omega];rfl
  rw [e];exact iu
 obtain⟨k,rfl⟩:∃k:Nat,b=a+k:=⟨(b - a).toNat,by omega⟩
 clear h
 induction k with
 | zero=>simp
 | succ k ih=>
  have:=eQ (f:=f) (n:=a+(k:Int)) (by omega)
  rw [show a+((k+1:Nat):Int)=a+k+1 by omega,this]
  split<;>omega
theorem tp {f:Int→Bool} {n:Int}(h:∀x,0≤x→x<n→f x=false):dD f n=0:=by
 unfold dD
 have:(List.range n.toNat).countP (fun(i:Nat)=>f (i:Int))=0:=by
  rw [List.countP_eq_zero]
  intro i hi
  have:=List.mem_range.1 hi
  rw [h _ (by omega) (by omega)];simp
 omega
theorem xm {f g:Int→Bool} {q:Int}:∀ {n:Nat},0≤q→f q=false→g q=true→(∀x,0≤x→x<(n:Int)→x≠q→g x=f x)→dD g n=dD f n+(if q<(n:Int)then 1 else 0)
 | 0,h0,_,_,_=>by rw [if_neg (by omega)];rfl
 | n+1,h0,hf,hg,h=>by
  have ih:=xm (n:=n) h0 hf hg fun x a b c=>h x a (by omega) c
  have e1:=eQ (f:=f) (n:=(n:Int)) (by omega)
  have e2:=eQ (f:=g) (n:=(n:Int)) (by omega)
  rw [show((n+1:Nat):Int)=(n:Int)+1 by omega,e1,e2,ih]
  by_cases hq:q=(n:Int)
  ·subst hq
   have a:¬(n:Int)<n:=by omega
   have b:(n:Int)<n+1:=by omega
   simp [hf,hg,b]
  ·rw [h _ (by omega) (by omega) (fun e=>hq e.symm)]
   by_cases h1:q<(n:Int)
   ·rw [if_pos h1,if_pos (show q<(n:Int)+1 by omega)];omega
   ·rw [if_neg h1,if_neg (show ¬q<(n:Int)+1 by omega)];omega
theorem B5 {E:Pd} {i:Int}(h:0≤i∧i<(E.n:Int)):E.aj.take i.toNat++ [E.ent i.toNat]=E.aj.take (i+1).toNat:=by
 rw [show(i+1).toNat=i.toNat+1 by omega,List.take_add_one,Pd.qA (by omega)];rfl
structure kL(D:DB)(p lo:Int)(n:Nat)(x:Int)(l:List U32):Prop where
 len:l.length=n
 val:∀i:Nat,(i:Int)<x→i<n→l[i]? =some ⟨D.word p (lo+(i:Int))⟩
theorem kL.init(D:DB)(p lo:Int)(n:Nat):kL D p lo n 0 (List.replicate n (U32.mk 0)):=⟨by simp,fun i h=>by omega⟩
theorem kL.next {D:DB} {p lo x:Int} {n:Nat} {l:List U32}(h:kL D p lo n x l)(h0:0≤x)(hx:x<(n:Int))(hl:0≤lo∧lo<1024∧n<1024):kL D p lo n (i64.wrap (x+1)) (l.set x.toNat ⟨D.word p (i64.wrap (lo+x))⟩):=by
 rw [ai (by omega),ai (by omega)]
 refine⟨by simp [h.len],fun i hi hn=>?_⟩
 rw [List.getElem?_set]
 by_cases hix:x.toNat=i
 ·rw [if_pos hix,if_pos (by rw [h.len];omega),show(i:Int)=x by omega]
 ·rw [if_neg hix];exact h.val i (by omega) hn
theorem kL.done {D:DB} {p lo x:Int} {n:Nat} {l:List U32}(h:kL D p lo n x l)(hx:(n:Int)≤x):D.some_ p lo n=l:=by
 apply List.ext_getElem?
 intro i
 by_cases hi:i<n
 ·rw [h.val i (by omega) hi]
  simp [DB.some_,hi]
 ·rw [List.getElem?_eq_none (by simp [DB.some_];omega),List.getElem?_eq_none (by rw [h.len];omega)]
namespace DB
def cg(D:DB)(p:Int):Int:=if D.is (D.at_ p).owner 1 then(D.at_ p).owner else -1
def pgs(D:DB)(t o:Int)(n:Nat):List I64:=((List.range n).filter fun(q:Nat)=>(D.at_ (q:Int)).typ==t && (D.at_ (q:Int)).owner==o).map fun(q:Nat)=>⟨(q:Int)⟩
theorem wj(D:DB)(t o:Int) {i:Int}(h:0≤i∧i<9000000000000000000):D.pgs t o (i64.wrap (i+1)).toNat=if((D.at_ i).typ==t && (D.at_ i).owner==o)=true then D.pgs t o i.toNat++ [⟨i⟩]else D.pgs t o i.toNat:=by
 rw [ai (by omega),show(i+1).toNat=i.toNat+1 by omega]
 unfold pgs
 rw [List.range_succ,List.filter_append,List.map_append]
 have e:((i.toNat:Nat):Int)=i:=by omega
 split<;>rename_i hc<;>simp [e,hc]
theorem jk(D:DB)(t o:Int)(n:Nat):(D.pgs t o n).length≤n:=by
 unfold pgs
 rw [List.length_map]
 have:=List.length_filter_le (fun(q:Nat)=>(D.at_ (q:Int)).typ==t && (D.at_ (q:Int)).owner==o) (List.range n)
 rwa [List.length_range]at this
theorem zy {D:DB} {t o:Int} {x:I64}:x∈D.pgs t o D.S↔D.of x.v t o=true:=by
 unfold pgs of is has
 rw [List.mem_map]
 constructor
 ·rintro⟨q,hq,rfl⟩
  rw [List.mem_filter,List.mem_range]at hq
  have h2:=hq.2
  simp only [Bool.and_eq_true]at h2 ⊢
  exact⟨⟨by simp;exact hq.1,h2.1⟩,h2.2⟩
 ·intro h
  simp only [Bool.and_eq_true,decide_eq_true_eq]at h
  refine⟨x.v.toNat,?_,?_⟩
  ·rw [List.mem_filter,List.mem_range,show((x.v.toNat:Nat):Int)=x.v by omega]
   exact⟨by omega,by rw [Bool.and_eq_true];exact⟨h.1.2,h.2⟩⟩
  ·rw [show((x.v.toNat:Nat):Int)=x.v by omega]
theorem uw(D:DB)(t o:Int):((D.pgs t o D.S).length:Int)=dD (fun q=>D.of q t o) D.S:=by
 unfold pgs dD
 rw [List.length_map,← List.countP_eq_length_filter,Int.toNat_natCast]
 congr 1
 apply List.countP_congr
 intro q hq
 have:=List.mem_range.1 hq
 simp only [of,is,has]
 rw [show decide (0≤(q:Int)∧(q:Int)<(D.S:Int))=true by simp;omega,Bool.true_and]
theorem GP {D:DB} {t o:Int}(h:((D.pgs t o D.S).length:Int)=1)(x:Int):D.of x t o=(x==((D.pgs t o D.S).getD (Int.toNat 0) (I64.mk 0)).v):=by
 have hx:=zy (D:=D) (t:=t) (o:=o) (x:=⟨x⟩)
 obtain⟨y,hy⟩:=List.length_eq_one_iff.1 (show(D.pgs t o D.S).length=1 by omega)
 rw [hy]at hx ⊢
 rw [List.mem_singleton]at hx
 rw [Bool.eq_iff_iff,← hx,beq_iff_eq]
 show I64.mk x=y↔x=y.v
 cases y
 simp
theorem first_eq {D:DB} {p:Int}(hS:D.S≤64):(((((D.pgs 3 p D.S).length:Nat):Int)==1) && (D.word p 0==u32.wrap ((D.pgs 3 p D.S).getD (Int.toNat 0) (I64.mk 0)).v))=(dD (fun q=>D.of q 3 p) D.S==1 && D.of (D.word p 0) 3 p):=by
 rw [uw]
 by_cases h:dD (fun q=>D.of q 3 p) D.S=1
 ·have h1:((D.pgs 3 p D.S).length:Int)=1:=by rw [uw];exact h
  have h2:=GP h1
  have h3:=h2 ((D.pgs 3 p D.S).getD (Int.toNat 0) (I64.mk 0)).v
  rw [beq_self_eq_true]at h3
  unfold of is has at h3
  simp only [Bool.and_eq_true,decide_eq_true_eq]at h3
  rw [h2,bZ (by omega)]
 ·rw [show(dD (fun q=>D.of q 3 p) D.S==1)=false by simpa using h];rfl
theorem GW {D:DB} {t o q:Int} {l:List I64}(hl:l=D.pgs t o D.S)(h:∀j:Nat,(j:Int)<(l.length:Int)→¬(l.getD j (I64.mk 0)).v=q):D.of q t o=false:=by
 cases hc:D.of q t o
 ·rfl
 ·exfalso
  have hm:=zy (x:=⟨q⟩).2 hc
  rw [← hl]at hm
  obtain⟨j,hj,he⟩:=List.mem_iff_getElem.1 hm
  exact h j (by omega) (by rw [List.getD_eq_getElem?_getD,List.getElem?_eq_getElem hj,he];rfl)
theorem IK {D:DB} {t o q x:Int} {l:List I64}(hl:l=D.pgs t o D.S)(hx:0≤x∧x<(l.length:Int))(h:(l.getD x.toNat (I64.mk 0)).v=q):D.of q t o=true:=by
 have hi:x.toNat<l.length:=by omega
 rw [List.getD_eq_getElem?_getD,List.getElem?_eq_getElem hi]at h
 have hm:l[x.toNat]∈l:=List.getElem_mem hi
 have hm2:l[x.toNat]∈D.pgs t o D.S:=hl▸hm
 rw [← h]
 exact zy.1 hm2
theorem xn(D:DB)(p:Int):D.clause 1 p=((D.at_ p).typ !=1 || (D.at_ p).owner==p):=rfl
theorem qI(D:DB)(p:Int):D.clause 2 p=((D.at_ p).typ !=0 || D.zero p 0 1024):=rfl
theorem Fe(D:DB)(p:Int):D.clause 3 p=((D.at_ p).typ==1 || ((D.at_ p).typ==0 || D.is (D.at_ p).owner 1)):=rfl
theorem Fc(D:DB)(p:Int):D.clause 4 p=((D.at_ p).typ !=1 || (D.at_ p).refs==((D.eJ p D.S).length:Int)):=rfl
theorem qH(D:DB)(p:Int):D.clause 5 p=((D.at_ p).typ !=1 || D.kg p):=rfl
theorem Fb(D:DB)(p:Int):D.clause 6 p=((D.at_ p).typ !=1 || D.uh p):=rfl
theorem Fa(D:DB)(p:Int):D.clause 7 p=((D.at_ p).typ !=1 || D.ui p):=rfl
theorem jY(D:DB)(p:Int):D.clause 8 p=((D.at_ p).typ !=3 || (!D.alive p || D.kQ p)):=rfl
theorem mj(D:DB)(p:Int):D.clause 9 p=((D.at_ p).typ !=4 || (!D.alive p || D.vN p)):=rfl
theorem tq(D:DB)(p:Int):D.clause 10 p=((D.at_ p).typ !=5 || (!D.alive p || D.Bc p)):=rfl
theorem CG(D:DB)(p:Int):D.clause 11 p=((D.at_ p).typ !=2 || D.oV p):=rfl
theorem CF(D:DB)(p:Int):D.clause 12 p=((D.at_ p).typ !=6 || D.zero p 0 1024):=rfl
structure Nms(D:DB)(p x count:Int)(l:List Bl):Prop where
 len:l.length=64
 ok:fc (D.jR p) 0 x=true
 once:∀q:Int,0≤q→q<64→D.named p x q≤1∧(l.getD q.toNat (Bl.mk false)).v=(D.named p x q==1)
 cnt:count=dD (fun q=>D.named p x q==1) D.S
theorem Nms.init(D:DB)(p:Int):Nms D p 0 0 (List.replicate (Int.toNat 64) (Bl.mk false)):=by
 refine⟨by simp,gU (Int.le_refl _),fun q h1 h2=>⟨by show(0:Int)≤1;omega,?_⟩,?_⟩
 ·rw [List.getD_eq_getElem?_getD,List.getElem?_replicate,if_pos (by omega)];rfl
 ·exact(tp (f:=fun q=>D.named p 0 q==1) fun x _ _=>rfl).symm
theorem wB {D:DB} {p x q:Int}(hx:0≤x)(hw:D.word p x=0):D.named p (x+1) q=D.named p x q:=by
 rw [gM D p q hx,hw];simp
theorem Nms.skip {D:DB} {p x c:Int} {l:List Bl}(h:Nms D p x c l)(hx:0≤x)(hw:D.word p x=0):Nms D p (x+1) c l:=by
 refine⟨h.len,eh h.ok (by unfold jR;rw [hw];rfl) rfl,fun q h1 h2=>by rw [wB hx hw];exact h.once q h1 h2,?_⟩
 rw [h.cnt]
 exact z1 fun q _ _=>by rw [wB hx hw]
theorem Nms.put {D:DB} {p x c:Int} {l:List Bl}(h:Nms D p x c l)(hx:0≤x)(hw0:0≤D.word p x)(hw:¬D.word p x=0)(he:pZ (D.word p x)=0)(hl:(l.getD (aZ (D.word p x)).toNat (Bl.mk false)).v=false)(ho:D.of (aZ (D.word p x)) 4 (D.at_ p).owner=true):
 Nms D p (x+1) (c+1) (l.set (aZ (D.word p x)).toNat (Bl.mk true)):=by
 have hp:=oY hw0
 have ho2:0≤aZ (D.word p x)∧aZ (D.word p x)<(D.S:Int):=by
  unfold of is has at ho
  simp only [Bool.and_eq_true,decide_eq_true_eq]at ho
  exact ho.1.1
 have step:∀q,D.named p (x+1) q=D.named p x q+(if aZ (D.word p x)=q then 1 else 0):=fun q=>by
  rw [gM D p q hx]
  by_cases hq:aZ (D.word p x)=q<;>simp [hq,hw]
 have h1:=h.once _ hp.1 hp.2
 rw [hl]at h1
 have h0:D.named p x (aZ (D.word p x))=0:=by
  have hge:0≤D.named p x (aZ (D.word p x)):=iu
  have h2:=h1.2
  have:¬D.named p x (aZ (D.word p x))=1:=by simpa using h2.symm
  omega
 refine⟨by simp [h.len],eh h.ok (by unfold jR;rw [he,ho];simp) rfl,fun q a b=>?_,?_⟩
 ·rw [step,List.getD_eq_getElem?_getD,List.getElem?_set]
  by_cases hq:aZ (D.word p x)=q
  ·subst hq
   rw [if_pos rfl,if_pos rfl,if_pos (by rw [h.len];omega),h0]
   exact⟨by omega,rfl⟩
  ·rw [if_neg hq,if_neg (by omega),← List.getD_eq_getElem?_getD,Int.add_zero]
   exact h.once q a b
 ·rw [xm (f:=fun q=>D.named p x q==1) (q:=aZ (D.word p x)) ho2.1 (by rw [h0];rfl) (by rw [step,h0,if_pos rfl];rfl) (fun y _ _ hy=>by rw [step,if_neg (fun e=>hy e.symm),Int.add_zero]),if_pos ho2.2,← h.cnt]
theorem Nms.bad {D:DB} {p x c:Int} {l:List Bl}(h:Nms D p x c l)(hx:0≤x∧x<256)(hw0:0≤D.word p x)(hw:¬D.word p x=0)(hb:pZ (D.word p x)=0→D.of (aZ (D.word p x)) 4 (D.at_ p).owner=true→(l.getD (aZ (D.word p x)).toNat (Bl.mk false)).v=true):D.kQ p=false:=by
 unfold kQ
 by_cases hn:D.jR p x=true
 ·unfold jR at hn
  simp only [Bool.or_eq_true,beq_iff_eq,hw,false_or,Bool.and_eq_true]at hn
  have hp:=oY hw0
  have h1:=h.once _ hp.1 hp.2
  rw [hb hn.1 hn.2]at h1
  have h1:D.named p x (aZ (D.word p x))=1:=by simpa using h1.2.symm
  have h2:D.named p (x+1) (aZ (D.word p x))=2:=by
   rw [gM D p _ hx.1,h1];simp [hw]
  have h3:D.named p (x+1) (aZ (D.word p x))≤D.named p 256 (aZ (D.word p x)):=CE (by omega)
  have ho:=hn.2
  unfold of is has at ho
  simp only [Bool.and_eq_true,decide_eq_true_eq]at ho
  rw [dU (f:=fun q=>!(decide (D.named p 256 q>1) || (D.of q 4 (D.at_ p).owner && D.named p 256 q==0))) ho.1.1.1 ho.1.1.2 (by simp;omega)]
  simp
 ·rw [dU (f:=D.jR p) hx.1 hx.2 (by simpa using hn)]
  simp
theorem Nms.done {D:DB} {p c:Int} {l:List Bl}(hS:D.S≤64)(h:Nms D p 256 c l)(hz:D.zero p 256 1024=true):D.kQ p=(c==((D.pgs 4 (D.at_ p).owner D.S).length:Int)):=by
 have hsub:=xl (f:=fun q=>D.named p 256 q==1) (g:=fun q=>D.of q 4 (D.at_ p).owner) (n:=(D.S:Int)) (by omega) fun q h1 h2 hq=>by
  have hq:D.named p 256 q=1:=by simpa using hq
  have:∃i,0≤i∧i<256∧(D.word p i !=0 && aZ (D.word p i)==q)=true:=by
   apply Classical.byContradiction
   intro hn
   have:=tp (f:=fun i=>D.word p i !=0 && aZ (D.word p i)==q) (n:=256) fun i a b=>by
    cases hc:(D.word p i !=0 && aZ (D.word p i)==q)
    ·rfl
    ·exact absurd ⟨i,a,b,hc⟩ hn
   unfold named at hq
   omega
  obtain⟨i,a,b,hi⟩:=this
  have hk:=bP.1 h.ok i a b
  simp only [Bool.and_eq_true,bne_iff_ne,ne_eq,beq_iff_eq]at hi
  unfold jR at hk
  simp only [Bool.or_eq_true,beq_iff_eq,hi.1,false_or,Bool.and_eq_true]at hk
  rw [← hi.2];exact hk.2
 unfold kQ
 rw [hz,h.ok,Bool.true_and,Bool.true_and,uw,h.cnt,Bool.eq_iff_iff,bP,beq_iff_eq]
 constructor
 ·intro hA
  refine Int.le_antisymm hsub.1 ?_
  refine(xl (by omega) fun q a b hq=>?_).1
  have:=hA q a b
  simp only [hq,Bool.true_and,Bool.not_eq_true',Bool.or_eq_false_iff,decide_eq_false_iff_not,beq_eq_false_iff_ne]at this
  have hge:0≤D.named p 256 q:=iu
  simp only [beq_iff_eq]
  omega
 ·intro he q a b
  have h1:=(h.once q a (by omega)).1
  cases ho:D.of q 4 (D.at_ p).owner
  ·simp;omega
  ·have:=hsub.2 he q a b ho
   have:D.named p 256 q=1:=by simpa using this
   simp [this]
def iH(D:DB)(p:Int)(l:List I64)(x:Int):Int:=((l.take x.toNat).map fun q=>dD (D.kC p q.v) 1024).sum
theorem pE {D:DB} {p:Int} {l:List I64} {x:Int}(h:0≤x∧x<(l.length:Int)):D.iH p l (x+1)=D.iH p l x+dD (D.kC p (l.getD x.toNat (I64.mk 0)).v) 1024:=by
 unfold iH
 have hx:x.toNat<l.length:=by omega
 rw [show(x+1).toNat=x.toNat+1 by omega,List.take_add_one,List.getElem?_eq_getElem hx,List.map_append,List.sum_append,List.getD_eq_getElem?_getD,List.getElem?_eq_getElem hx]
 simp
theorem sD {D:DB} {p:Int} {l:List I64} {x:Int}(hx:0≤x):0≤D.iH p l x∧D.iH p l x≤1024*x:=by
 obtain⟨n,rfl⟩:=Int.eq_ofNat_of_zero_le hx
 induction n with
 | zero=>simp [iH]
 | succ n ih=>
  by_cases hn:n<l.length
  ·have h1:=pE (D:=D) (p:=p) (l:=l) (x:=(n:Int)) ⟨by omega,by omega⟩
   have h2:=ih (by omega)
   have h3:=iu (f:=D.kC p (l.getD n (I64.mk 0)).v) (n:=1024)
   have h4:=mi (f:=D.kC p (l.getD n (I64.mk 0)).v) (n:=1024) (by omega)
   rw [Int.toNat_natCast]at h1
   rw [show((n+1:Nat):Int)=(n:Int)+1 by omega,h1]
   omega
  ·have e:D.iH p l ((n+1:Nat):Int)=D.iH p l (n:Int):=by
    unfold iH
    rw [List.take_of_length_le (by omega),List.take_of_length_le (by omega)]
   rw [e]
   have:=ih (by omega)
   omega
theorem sF {D:DB} {p:Int}:∀ {n:Nat},n≤D.S→D.lY p (n:Int)=((D.pgs 4 (D.at_ p).owner n).map fun q=>dD (D.kC p q.v) 1024).sum
 | 0,_=>rfl
 | n+1,h=>by
  have h1:=uA D p (n:=(n:Int)) (by omega)
  have h2:D.pgs 4 (D.at_ p).owner (n+1)=if((D.at_ (n:Int)).typ==4 && (D.at_ (n:Int)).owner==(D.at_ p).owner)=true then D.pgs 4 (D.at_ p).owner n++ [⟨(n:Int)⟩]else D.pgs 4 (D.at_ p).owner n:=by
   unfold pgs
   rw [List.range_succ,List.filter_append,List.map_append]
   split<;>rename_i hc<;>simp [hc]
  have h3:D.of (n:Int) 4 (D.at_ p).owner=((D.at_ (n:Int)).typ==4 && (D.at_ (n:Int)).owner==(D.at_ p).owner):=by
   unfold of is has
   rw [show decide (0≤(n:Int)∧(n:Int)<(D.S:Int))=true by simp;omega,Bool.true_and]
  rw [show((n+1:Nat):Int)=(n:Int)+1 by omega,h1,sF (by omega),h2,h3]
  split
  ·simp
  ·simp
theorem once_eq {D:DB} {p n x:Int}(hx:x=((D.pgs 4 (D.at_ p).owner D.S).length:Int))(h:n=D.iH p (D.pgs 4 (D.at_ p).owner D.S) x):D.Bc p=(n==1):=by
 unfold Bc
 rw [sF (Nat.le_refl _),h,hx]
 unfold iH
 rw [Int.toNat_natCast,List.take_length]
end DB
end Go.Proofs.YtbjlecpmgocoeaaGreatDoor
end
section
set_option maxRecDepth 100000
namespace Go.Proofs.YtbjlecpmgocoeaaGreatDoor
open Go Go.RowKit V
open Go.IntKind (i64 u32 u64)
open Go.Proofs (Tryz.prog)
def oB(d:Option Addr)(R:aw)(w:World):Prop:=
 ∀(gv:Nat)(wv:World),gv=w.heap.size→wv=w.alloc (.cells #[(.pointer d)] 31)→
 R (.func (.func 132) #[] #[(.pointer (some (Addr.mk gv 0 none)))]) wv
def zc:Ann:= .leaf
theorem DEntries_eq(d:Option Addr)(R:aw)(w:World):oB d R w=vcF Tryz.prog aG [] Tryz.f99 zc [(.pointer d)] R none w:=by kernel_rfl
theorem rY(d:Option Addr) {R:aw} {w:World}(h:oB d R w):Calls Tryz.prog 99 #[(.pointer d)] w fun e w'=>∃v,e= .returned v∧R v w':=
 ak Tryz.func99 av aa ((DEntries_eq d R w).mp h)
def kO(yield:Value)(cap0:Addr)(R:aw)(w:World):Prop:=
 ∃x4:Option Addr,w.cell? cap0=some (.pointer x4)∧
 Calls Tryz.prog 18 #[(.pointer x4)] w fun e wv=>
 ∃x5:Int,e= .returned (.int .i64 x5)∧
 ∃I:Nat→Int→World→Prop,(∃m,I m 0 wv)∧∀(m:Nat)(_gv:Nat→Value)(x6:Int),∀wv1,I m x6 wv1→
 split (decide ((x6:Int)<x5)) (
  ∃x11:Option Addr,wv1.cell? cap0=some (.pointer x11)∧
  Calls Tryz.prog 80 #[(.pointer x11),(.int .i64 x6)] wv1 fun e wv2=>
  ∃x13a:Int,∃x13b:Int,∃x13c:Int,∃x13d:Int,∃x13e:Bool,e= .returned (.agg #[(.int .i64 x13a),(.int .i64 x13b),(.int .i64 x13c),(.int .i64 x13d),(.bool x13e)])∧
  Fh Tryz.prog aG true yield #[(.int .i64 x6),(.agg #[(.int .i64 x13a),(.int .i64 x13b),(.int .i64 x13c),(.int .i64 x13d),(.bool x13e)])] wv2 fun e wv3=>
  ∃x14:Bool,e= .returned (.bool x14)∧
  split (!x14) (
   R (.tuple #[]) wv3) (
   ∃m1,m1<m∧I m1 (i64.wrap (x6+1)) wv3)) (
  R (.tuple #[]) wv1)
def sA:Ann:=(.node none .leaf (.node none (.node (some ⟨[(6,.one (.int .i64))],[3,6,7,8,9,10,11,12,13,14,15,16]⟩) .leaf .leaf) .leaf))
theorem DEntries_1_eq(yield:Value)(cap0:Addr)(R:aw)(w:World):kO yield cap0 R w=vcF Tryz.prog aG [] Tryz.f132 sA [yield,(.pointer (some cap0))] R none w:=by kernel_rfl
theorem nI(yield:Value)(cap0:Addr) {R:aw} {w:World}(h:kO yield cap0 R w):Calls Tryz.prog 132 #[yield,(.pointer (some cap0))] w fun e w'=>∃v,e= .returned v∧R v w':=
 ak Tryz.func132 av aa ((DEntries_1_eq yield cap0 R w).mp h)
def tY(d:Option Addr)(space:Int)(R:aw)(w:World):Prop:=
 ∀(gv:Nat)(wv:World),gv=w.heap.size→wv=w.alloc (.cells #[(.int .i64 space)] 3)→
 ∃x9:Int,wv.cell? (Addr.mk gv 0 none)=some (.int .i64 x9)∧
 Calls Tryz.prog 83 #[(.pointer d),(.int .i64 x9)] wv fun e wv1=>
 ∃x10:Bool,e= .returned (.bool x10)∧
 split (!x10) (
  R (.slice none 0 0) wv1) (
  ∀(gv1:Nat)(wv2:World),gv1=wv1.heap.size→wv2=wv1.alloc (.cells (#[(.slice none 0 0)]) 103)→
  Calls Tryz.prog 99 #[(.pointer d)] wv2 fun e wv3=>
  ∃x13:Value,e= .returned x13∧
  ∃(gf:Nat)(cap:Array Value),x13= .func (.func gf) #[] cap∧aG.elem gf=true∧
  ∀(l dl:Nat)(wv4:World),dl=wv3.heap.size→l=wv3.heap.size+1→Kept (fun k=>k<wv3.heap.size) wv3 wv4→l<wv4.heap.size→wv4.heap[dl]? =some (.deferred (some []))→
  ∃(xs:List (List Value))(X:Nat→Prop)(D J Jr:Nat→World→Prop)(Je:Nat→Nat→World→Prop),
  Iter Tryz.prog gf cap xs X D∧(∀k,X k→k<wv3.heap.size)∧(∀x∈xs,wU [.one (.int .i64),.agg [.int .i64,.int .i64,.int .i64,.int .i64,.bool]] fun vs=>x=vs)∧
  (yb X l J∧yb X l Jr∧∀id,yb X l (Je id))∧D 0 wv4∧J 0 wv4∧
  (∀(i:Nat)(A:World),J i A→D i A→∀(x14:Int)(x15a:Int)(x15b:Int)(x15c:Int)(x15d:Int)(x15e:Bool),xs[i]? =some [(.int .i64 x14),(.agg #[(.int .i64 x15a),(.int .i64 x15b),(.int .i64 x15c),(.int .i64 x15d),(.bool x15e)])]→
   ∀(gv2:Nat)(wv6:World),gv2=A.heap.size→wv6=A.alloc (.cells (#[(.int .i64 0),(.int .i64 0),(.int .i64 0),(.int .i64 0),(.bool false)]) 99)→
   ay wv6 (Addr.mk gv2 0 none) [(.int .i64 x15a),(.int .i64 x15b),(.int .i64 x15c),(.int .i64 x15d),(.bool x15e)] fun wv7=>
   Kept (fun k=>X k∨k=l) A wv7∧∀wv5,Kept (fun k=>k<wv7.heap.size∧k≠l) wv7 wv5→
   ∃J1:Bool→World→Prop,(
    ∃x17:Int,wv5.cell? (Addr.mk gv 0 none)=some (.int .i64 x17)∧
    split ((x14:Int) !=x17) (
     ∃x21:Int,wv5.cell? ((Addr.mk gv2 0 none).add 0)=some (.int .i64 x21)∧
     split ((x21:Int) !=0) (
      ∃x26:Int,wv5.cell? ((Addr.mk gv2 0 none).add 1)=some (.int .i64 x26)∧
      ∃x27:Int,wv5.cell? (Addr.mk gv 0 none)=some (.int .i64 x27)∧
      J1 ((x26:Int)==x27) wv5) (
      J1 false wv5)) (
     J1 false wv5))∧∀(_gv3:Nat→Value)(x29:Bool),∀wv8,J1 x29 wv8→
   split x29 (
    ∃x30A:Option Addr,∃x30N:Nat,∃x30C:Nat,wv8.cell? (Addr.mk gv1 0 none)=some (.slice x30A x30N x30C)∧
    ∀(gv4:Nat)(wv9:World),gv4=wv8.heap.size→wv9=wv8.alloc (.cells #[(.int .i64 x14)] 3)→
    ∃x33A:Option Addr,∃x33N:Nat,∃x33C:Nat,∃wv10,(Builtin.append_ #[103,103] 103 #[(.slice x30A x30N x30C),(.slice (some (Addr.mk gv4 0 none)) 1 1)]:Sem Value).run Tryz.prog wv9= .ok (.slice x33A x33N x33C) wv10∧
    ay wv10 (Addr.mk gv1 0 none) [(.slice x33A x33N x33C)] fun wv11=>
    Kept (fun k=>X k∨k=l) wv5 wv11∧J (i+1) wv11) (
    Kept (fun k=>X k∨k=l) wv5 wv8∧J (i+1) wv8))∧
  (∀W,J xs.length W→D xs.length W→
   ∃x34A:Option Addr,∃x34N:Nat,∃x34C:Nat,W.cell? (Addr.mk gv1 0 none)=some (.slice x34A x34N x34C)∧
   W.heap[dl]? =some (.deferred (some []))∧
   R (.slice x34A x34N x34C) (W.putObj dl (.deferred none)))∧
  (∀i W,Jr i W→D i W→
   W.heap[dl]? =some (.deferred (some []))∧
   R (.slice none 0 0) (W.putObj dl (.deferred none)))∧True)
def DV:Ann:=(.node none .leaf (.node none .leaf (.node none .leaf (.node none (.node none .leaf (.node none (.node (some ⟨[(14,.one (.int .i64)),(15,.agg [.int .i64,.int .i64,.int .i64,.int .i64,.bool])],[]⟩) .leaf (.node none (.node none (.node (some ⟨[(29,.one (.bool))],[16,17,18,19,20,21,22,23,24,25,26,27,28,29]⟩) .leaf .leaf) .leaf) .leaf)) .leaf)) .leaf))))
theorem DOwned_eq(d:Option Addr)(space:Int)(R:aw)(w:World):tY d space R w=vcF Tryz.prog aG [] Tryz.f51 DV [(.pointer d),(.int .i64 space)] R none w:=by kernel_rfl
theorem vz(d:Option Addr)(space:Int) {R:aw} {w:World}(h:tY d space R w):Calls Tryz.prog 51 #[(.pointer d),(.int .i64 space)] w fun e w'=>∃v,e= .returned v∧R v w':=
 ak Tryz.func51 av aa ((DOwned_eq d space R w).mp h)
end Go.Proofs.YtbjlecpmgocoeaaGreatDoor
end
section
set_option maxRecDepth 10000
set_option maxHeartbeats 1000000
namespace Go.Proofs.YtbjlecpmgocoeaaGreatDoor
open Go Go.RowKit V
open Go.IntKind (i64 u32 u64)
def DB.row(D:DB)(p:Nat):List Value:= [.int .i64 (p:Int),.agg #[.int .i64 (D.ent p).typ,.int .i64 (D.ent p).owner,.int .i64 (D.ent p).refs,.int .i64 (D.ent p).state,.bool (D.ent p).aF]]
def DB.rows(D:DB):List (List Value):=(List.range D.S).map D.row
theorem DB.pW(D:DB):D.rows.length=D.S:=by simp [DB.rows]
theorem DB.vW {D:DB} {i:Nat}(h:i<D.S):D.rows[i]? =some (D.row i):=by simp [DB.rows,h]
theorem DB.GJ {D:DB} {i:Nat} {x:List Value}(h:D.rows[i]? =some x):i<D.S∧x=D.row i:=by
 have:=(List.getElem?_eq_some_iff.1 h).1
 rw [DB.pW]at this
 rw [DB.vW this]at h
 exact⟨this,(Option.some.inj h).symm⟩
def cV.XI(L:cV)(g:Nat):Nat→Prop:=fun k=>L.X k∨k=g
theorem DBP.it {L:cV} {D:DB} {w A:World} {g:Nat}(h:DBP w L D)(k:Kept (L.XI g) w A):DBP A L D:=h.ch (Ch.GV k) fun _ hx hn=>hn (.inl hx)
theorem E6 {L:cV} {D:DB} {w:World}(h:DBP w L D):
 Calls Tryz.prog 99 #[.pointer (some (Addr.mk L.g 0 none))] w fun e w'=>∃v,e= .returned v∧∃g T,v= .func (.func 132) #[] #[.pointer (some (Addr.mk g 0 none))]∧Blk w' g #[.pointer (some (Addr.mk L.g 0 none))] T∧w.heap.size≤g∧Pu w w':=by
 refine rY _ ?_
 refine mkd fun gv wv m=>?_
 exact⟨gv,_,rfl,m.blk,m.lo (Ch.refl (fun _=>False) w),m.pu⟩
theorem JQ {L:cV} {D:DB} {w:World} {g:Nat} {T:TypeId}(h:DBP w L D)(hg:Blk w g #[.pointer (some (Addr.mk L.g 0 none))] T):
 Iter Tryz.prog 132 #[.pointer (some (Addr.mk g 0 none))] D.rows (L.XI g) (fun _ A=>Kept (L.XI g) w A):=by
 have hlt:∀k,L.XI g k→k<w.heap.size:=fun k hk=>hk.elim (h.lt k) (fun e=>e▸hg.lt)
 have h64:=h.S64
 refine Cv hlt fun l J Jx W sJ sJx j0 d0 hy=>?_
 rw [DB.pW]
 have pJ:∀ {i A B},J i A→Pu A B→J i B:=fun a q=>sJ _ _ _ a (q.mono fun _ h=>h.elim)
 have eY:∀ {A B},Kept (L.XI g) w A→Pu A B→Kept (L.XI g) w B:=fun a q=>a.trans (q.eY fun k hk=>Nat.lt_of_lt_of_le (hlt k hk) a.size)
 have ld:∀ {A},Kept (L.XI g) w A→A.cell? (Addr.mk g 0 none)=some (.pointer (some (Addr.mk L.g 0 none))):=fun a=>by rw [a.cell (p:=Addr.mk g 0 none) (.inr rfl)];exact hg.at0 rfl
 refine Calls.mono (P:=Tryz.prog) (nI (.func (.yield l) #[] #[]) (Addr.mk g 0 none) (R:=fun _ B=>(J D.S B∧Kept (L.XI g) w B)∨∃i,Jx i B∧Kept (L.XI g) w B) ?_) (fun e B hh=>by obtain⟨v,h1,h2⟩:=hh;exact⟨⟨v,h1⟩,h2⟩)
 refine⟨_,ld d0,Calls.mono (zZ (h.it d0)) ?_⟩
 rintro e _ ⟨_,rfl,rfl,rfl⟩
 refine⟨_,rfl,?_⟩
 refine⟨fun mz x A=>0≤x∧x≤D.S∧mz=((D.S:Int) - x).toNat∧J x.toNat A∧Kept (L.XI g) w A,⟨_,by omega,by omega,rfl,j0,d0⟩,?_⟩
 rintro mz _ x A ⟨hx0,hx1,rfl,hj,hd⟩
 refine ax (fun c1=>?_) (fun c1=>?_)
 ·refine⟨_,ld hd,Calls.mono (dAt (h.it hd) _ (by simp [DB.has];omega)) ?_⟩
  rintro e A1 ⟨_,rfl,rfl,q1⟩
  refine⟨_,_,_,_,_,rfl,?_⟩
  have hyy:=hy x.toNat _ A1 (DB.vW (by omega)) (pJ hj q1) (eY hd q1)
  simp only [DB.row,show((x.toNat:Nat):Int)=x by omega]at hyy
  refine ub hyy ?_
  rintro e B (⟨rfl,hj2,hk2⟩ | ⟨rfl,hj2,hk2⟩)
  ·refine⟨_,rfl,eD ?_⟩
   refine⟨_,?_,by rw [IntKind.wrap_i64];omega,by rw [IntKind.wrap_i64];omega,rfl,?_,(eY hd q1).trans hk2⟩
   ·rw [IntKind.wrap_i64];omega
   ·rw [ai (by omega),show(x+1).toNat=x.toNat+1 by omega];exact hj2
  ·exact⟨_,rfl,bq (.inr ⟨_,hj2,(eY hd q1).trans hk2⟩)⟩
 ·exact .inl ⟨by rw [show D.S=x.toNat by omega];exact hj,hd⟩
theorem IU {L:cV} {D:DB} {w:World}(h:DBP w L D)(space:Int):
 Calls Tryz.prog 51 #[.pointer (some (Addr.mk L.g 0 none)),.int .i64 space] w fun e w'=>∃v,e= .returned v∧∃Z':Nat→Prop,∃A':Option Addr,∃N' C':Nat,v= .slice A' N' C'∧Own w' Z' 3 A' N' C' (if D.cW space then D.eJ space D.S else [])∧(∀k,Z' k→w.heap.size≤k)∧Pu w w':=by
 refine vz _ _ ?_
 have h64:=h.S64
 refine mkd fun gv wv m=>?_
 refine⟨_,m.blk.at0 rfl,Calls.mono (qF (h.pu m.pu) _) ?_⟩
 rintro e wv1 ⟨_,rfl,rfl,q1⟩
 refine⟨_,rfl,?_⟩
 have b0:=q1.blk m.blk
 have lg:=m.lo (Ch.refl (fun _=>False) w)
 have p1:Pu w wv1:=Ch.pu m.pu q1
 refine aW (fun c1=>?_) (fun c1=>?_)
 ·exact⟨fun _=>False,_,_,_,rfl,by rw [if_neg (by simp [c1])];exact Own.nil,fun k hk=>hk.elim,p1⟩
 refine mkd fun gv1 wv2 m1=>?_
 have b0:=m1.old b0
 have ne:=m1.ne (q1.blk m.blk)
 have p2:Pu w wv2:=Ch.pu p1 m1.pu
 have lg1:=m1.lo p1
 refine Calls.mono (E6 (h.pu p2)) ?_
 rintro e wv3 ⟨_,rfl,g,T,rfl,bg,lgg,q3⟩
 refine⟨_,rfl,_,_,rfl,by kernel_rfl,?_⟩
 intro l dl wv4 hdl hl k4 hl4 hdo
 have b0:=q3.blk b0
 have b1:=q3.blk m1.blk
 have q4:Pu wv3 wv4:=⟨k4.mono fun _ h=>h.1⟩
 have p3:Pu w wv3:=Ch.pu p2 q3
 have p4:Pu w wv4:=Ch.pu p3 q4
 have h4:=h.pu p4
 have bg4:=q4.blk bg
 have glt:=bg.lt
 have g1lt:=(q3.blk m1.blk).lt
 have g0lt:=b0.lt
 have hXlt:∀k,L.XI g k→k<wv3.heap.size:=fun k hk=>hk.elim ((h.pu p3).lt k) (fun e=>e▸glt)
 have nX0:¬L.XI g gv:=fun hx=>hx.elim (fun hx=>absurd (h.lt _ hx) (by omega)) (fun e=>by have:=m1.old (q1.blk m.blk) |>.lt;omega)
 have nX1:¬L.XI g gv1:=fun hx=>hx.elim (fun hx=>absurd (h.lt _ hx) (by omega)) (fun e=>by have:=m1.lt;omega)
 have hw3:=p3.size
 let Zn:Nat→Prop:=fun k=>wv4.heap.size≤k
 let J:Nat→World→Prop:=fun i A=>Ch (L.XI g) w A∧Blk A gv #[.int .i64 space] 3∧(∃ad n c T,Blk A gv1 #[.slice ad n c] T∧Own A Zn 3 ad n c (D.eJ space i))∧A.heap[dl]? =some (.deferred (some []))∧wv4.heap.size≤A.heap.size
 have sJ:yb (L.XI g) l J:=GB fun i A B hj q=>by
  obtain⟨a1,a2,⟨ad,n,c,T2,a3,a4⟩,a5,a6⟩:=hj
  refine⟨a1.call q fun k hk=>hk.elim .inl (fun e=>.inr (by omega)),q.blk a2 (fun hx=>hx.elim nX0 (by omega)),⟨ad,n,c,T2,q.blk a3 (fun hx=>hx.elim nX1 (by omega)),a4.ch q fun k hk hx=>?_⟩,q.obj a5 (fun hx=>hx.elim (fun hx=>absurd (hXlt _ hx) (by omega)) (by omega)),Nat.le_trans a6 q.size⟩
  have hk:wv4.heap.size≤k:=hk
  exact hx.elim (fun hx=>absurd (hXlt _ hx) (by have:=k4.size;omega)) (by omega)
 refine⟨D.rows,L.XI g,_,J,fun _ _=>False,fun _ _ _=>False,JQ h4 bg4,hXlt,?_,⟨sJ,fun _ _ _ h _=>h,fun _ _ _ _ h _=>h⟩,Kept.refl _ _,?_,?_,?_,fun _ _ h _=>h.elim,trivial⟩
 ·intro x hx
  obtain⟨i,hi,rfl⟩:=List.mem_map.1 hx
  exact⟨_,_,_,_,_,_,rfl⟩
 ·exact⟨p4.mono fun _ h=>h.elim,q4.blk b0,⟨_,_,_,_,q4.blk b1,by exact Own.nil⟩,hdo,Nat.le_refl _⟩
 ·rintro i A ⟨a1,a2,⟨ad,n,c,T2,a3,a4⟩,a5,a6⟩ hd x14 xa xb xc xd xe hx
  obtain⟨hi,hx⟩:=DB.GJ hx
  simp only [DB.row,List.cons.injEq,Value.int.injEq,Value.agg.injEq,Value.bool.injEq,Array.mk.injEq,and_true,true_and]at hx
  obtain⟨rfl,rfl,rfl,rfl,rfl,rfl⟩:=hx
  refine mkd fun gv2 wv6 m6=>?_
  refine bE m6.blk (by simp) fun wv7 s7=>?_
  have q6:Pu A wv7:=(show Pu A wv6 from m6.pu).stored s7 (.inr (m6.lo (Ch.refl (fun _=>False) A)))
  have hsz:∀k,L.XI g k∨k=l→k<A.heap.size:=fun k hk=>hk.elim (fun hx=>by have:=hXlt _ hx;have:=k4.size;omega) (by omega)
  refine⟨q6.eY hsz,fun wv5 k5=>?_⟩
  have b2:Blk wv7 gv2 #[.int .i64 (D.ent i).typ,.int .i64 (D.ent i).owner,.int .i64 (D.ent i).refs,.int .i64 (D.ent i).state,.bool (D.ent i).aF] _:=s7.blk
  have q5:Ch (fun k=>k=l) wv7 wv5:=⟨k5⟩
  have n2:=m6.num
  have b2:=q5.blk b2 (by omega)
  have qa:Ch (fun k=>k=l) A wv5:=(q6.mono fun _ h=>h.elim).trans q5
  have b0:=qa.blk a2 (by omega)
  refine⟨fun b B=>b=D.gl space i∧B=wv5,?_,?_⟩
  ·refine⟨_,b0.at0 rfl,bo (fun c2=>?_) (fun c2=>⟨by simp [DB.gl,c2],rfl⟩)⟩
   refine⟨_,b2.at rfl,bo (fun c3=>?_) (fun c3=>⟨by simp [DB.gl,c3],rfl⟩)⟩
   exact⟨_,b2.at rfl,_,b0.at0 rfl,by simp [DB.gl,c2,c3],rfl⟩
  rintro _ b B ⟨rfl,rfl⟩
  have e1:D.eJ space (i+1)=if D.gl space i then D.eJ space i++ [I64.mk i]else D.eJ space i:=by
   have:=D.wk space (p:=(i:Int)) (by omega)
   rwa [ai (by omega),show((i:Int)+1).toNat=i+1 by omega,show((i:Nat):Int).toNat=i by omega]at this
  have hj5:Ch (L.XI g) w B∧Blk B gv #[.int .i64 space] 3∧(∃T,Blk B gv1 #[.slice ad n c] T)∧Own B Zn 3 ad n c (D.eJ space i)∧B.heap[dl]? =some (.deferred (some []))∧wv4.heap.size≤B.heap.size:=
   ⟨a1.call qa fun k e=>.inr (by omega),b0,⟨_,qa.blk a3 (by omega)⟩,a4.ch qa (fun k (hk:wv4.heap.size≤k) e=>by omega),qa.obj a5 (by omega),Nat.le_trans a6 qa.size⟩
  obtain⟨c1,c2,⟨T3,c3⟩,c4,c5,c6⟩:=hj5
  cases hb:D.gl space i
  ·refine eD ⟨Kept.refl _ _,c1,c2,⟨_,_,_,_,c3,by rw [e1,hb];exact c4⟩,c5,c6⟩
  ·refine bq ?_
   refine⟨_,_,_,c3.at0 rfl,?_⟩
   refine mkd fun gv4 wv9 m9=>?_
   have hlen:=(c4.pu m9.pu).len
   have hol:=D.zz space i
   refine(c4.pu m9.pu).app Ij m9.blk (x:=I64.mk i) (by rfl) (by omega) (by omega) (by exact Nat.le_trans c6 m9.pu.size) (fun A9 c9 wv10 o9 q9=>?_)
   have c3:=q9.blk (m9.old c3) (fun hx=>absurd c3.lt (by have hx:wv4.heap.size≤gv1:=hx;omega))
   refine bE c3 (by simp) fun wv11 s11=>?_
   have hZ1:∀k,Zn k→k≠gv1:=fun k (hk:wv4.heap.size≤k) e=>by omega
   have q11:Ch (fun k=>wv4.heap.size≤k∨k=gv1) B wv11:=((show Ch _ B wv9 from m9.pu.mono fun _ h=>h.elim).call q9 fun k hk=>.inl (.inl hk)).call s11.ch fun k e=>.inl (.inr e)
   refine⟨q11.kept.mono fun k hk=>⟨hk.elim (fun hx=>by have:=hXlt _ hx;have:=k4.size;omega) (by omega),fun h=>hk.elim (fun hx=>h.elim (fun h=>absurd (hXlt _ hx) (by have:=k4.size;omega)) (fun e=>nX1 (e▸hx))) (fun e=>h.elim (by omega) (by omega))⟩,?_⟩
   refine⟨c1.call q11 fun k hk=>.inr (hk.elim (fun h=>Nat.le_trans p4.size h) (fun e=>by omega)),q11.blk c2 (fun h=>h.elim (by omega) (fun e=>ne e)),⟨_,_,_,_,s11.blk,by rw [e1,hb];exact o9.ch s11.ch fun k hk e=>hZ1 k hk e⟩,q11.obj c5 (fun h=>h.elim (by omega) (by omega)),Nat.le_trans c6 q11.size⟩
 ·rintro W ⟨a1,a2,⟨ad,n,c,T2,a3,a4⟩,a5,a6⟩ hd
  refine⟨_,_,_,a3.at0 rfl,a5,Zn,_,_,_,rfl,?_,fun k (hk:wv4.heap.size≤k)=>Nat.le_trans p4.size hk,?_⟩
  ·rw [if_pos c1]
   rw [DB.pW]at a4
   exact a4.ch (Pu.put W dl _ (fun k=>k=dl) rfl) fun k (hk:wv4.heap.size≤k) e=>by omega
  ·exact(Pu.join p4 hd a1).call (Pu.put W dl _ (fun k=>k=dl) rfl) fun k e=>.inr (by omega)
end Go.Proofs.YtbjlecpmgocoeaaGreatDoor
end
section
set_option maxRecDepth 100000
set_option maxHeartbeats 1000000
namespace Go.Proofs.YtbjlecpmgocoeaaGreatDoor
open Go Go.RowKit V
open Go.IntKind (i64 u32 u64)
open Go.Proofs (Tryz.prog)
attribute [local grind=] Pd.cP Pd.bM Pd.jl Pd.jG Pd.dq Pd.cx Pd.eK Pd.gj Pd.lM
attribute [local grind .] Pd.Ok.ent
attribute [local grind→] Pd.Ok.cH
def AH:Ctr Un:=⟨[.one (.obj 0 0),.agg [.bool,.int .i64]],[],[.ob 0 []],[],fun fa fb rm m K=>K ⟨(.bool (m.has fa fb)),none,[],[],[]⟩⟩
theorem Jk:LV Un Tryz.prog 109 AH:=by
 show ∀(fa:Bool)(fb:Int)(rm:Nat→Nat)(m:Mem),∀Q:Ou Un→Prop,(Q ⟨(.bool (m.has fa fb)),none,[],[],[]⟩)→∀(X:Nat→Nat→Prop)(w:World),Sat (U:=Un) [(.ob 0 rm m)] X w→aD (U:=Un) [(.ob 0 rm m)] fr0 []→Calls Tryz.prog 109 #[(.pointer (some (Addr.mk (rm 0) 0 none))),(.agg #[(.bool fa),(.int .i64 fb)])] w (aP (U:=Un) [(.ob 0 rm m)] [] X w Q)
 intro fa fb rm m Q hQ X w hs hl
 obtain⟨L,hg,hM,hX⟩:=wF hs
 rw [hg]
 refine(Kj hM fa fb).mono ?_
 rintro e w' ⟨u,rfl,rfl,q⟩
 exact aP.pu hs q hQ trivial
def vo:Ctr Un:=⟨[.one (.obj 0 0),.agg [.bool,.int .i64],.one (.int .i64)],[],[.ob 0 []],[],fun fa fb off rm m K=>K ⟨(.int .u32 (m.iM fa fb off)),none,[],[],[]⟩⟩
theorem BR:LV Un Tryz.prog 98 vo:=by
 show ∀(fa:Bool)(fb:Int)(off:Int)(rm:Nat→Nat)(m:Mem),∀Q:Ou Un→Prop,(Q ⟨(.int .u32 (m.iM fa fb off)),none,[],[],[]⟩)→∀(X:Nat→Nat→Prop)(w:World),Sat (U:=Un) [(.ob 0 rm m)] X w→aD (U:=Un) [(.ob 0 rm m)] fr0 []→Calls Tryz.prog 98 #[(.pointer (some (Addr.mk (rm 0) 0 none))),(.agg #[(.bool fa),(.int .i64 fb)]),(.int .i64 off)] w (aP (U:=Un) [(.ob 0 rm m)] [] X w Q)
 intro fa fb off rm m Q hQ X w hs hl
 obtain⟨L,hg,hM,hX⟩:=wF hs
 rw [hg]
 refine(JH hM fa fb off).mono ?_
 rintro e w' ⟨u,rfl,rfl,q⟩
 exact aP.pu hs q hQ trivial
def Gc:Ctr Un:=⟨[.one (.obj 0 0)],[],[.ob 0 []],[],fun rm m K=>K ⟨(.int .i64 m.fl),none,[],[],[]⟩⟩
theorem Gb:LV Un Tryz.prog 16 Gc:=by
 show ∀(rm:Nat→Nat)(m:Mem),∀Q:Ou Un→Prop,(Q ⟨(.int .i64 m.fl),none,[],[],[]⟩)→∀(X:Nat→Nat→Prop)(w:World),Sat (U:=Un) [(.ob 0 rm m)] X w→aD (U:=Un) [(.ob 0 rm m)] fr0 []→Calls Tryz.prog 16 #[(.pointer (some (Addr.mk (rm 0) 0 none)))] w (aP (U:=Un) [(.ob 0 rm m)] [] X w Q)
 intro rm m Q hQ X w hs hl
 obtain⟨L,hg,hM,hX⟩:=wF hs
 rw [hg]
 refine(ID hM).mono ?_
 rintro e w' ⟨u,rfl,rfl,q⟩
 subst q
 exact aP.pu hs (Ch.refl _ _) hQ trivial
def rG:Ctr Un:=⟨[.one (.obj 0 0),.agg [.bool,.int .i64],.one (.int .i64),.one (.int .u32)],[],[.ob 0 []],[0],fun fa fb off v rm m K=>(0≤(v:Int)∧(v:Int)<4294967296)∧K ⟨(.int .i64 (m.err fa fb off)),none,[.ob 0 (m.write fa fb off v)],[],[]⟩⟩
theorem F6:LV Un Tryz.prog 23 rG:=by
 show ∀(fa:Bool)(fb:Int)(off:Int)(v:Int)(rm:Nat→Nat)(m:Mem),∀Q:Ou Un→Prop,((0≤(v:Int)∧(v:Int)<4294967296)∧Q ⟨(.int .i64 (m.err fa fb off)),none,[.ob 0 (m.write fa fb off v)],[],[]⟩)→∀(X:Nat→Nat→Prop)(w:World),Sat (U:=Un) [(.ob 0 rm m)] X w→aD (U:=Un) [(.ob 0 rm m)] fr0 []→Calls Tryz.prog 23 #[(.pointer (some (Addr.mk (rm 0) 0 none))),(.agg #[(.bool fa),(.int .i64 fb)]),(.int .i64 off),(.int .u32 v)] w (aP (U:=Un) [(.ob 0 rm m)] [0] X w Q)
 intro fa fb off v rm m Q hQ X w hs hl
 obtain⟨hp0,hQ⟩:=hQ
 obtain⟨L,hg,hM,hX⟩:=wF hs
 rw [hg]
 refine(EG hM fa fb off v hp0).mono ?_
 rintro e w' ⟨u,rfl,rfl,h2,q⟩
 exact aP.one (Z:=X 0) (q.mono fun k hk=>(hX k).1 hk) (show bn 0 rm _ (X 0) w' from⟨L,hg,hX,h2⟩) (fun k hk=>.inl hk) hQ trivial
def ek:Ctr Un:=⟨[.one (.obj 0 0)],[],[.ob 1 [(1,1,0)],.ob 0 []],[],fun r E rm m K=>K ⟨(.pointer (some (Addr.mk (r 1) 0 none))),(some (.p (.obj 1 0 0))),[],[],[]⟩⟩
def DX(r:Nat→Nat)(E:Pd)(rm:Nat→Nat)(m:Mem)(Q:Ou Un→Prop):Prop:=
 Pd.Ok E→
 Mem.Wf m→
 Q ⟨(.pointer (some (Addr.mk (r 1) 0 none))),(some (.p (.obj 1 0 0))),[],[],[]⟩
theorem DY:Vc2 Un Tryz.prog (bd []) [] Tryz.f54 .leaf [] ek=(∀r (E:Pd) rm (m:Mem),∀Q,(ek.body r E rm m Q)→DX r E rm m Q):=by kernel_rfl
theorem nG:LV Un Tryz.prog 54 ek:=verify Tryz.func54 aa (tb:= []) trivial (by kernel_rfl) (DY.mpr fun r E rm m Q h=>fun f1 f2=>h)
def jb:Ctr Un:=⟨[.one (.obj 0 0)],[],[.ob 1 []],[],fun r E K=>K ⟨(.int .i64 E.aB),none,[],[],[]⟩⟩
def D4(r:Nat→Nat)(E:Pd)(Q:Ou Un→Prop):Prop:=
 Pd.Ok E→
 Q ⟨(.int .i64 (Pd.aB E)),none,[],[],[]⟩
theorem D5:Vc2 Un Tryz.prog (bd []) [] Tryz.f102 .leaf [] jb=(∀r (E:Pd),∀Q,(jb.body r E Q)→D4 r E Q):=by kernel_rfl
theorem D3:LV Un Tryz.prog 102 jb:=verify Tryz.func102 aa (tb:= []) trivial (by kernel_rfl) (D5.mpr fun r E Q h=>fun f1=>eO h (by omega))
def rS:Ctr Un:=⟨[.one (.obj 0 0)],[],[.ob 1 [(1,1,0)],.ob 0 []],[],fun r E rm m K=>E.n=m.S∧K ⟨(.int .i64 ((E.on m).S:Int)),none,[],[],[]⟩⟩
theorem yY:LV Un Tryz.prog 18 rS:=by
 show ∀(r:Nat→Nat)(E:Pd)(rm:Nat→Nat)(m:Mem),∀Q:Ou Un→Prop,(E.n=m.S∧Q ⟨(.int .i64 ((E.on m).S:Int)),none,[],[],[]⟩)→∀(X:Nat→Nat→Prop)(w:World),Sat (U:=Un) [(.ob 1 r E),(.ob 0 rm m)] X w→aD (U:=Un) [(.ob 1 r E),(.ob 0 rm m)] fr0 [(.l 0 1,.p (.obj 1 0 0))]→Calls Tryz.prog 18 #[(.pointer (some (Addr.mk (r 0) 0 none)))] w (aP (U:=Un) [(.ob 1 r E),(.ob 0 rm m)] [] X w Q)
 intro r E rm m Q hQ X w hs hl
 obtain⟨hn,hQ⟩:=hQ
 obtain⟨a,L,hg,hr,hD,hX0,hX1⟩:=qb hs hl hn
 refine(zZ hD).mono ?_
 rintro e w' ⟨u,rfl,rfl,rfl⟩
 exact aP.pu hs (Ch.refl _ _) hQ trivial
def rW:Ctr Un:=⟨[.one (.obj 0 0),.one (.int .i64)],[],[.ob 1 [(1,1,0)],.ob 0 []],[],fun p r E rm m K=>E.n=m.S∧K ⟨(.tuple #[(.agg #[(.int .i64 (((E.on m).entry p).typ)),(.int .i64 (((E.on m).entry p).owner)),(.int .i64 (((E.on m).entry p).refs)),(.int .i64 (((E.on m).entry p).state)),(.bool (((E.on m).entry p).aF))]),(.int .i64 ((E.on m).cQ p))]),(some (.t [none,none])),[],[],[]⟩⟩
theorem zb:LV Un Tryz.prog 49 rW:=by
 show ∀(p:Int)(r:Nat→Nat)(E:Pd)(rm:Nat→Nat)(m:Mem),∀Q:Ou Un→Prop,(E.n=m.S∧Q ⟨(.tuple #[(.agg #[(.int .i64 (((E.on m).entry p).typ)),(.int .i64 (((E.on m).entry p).owner)),(.int .i64 (((E.on m).entry p).refs)),(.int .i64 (((E.on m).entry p).state)),(.bool (((E.on m).entry p).aF))]),(.int .i64 ((E.on m).cQ p))]),(some (.t [none,none])),[],[],[]⟩)→∀(X:Nat→Nat→Prop)(w:World),Sat (U:=Un) [(.ob 1 r E),(.ob 0 rm m)] X w→aD (U:=Un) [(.ob 1 r E),(.ob 0 rm m)] fr0 [(.l 0 1,.p (.obj 1 0 0))]→Calls Tryz.prog 49 #[(.pointer (some (Addr.mk (r 0) 0 none))),(.int .i64 p)] w (aP (U:=Un) [(.ob 1 r E),(.ob 0 rm m)] [] X w Q)
 intro p r E rm m Q hQ X w hs hl
 obtain⟨hn,hQ⟩:=hQ
 obtain⟨a,L,hg,hr,hD,hX0,hX1⟩:=qb hs hl hn
 refine(IV hD p).mono ?_
 rintro e w' ⟨u,rfl,rfl,q⟩
 exact aP.pu hs q hQ (KnO.tup _ (by simp))
def jB:Ctr Un:=⟨[.one (.obj 0 0),.one (.int .i64),.one (.int .i64)],[],[.ob 1 [(1,1,0)],.ob 0 []],[0,1],fun p q r E rm m K=>E.n=m.S∧K ⟨(.int .i64 ((E.on m).aV p q)),none,[.ob 1 (((E.on m).aQ p q).pd),.ob 0 (((E.on m).aQ p q).mem)],[],[]⟩⟩
theorem vx:LV Un Tryz.prog 32 jB:=by
 show ∀(p:Int)(q:Int)(r:Nat→Nat)(E:Pd)(rm:Nat→Nat)(m:Mem),∀Q:Ou Un→Prop,(E.n=m.S∧Q ⟨(.int .i64 ((E.on m).aV p q)),none,[.ob 1 (((E.on m).aQ p q).pd),.ob 0 (((E.on m).aQ p q).mem)],[],[]⟩)→∀(X:Nat→Nat→Prop)(w:World),Sat (U:=Un) [(.ob 1 r E),(.ob 0 rm m)] X w→aD (U:=Un) [(.ob 1 r E),(.ob 0 rm m)] fr0 [(.l 0 1,.p (.obj 1 0 0))]→Calls Tryz.prog 32 #[(.pointer (some (Addr.mk (r 0) 0 none))),(.int .i64 p),(.int .i64 q)] w (aP (U:=Un) [(.ob 1 r E),(.ob 0 rm m)] [0,1] X w Q)
 intro p q r E rm m Q hQ X w hs hl
 obtain⟨hn,hQ⟩:=hQ
 obtain⟨a,L,hg,hr,hD,hX0,hX1⟩:=qb hs hl hn
 refine(zY hD p q).mono ?_
 rintro e w' ⟨u,rfl,rfl,h2,q⟩
 exact sQ hs hX0 hX1 hg hr h2 q hQ trivial
def vw:Ctr Un:=⟨[.one (.obj 0 0),.one (.int .i64),.one (.int .i64),.one (.int .i64)],[],[.ob 1 [(1,1,0)],.ob 0 []],[0,1],fun p t o r E rm m K=>E.n=m.S∧K ⟨(.int .i64 ((E.on m).cu p t o)),none,[.ob 1 (((E.on m).take p t o).pd),.ob 0 (((E.on m).take p t o).mem)],[],[]⟩⟩
theorem HI:LV Un Tryz.prog 34 vw:=by
 show ∀(p:Int)(t:Int)(o:Int)(r:Nat→Nat)(E:Pd)(rm:Nat→Nat)(m:Mem),∀Q:Ou Un→Prop,(E.n=m.S∧Q ⟨(.int .i64 ((E.on m).cu p t o)),none,[.ob 1 (((E.on m).take p t o).pd),.ob 0 (((E.on m).take p t o).mem)],[],[]⟩)→∀(X:Nat→Nat→Prop)(w:World),Sat (U:=Un) [(.ob 1 r E),(.ob 0 rm m)] X w→aD (U:=Un) [(.ob 1 r E),(.ob 0 rm m)] fr0 [(.l 0 1,.p (.obj 1 0 0))]→Calls Tryz.prog 34 #[(.pointer (some (Addr.mk (r 0) 0 none))),(.int .i64 p),(.int .i64 t),(.int .i64 o)] w (aP (U:=Un) [(.ob 1 r E),(.ob 0 rm m)] [0,1] X w Q)
 intro p t o r E rm m Q hQ X w hs hl
 obtain⟨hn,hQ⟩:=hQ
 obtain⟨a,L,hg,hr,hD,hX0,hX1⟩:=qb hs hl hn
 refine(JO hD p t o).mono ?_
 rintro e w' ⟨u,rfl,rfl,h2,q⟩
 exact sQ hs hX0 hX1 hg hr h2 q hQ trivial
def vv:Ctr Un:=⟨[.one (.obj 0 0),.one (.int .i64),.one (.int .i64)],[],[.ob 1 [(1,1,0)],.ob 0 []],[0,1],fun p t r E rm m K=>E.n=m.S∧K ⟨(.int .i64 ((E.on m).dE p t)),none,[.ob 1 (((E.on m).ig p t).pd),.ob 0 (((E.on m).ig p t).mem)],[],[]⟩⟩
theorem HH:LV Un Tryz.prog 36 vv:=by
 show ∀(p:Int)(t:Int)(r:Nat→Nat)(E:Pd)(rm:Nat→Nat)(m:Mem),∀Q:Ou Un→Prop,(E.n=m.S∧Q ⟨(.int .i64 ((E.on m).dE p t)),none,[.ob 1 (((E.on m).ig p t).pd),.ob 0 (((E.on m).ig p t).mem)],[],[]⟩)→∀(X:Nat→Nat→Prop)(w:World),Sat (U:=Un) [(.ob 1 r E),(.ob 0 rm m)] X w→aD (U:=Un) [(.ob 1 r E),(.ob 0 rm m)] fr0 [(.l 0 1,.p (.obj 1 0 0))]→Calls Tryz.prog 36 #[(.pointer (some (Addr.mk (r 0) 0 none))),(.int .i64 p),(.int .i64 t)] w (aP (U:=Un) [(.ob 1 r E),(.ob 0 rm m)] [0,1] X w Q)
 intro p t r E rm m Q hQ X w hs hl
 obtain⟨hn,hQ⟩:=hQ
 obtain⟨a,L,hg,hr,hD,hX0,hX1⟩:=qb hs hl hn
 refine(JN hD p t).mono ?_
 rintro e w' ⟨u,rfl,rfl,h2,q⟩
 exact sQ hs hX0 hX1 hg hr h2 q hQ trivial
def vB:Ctr Un:=⟨[.one (.obj 0 0),.one (.int .i64)],[],[.ob 1 [(1,1,0)],.ob 0 []],[0,1],fun p r E rm m K=>E.n=m.S∧K ⟨(.int .i64 ((E.on m).cv p)),none,[.ob 1 (((E.on m).eZ p).pd),.ob 0 (((E.on m).eZ p).mem)],[],[]⟩⟩
theorem HN:LV Un Tryz.prog 38 vB:=by
 show ∀(p:Int)(r:Nat→Nat)(E:Pd)(rm:Nat→Nat)(m:Mem),∀Q:Ou Un→Prop,(E.n=m.S∧Q ⟨(.int .i64 ((E.on m).cv p)),none,[.ob 1 (((E.on m).eZ p).pd),.ob 0 (((E.on m).eZ p).mem)],[],[]⟩)→∀(X:Nat→Nat→Prop)(w:World),Sat (U:=Un) [(.ob 1 r E),(.ob 0 rm m)] X w→aD (U:=Un) [(.ob 1 r E),(.ob 0 rm m)] fr0 [(.l 0 1,.p (.obj 1 0 0))]→Calls Tryz.prog 38 #[(.pointer (some (Addr.mk (r 0) 0 none))),(.int .i64 p)] w (aP (U:=Un) [(.ob 1 r E),(.ob 0 rm m)] [0,1] X w Q)
 intro p r E rm m Q hQ X w hs hl
 obtain⟨hn,hQ⟩:=hQ
 obtain⟨a,L,hg,hr,hD,hX0,hX1⟩:=qb hs hl hn
 refine(JS hD p).mono ?_
 rintro e w' ⟨u,rfl,rfl,h2,q⟩
 exact sQ hs hX0 hX1 hg hr h2 q hQ trivial
def kb:Ctr Un:=⟨[.one (.obj 0 0),.one (.int .i64),.one (.int .i64)],[],[.ob 1 [(1,1,0)],.ob 0 []],[0,1],fun p t r E rm m K=>E.n=m.S∧K ⟨(.int .i64 ((E.on m).bB p t)),none,[.ob 1 (((E.on m).setState p t).pd),.ob 0 (((E.on m).setState p t).mem)],[],[]⟩⟩
theorem yV:LV Un Tryz.prog 40 kb:=by
 show ∀(p:Int)(t:Int)(r:Nat→Nat)(E:Pd)(rm:Nat→Nat)(m:Mem),∀Q:Ou Un→Prop,(E.n=m.S∧Q ⟨(.int .i64 ((E.on m).bB p t)),none,[.ob 1 (((E.on m).setState p t).pd),.ob 0 (((E.on m).setState p t).mem)],[],[]⟩)→∀(X:Nat→Nat→Prop)(w:World),Sat (U:=Un) [(.ob 1 r E),(.ob 0 rm m)] X w→aD (U:=Un) [(.ob 1 r E),(.ob 0 rm m)] fr0 [(.l 0 1,.p (.obj 1 0 0))]→Calls Tryz.prog 40 #[(.pointer (some (Addr.mk (r 0) 0 none))),(.int .i64 p),(.int .i64 t)] w (aP (U:=Un) [(.ob 1 r E),(.ob 0 rm m)] [0,1] X w Q)
 intro p t r E rm m Q hQ X w hs hl
 obtain⟨hn,hQ⟩:=hQ
 obtain⟨a,L,hg,hr,hD,hX0,hX1⟩:=qb hs hl hn
 refine(CB hD p t).mono ?_
 rintro e w' ⟨u,rfl,rfl,h2,q⟩
 exact sQ hs hX0 hX1 hg hr h2 q hQ trivial
def iD:Ctr Un:=⟨[.one (.obj 0 0),.one (.int .i64),.one (.bool)],[],[.ob 1 [(1,1,0)],.ob 0 []],[0,1],fun p b r E rm m K=>E.n=m.S∧K ⟨(.int .i64 ((E.on m).br p)),none,[.ob 1 (((E.on m).bj p b).pd),.ob 0 (((E.on m).bj p b).mem)],[],[]⟩⟩
theorem sx:LV Un Tryz.prog 42 iD:=by
 show ∀(p:Int)(b:Bool)(r:Nat→Nat)(E:Pd)(rm:Nat→Nat)(m:Mem),∀Q:Ou Un→Prop,(E.n=m.S∧Q ⟨(.int .i64 ((E.on m).br p)),none,[.ob 1 (((E.on m).bj p b).pd),.ob 0 (((E.on m).bj p b).mem)],[],[]⟩)→∀(X:Nat→Nat→Prop)(w:World),Sat (U:=Un) [(.ob 1 r E),(.ob 0 rm m)] X w→aD (U:=Un) [(.ob 1 r E),(.ob 0 rm m)] fr0 [(.l 0 1,.p (.obj 1 0 0))]→Calls Tryz.prog 42 #[(.pointer (some (Addr.mk (r 0) 0 none))),(.int .i64 p),(.bool b)] w (aP (U:=Un) [(.ob 1 r E),(.ob 0 rm m)] [0,1] X w Q)
 intro p b r E rm m Q hQ X w hs hl
 obtain⟨hn,hQ⟩:=hQ
 obtain⟨a,L,hg,hr,hD,hX0,hX1⟩:=qb hs hl hn
 refine(xi hD p b).mono ?_
 rintro e w' ⟨u,rfl,rfl,h2,q⟩
 exact sQ hs hX0 hX1 hg hr h2 q hQ trivial
def rT:Ctr Un:=⟨[.one (.obj 0 0),.one (.int .i64)],[],[.ob 1 [(1,1,0)],.ob 0 []],[],fun s r E rm m K=>E.n=m.S∧∀(A:Option Addr)(c:Nat),K ⟨(.slice A ((own (E.on m) s).length) c),(some (.p (.sl 2 0))),[],[(.lst 0 true 3 A c (own (E.on m) s))],[]⟩⟩
theorem yZ:LV Un Tryz.prog 51 rT:=by
 show ∀(s:Int)(r:Nat→Nat)(E:Pd)(rm:Nat→Nat)(m:Mem),∀Q:Ou Un→Prop,(E.n=m.S∧∀(A:Option Addr)(c:Nat),Q ⟨(.slice A ((own (E.on m) s).length) c),(some (.p (.sl 2 0))),[],[(.lst 0 true 3 A c (own (E.on m) s))],[]⟩)→∀(X:Nat→Nat→Prop)(w:World),Sat (U:=Un) [(.ob 1 r E),(.ob 0 rm m)] X w→aD (U:=Un) [(.ob 1 r E),(.ob 0 rm m)] fr0 [(.l 0 1,.p (.obj 1 0 0))]→Calls Tryz.prog 51 #[(.pointer (some (Addr.mk (r 0) 0 none))),(.int .i64 s)] w (aP (U:=Un) [(.ob 1 r E),(.ob 0 rm m)] [] X w Q)
 intro s r E rm m Q hQ X w hs hl
 obtain⟨hn,hQ⟩:=hQ
 obtain⟨a,L,hg,hr,hD,hX0,hX1⟩:=qb hs hl hn
 refine(IU hD s).mono ?_
 rintro e w' ⟨u,rfl,Z',A',N',C',rfl,ho,hz,q⟩
 have hl2:=ho.len
 subst hl2
 exact aP.more hs q (ux (U:=Un) (t:=0) ho) (fun k hk=>hz k hk.1) (hQ _ _) rfl
def ve:Ctr Un:=⟨[.one (.sl 0)],[],[.lst 1 false 22],[],fun A c l K=>((∀x∈l,0≤x.v∧x.v<4294967296))∧∀(dp:Value),K ⟨(.tuple #[dp,(.int .i64 (Dg.aJ l))]),(some (.t [none,none])),[],[],[]⟩⟩
theorem Hx:LV Un Tryz.prog 103 ve:=by
 show ∀(A:Option Addr)(c:Nat)(l:List U32),∀Q:Ou Un→Prop,(((∀x∈l,0≤x.v∧x.v<4294967296))∧∀(dp:Value),Q ⟨(.tuple #[dp,(.int .i64 (Dg.aJ l))]),(some (.t [none,none])),[],[],[]⟩)→∀(X:Nat→Nat→Prop)(w:World),Sat (U:=Un) [(.lst 1 false 22 A c l)] X w→aD (U:=Un) [(.lst 1 false 22 A c l)] fr0 []→Calls Tryz.prog 103 #[(.slice A l.length c)] w (aP (U:=Un) [(.lst 1 false 22 A c l)] [] X w Q)
 intro A c l Q hQ X w hs hl
 obtain⟨hw,hQ⟩:=hQ
 have hr:Rd w (X 0) A l.length c l:=hs.res 0 _ rfl
 refine(Jv hr hw).mono ?_
 rintro e w' ⟨u,rfl,p,rfl,_,q⟩
 exact aP.pu hs q (hQ _) (KnO.tup _ (by simp))
end Go.Proofs.YtbjlecpmgocoeaaGreatDoor
end
section
set_option maxRecDepth 100000
set_option maxHeartbeats 1000000
namespace Go.Proofs.YtbjlecpmgocoeaaGreatDoor
open Go Go.RowKit V
open Go.IntKind (i64 u32 u64)
open Go.Proofs (Tryz.prog)
attribute [local grind=] Pd.cP Pd.bM Pd.jl Pd.jG Pd.dq Pd.cx Pd.eK Pd.gj Pd.lM Pd.oF
attribute [local grind .] Pd.Ok.ent
attribute [local grind→] Pd.Ok.cH
def jx:Ctr Un:=⟨[.one (.obj 0 0)],[],[.ob 1 [(1,1,0)],.ob 0 []],[],fun r E rm m K=>E.n=m.S∧∀(g:Nat)(A:Option Addr)(c:Nat),K ⟨(.pointer (some (Addr.mk g 0 none))),(some (.p (.loc 2 0))),[],[(.blk g [(.pointer (some (Addr.mk (r 0) 0 none))),(.slice A E.aj.length c)] 58),(.lst 4 true 99 A c E.aj)],[(.c 2 0,.p (.obj 0 0 0)),(.c 2 1,.p (.sl 3 0))]⟩⟩
def Hq(r:Nat→Nat)(E:Pd)(rm:Nat→Nat)(m:Mem)(Q:Ou Un→Prop):Prop:=
 Pd.Ok E→
 Mem.Wf m→
 (some (.pointer (some (Addr.mk (r 0) 0 none))):Option Value)=some (.pointer (some (Addr.mk (r 0) 0 none)))∧
 ∀(gv:Nat),
 E.n=m.S∧
 ∃I:Nat→Int→Option Addr→Nat→List Ent→Prop,(∃m1,I m1 0 none 0 ([]:List Ent))∧∀(m1:Nat)(_gv1:Nat→Value)(x12:Int)(A3:Option Addr)(c3:Nat)(l3:List Ent),I m1 x12 A3 c3 l3→
 split (decide (x12<(E.on m).S)) (
  E.n=m.S∧
  ∀(gv2:Nat),
  ∀(gv3:Nat),
  ∀(l:List Ent),l=([Ent.mk (((E.on m).entry x12).typ) (((E.on m).entry x12).owner) (((E.on m).entry x12).refs) (((E.on m).entry x12).state) (((E.on m).entry x12).aF)]:List Ent)→
  ((l3.length+l.length)*40≤140737488355328)∧
  ∀(A:Option Addr)(c:Nat),
  ∀(l1:List Ent),l1=(l3++l)→
  ∃m2,m2<m1∧I m2 (i64.wrap (x12+1)) A c l1) (
  Q ⟨(.pointer (some (Addr.mk gv 0 none))),(some (.p (.loc 2 0))),[],[(.blk gv [(.pointer (some (Addr.mk (r 0) 0 none))),(.slice A3 l3.length c3)] 58),(.lst 4 true 99 A3 c3 l3)],[(.c 2 0,.p (.obj 0 0 0)),(.c 2 1,.p (.sl 3 0))]⟩)
theorem Hr:Vc2 Un Tryz.prog (bd [(18,rS),(49,rW)]) [] Tryz.f21 (.r' (.r' (.two (.r' (.two (.node [(.c 2 1,4,99)] (some ⟨[(12,(.one (.int .i64)))],[],[4,5,6]++upN 12 20,[(2,(.blk [(.k (.obj 0 0 0)),(.k (.sl 3 0))])),(3,(.lst 4))]⟩) [] [] (.r' (.r' (.two (.two (.r' (.r' (.node [] none [] [(4,[2]),(5,[4])] .leaf .leaf))) .leaf) .leaf))) .leaf) .leaf)) .leaf))) [2,3] jx=(∀r (E:Pd) rm (m:Mem),∀Q,(jx.body r E rm m Q)→Hq r E rm m Q):=by kernel_rfl
theorem BM:LV Un Tryz.prog 21 jx:=verify Tryz.func21 aa (tb:= [(18,rS),(49,rW)]) ⟨yY,zb,trivial⟩ (by kernel_rfl) (Hr.mpr fun r E rm m Q h=>by
 obtain⟨hp0,h⟩:=h
 exact fun f1 f2=>ao (by rfl) fun s3=>fun gv=>ao ‹_› fun s4=>⟨fun m1 x12 A3 c3 l3=>(m1=((E.n:Int) - x12).toNat)∧(0≤x12∧x12≤(E.n:Int))∧(l3=E.aj.take x12.toNat),⟨_,rfl,(by omega),(by rfl)⟩,fun m1 _ x12 A3 c3 l3 ⟨hm,hi,hl3⟩=>ax (fun c1=>ao ‹_› fun s5=>fun gv2=>fun gv3=>fun l h_l=>ao (by(have h8:l3.length≤E.n:=by rw [hl3,List.length_take,Pd.cP];omega);rw [h_l];simp;grind) fun s6=>fun A c=>fun l1 h_l1=>⟨_,(by(have h9:=ai (x:=x12+1) (by grind));grind),rfl,(by(have h9:=ai (x:=x12+1) (by grind));grind),(by rw [h_l1,h_l,hl3,ai (x:=x12+1) (by grind),← B5 (E:=E) (by grind)];(have hh:(E.on m).entry x12=E.ent x12.toNat:=by(grind [DB.entry]));rw [hh])⟩) fun c1=>(by(have h7:E.aj=l3:=by rw [hl3,List.take_of_length_le];grind);exact aK (h gv A3 c3) rfl rfl (af (congrArg (fun l=>Res.blk (U:=Un) _ l _) (af rfl (af (by grind) rfl))) (af (congrArg (Res.lst (U:=Un) 4 true 99 _ _) ‹_›) rfl)))⟩)
def cF:Ctr Un:=⟨[.one (.ptr 0),.one (.int .i64),.one (.int .i64)],[],[.blk [.obj 1 0,.sl 3] 58,.ob 1 [(1,2,0)],.ob 0 [],.lst 4 false 99],[],fun p t g r E rm m A c l K=>E.n=m.S∧l=E.aj∧(E.on m).has p=true∧K ⟨(.bool ((E.on m).is p t)),none,[],[],[]⟩⟩
def J5(p:Int)(t:Int)(g:Nat)(r:Nat→Nat)(E:Pd)(rm:Nat→Nat)(m:Mem)(A:Option Addr)(c:Nat)(l:List Ent)(Q:Ou Un→Prop):Prop:=
 Pd.Ok E→
 Mem.Wf m→
 (0≤p∧p<(l.length:Int))∧
 Q ⟨(.bool ((l.getD p.toNat Ent.free).typ==t)),none,[],[],[]⟩
theorem J6:Vc2 Un Tryz.prog (bd []) [] Tryz.f56 .leaf [] cF=(∀p t g r (E:Pd) rm (m:Mem) A c (l:List Ent),∀Q,(E.n=m.S∧l=E.aj∧(E.on m).has p=true∧Q ⟨(.bool ((E.on m).is p t)),none,[],[],[]⟩)→J5 p t g r E rm m A c l Q):=by kernel_rfl
section
attribute [local grind=] DB.is
theorem iy:LV Un Tryz.prog 56 cF:=verify Tryz.func56 aa (tb:= []) trivial (by kernel_rfl) (J6.mpr fun p t g r E rm m A c l Q h=>by
 obtain⟨hp0,hp1,hp2,h⟩:=h
 subst hp1
 exact fun f1 f2=>ao (by grind) fun s3=>aX h (by grind))
end
def fK:Ctr Un:=⟨[.one (.ptr 0),.one (.int .i64)],[],[.blk [.obj 1 0,.sl 3] 58,.ob 1 [(1,2,0)],.ob 0 [],.lst 4 false 99],[],fun p g r E rm m A c l K=>E.n=m.S∧l=E.aj∧(E.on m).has p=true∧K ⟨(.int .i64 ((E.on m).cg p)),none,[],[],[]⟩⟩
def FF(p:Int)(g:Nat)(r:Nat→Nat)(E:Pd)(rm:Nat→Nat)(m:Mem)(A:Option Addr)(c:Nat)(l:List Ent)(Q:Ou Un→Prop):Prop:=
 Pd.Ok E→
 Mem.Wf m→
 (0≤p∧p<(l.length:Int))∧
 ∃J:Bool→Prop,(
  split (decide ((l.getD p.toNat Ent.free).owner<0)) (
   J true) (
   split (decide ((l.getD p.toNat Ent.free).owner≥(l.length:Int))) (
    J true) (
    E.n=m.S∧
    l=E.aj∧
    (E.on m).has ((l.getD p.toNat Ent.free).owner)=true∧
    J (!((E.on m).is ((l.getD p.toNat Ent.free).owner) 1)))))∧∀(_gv:Nat→Value)(x30:Bool),J x30→
 split x30 (
  Q ⟨(.int .i64 (-1)),none,[],[],[]⟩) (
  Q ⟨(.int .i64 ((l.getD p.toNat Ent.free).owner)),none,[],[],[]⟩)
theorem FG:Vc2 Un Tryz.prog (bd [(56,cF)]) [] Tryz.f60 (.r' (.r' (.two (.two (.node [] (some ⟨[(30,(.one .bool))],[],upN 14 17,[]⟩) [] [] .leaf .leaf) .leaf) .leaf))) [] fK=(∀p g r (E:Pd) rm (m:Mem) A c (l:List Ent),∀Q,(E.n=m.S∧l=E.aj∧(E.on m).has p=true∧Q ⟨(.int .i64 ((E.on m).cg p)),none,[],[],[]⟩)→FF p g r E rm m A c l Q):=by kernel_rfl
section
attribute [local grind=] DB.cg DB.is
theorem qW:LV Un Tryz.prog 60 fK:=verify Tryz.func60 aa (tb:= [(56,cF)]) ⟨iy,trivial⟩ (by kernel_rfl) (FG.mpr fun p g r E rm m A c l Q h=>by
 obtain⟨hp0,hp1,hp2,h⟩:=h
 subst hp1
 exact fun f1 f2=>ao (by grind) fun s3=>bw ((decide (((E.aj.getD p.toNat Ent.free).owner:Int)<0)) || ((decide (((E.aj.getD p.toNat Ent.free).owner:Int)≥((E.aj.length:Nat):Int))) || (!((E.on m).is ((E.aj.getD p.toNat Ent.free).owner) 1)))) (ae (fun c1=>(by grind)) fun c1=>ae (fun c2=>(by grind)) fun c2=>ao ‹_› fun s4=>ao (by rfl) fun s5=>ao (by grind) fun s6=>(by grind))<| aS (fun c3=>eO h (by grind)) fun c3=>eO h (by grind))
end
def ez:Ctr Un:=⟨[.one (.ptr 0),.one (.int .i64)],[],[.blk [.obj 1 0,.sl 3] 58,.ob 1 [(1,2,0)],.ob 0 [],.lst 4 false 99],[],fun p g r E rm m A c l K=>E.n=m.S∧l=E.aj∧(E.on m).has p=true∧K ⟨(.bool (if(E.on m).is p 1 then((E.on m).at_ p).state !=3 else(E.on m).alive p)),none,[],[],[]⟩⟩
def FP(p:Int)(g:Nat)(r:Nat→Nat)(E:Pd)(rm:Nat→Nat)(m:Mem)(A:Option Addr)(c:Nat)(l:List Ent)(Q:Ou Un→Prop):Prop:=
 Pd.Ok E→
 Mem.Wf m→
 E.n=m.S∧
 l=E.aj∧
 (E.on m).has p=true∧
 split (!((E.on m).is p 1)) (
  E.n=m.S∧
  l=E.aj∧
  (E.on m).has p=true∧
  ∃J:Bool→Prop,(
   split (decide (((E.on m).cg p)≥0)) (
    (0≤((E.on m).cg p)∧((E.on m).cg p)<(l.length:Int))∧
    J ((l.getD (Int.toNat ((E.on m).cg p)) Ent.free).state !=3)) (
    J false))∧∀(_gv:Nat→Value)(x4:Bool),J x4→
  Q ⟨(.bool x4),none,[],[],[]⟩) (
  ∃J:Bool→Prop,(
   split (decide (p≥0)) (
    (0≤p∧p<(l.length:Int))∧
    J ((l.getD p.toNat Ent.free).state !=3)) (
    J false))∧∀(_gv:Nat→Value)(x4:Bool),J x4→
  Q ⟨(.bool x4),none,[],[],[]⟩)
theorem FQ:Vc2 Un Tryz.prog (bd [(56,cF),(60,fK)]) [] Tryz.f105 (.r' (.r' (.r' (.two (.node [] (some ⟨[(4,(.one .bool))],[],[4]++upN 14 13,[]⟩) [] [] .leaf .leaf) .leaf)))) [] ez=(∀p g r (E:Pd) rm (m:Mem) A c (l:List Ent),∀Q,(E.n=m.S∧l=E.aj∧(E.on m).has p=true∧Q ⟨(.bool (if(E.on m).is p 1 then((E.on m).at_ p).state !=3 else(E.on m).alive p)),none,[],[],[]⟩)→FP p g r E rm m A c l Q):=by kernel_rfl
section
attribute [local grind=] DB.cg DB.is DB.alive
theorem mA:LV Un Tryz.prog 105 ez:=verify Tryz.func105 aa (tb:= [(56,cF),(60,fK)]) ⟨iy,qW,trivial⟩ (by kernel_rfl) (FQ.mpr fun p g r E rm m A c l Q h=>by
 obtain⟨hp0,hp1,hp2,h⟩:=h
 subst hp1
 exact fun f1 f2=>ao ‹_› fun s3=>ao (by rfl) fun s4=>ao ‹_› fun s5=>aW (fun c1=>ao ‹_› fun s6=>ao (by rfl) fun s7=>ao ‹_› fun s8=>bw ((decide ((((E.on m).cg p):Int)≥0)) && (((E.aj.getD (Int.toNat ((E.on m).cg p)) Ent.free).state:Int) !=3)) (ae (fun c2=>ao (by grind) fun s9=>(by grind)) fun c2=>(by grind))<| aX h (by grind)) fun c1=>bw ((decide ((p:Int)≥0)) && (((E.aj.getD p.toNat Ent.free).state:Int) !=3)) (ae (fun c3=>ao (by grind) fun s10=>(by grind)) fun c3=>(by grind))<| aX h (by grind))
end
def cX:Ctr Un:=⟨[.one (.ptr 0),.one (.int .i64),.one (.int .i64)],[],[.blk [.obj 1 0,.sl 3] 58,.ob 1 [(1,2,0)],.ob 0 [],.lst 4 false 99],[],fun p o g r E rm m A c l K=>E.n=m.S∧l=E.aj∧K ⟨(.int .u32 ((E.on m).word p o)),none,[],[],[]⟩⟩
def Hm(p:Int)(o:Int)(g:Nat)(r:Nat→Nat)(E:Pd)(rm:Nat→Nat)(m:Mem)(A:Option Addr)(c:Nat)(l:List Ent)(Q:Ou Un→Prop):Prop:=
 Pd.Ok E→
 Mem.Wf m→
 Q ⟨(.int .u32 (m.iM true p o)),none,[],[],[]⟩
theorem Hn:Vc2 Un Tryz.prog (bd [(54,ek),(98,vo)]) [] Tryz.f101 .leaf [] cX=(∀p o g r (E:Pd) rm (m:Mem) A c (l:List Ent),∀Q,(E.n=m.S∧l=E.aj∧Q ⟨(.int .u32 ((E.on m).word p o)),none,[],[],[]⟩)→Hm p o g r E rm m A c l Q):=by kernel_rfl
section
attribute [local grind=] DB.word
theorem jw:LV Un Tryz.prog 101 cX:=verify Tryz.func101 aa (tb:= [(54,ek),(98,vo)]) ⟨nG,BR,trivial⟩ (by kernel_rfl) (Hn.mpr fun p o g r E rm m A c l Q h=>by
 obtain⟨hp0,hp1,h⟩:=h
 subst hp1
 exact fun f1 f2=>eO h (by grind))
end
def eG:Ctr Un:=⟨[.one (.ptr 0),.one (.int .i64),.one (.int .i64),.one (.int .i64)],[],[.blk [.obj 1 0,.sl 3] 58,.ob 1 [(1,2,0)],.ob 0 [],.lst 4 false 99],[],fun p lo hi g r E rm m A c l K=>E.n=m.S∧l=E.aj∧(0≤(lo:Int)∧(hi:Int)≤1024)∧K ⟨(.bool ((E.on m).zero p lo hi)),none,[],[],[]⟩⟩
def Hk(p:Int)(lo:Int)(hi:Int)(g:Nat)(r:Nat→Nat)(E:Pd)(rm:Nat→Nat)(m:Mem)(A:Option Addr)(c:Nat)(l:List Ent)(Q:Ou Un→Prop):Prop:=
 Pd.Ok E→
 Mem.Wf m→
 ∀off:Int,off=lo→
 ∃I:Nat→Int→Prop,(∃m1,I m1 off)∧∀(m1:Nat)(_gv:Nat→Value)(off1:Int),I m1 off1→
 split (decide (off1<hi)) (
  E.n=m.S∧
  l=E.aj∧
  split (((E.on m).word p off1) !=0) (
   Q ⟨(.bool false),none,[],[],[]⟩) (
   ∀off2:Int,off2=(i64.wrap (off1+1))→
   ∃m2,m2<m1∧I m2 off2)) (
  Q ⟨(.bool true),none,[],[],[]⟩)
theorem Hl:Vc2 Un Tryz.prog (bd [(101,cX)]) [9] Tryz.f58 (.r' (.two (.r' (.two (.node [] (some ⟨[(9,(.one (.int .i64)))],[],[8,9]++upN 11 10,[]⟩) [] [] .leaf .leaf) .leaf)) .leaf)) [] eG=(∀p lo hi g r (E:Pd) rm (m:Mem) A c (l:List Ent),∀Q,(E.n=m.S∧l=E.aj∧(0≤(lo:Int)∧(hi:Int)≤1024)∧Q ⟨(.bool ((E.on m).zero p lo hi)),none,[],[],[]⟩)→Hk p lo hi g r E rm m A c l Q):=by kernel_rfl
section
attribute [local grind=] DB.zero
theorem my:LV Un Tryz.prog 58 eG:=verify Tryz.func58 aa (tb:= [(101,cX)]) ⟨jw,trivial⟩ (by kernel_rfl) (Hl.mpr fun p lo hi g r E rm m A c l Q h=>by
 obtain⟨hp0,hp1,hp2,h⟩:=h
 subst hp1
 exact fun f1 f2=>allEq<| ⟨fun m1 off1=>(m1=(hi - off1).toNat)∧(lo≤off1)∧(fc (fun x=>(E.on m).word p x==0) lo off1=true),⟨_,rfl,(by omega),(gU (Int.le_refl _))⟩,fun m1 _ off1 ⟨hm,hi1,hz⟩=>ax (fun c1=>ao ‹_› fun s3=>ao (by rfl) fun s4=>bo (fun c2=>aX h (by grind [dU])) fun c2=>allEq<| ⟨_,(by(have h9:=ai (x:=off1+1) (by omega));omega),rfl,(by have h9:=ai (x:=off1+1) (by omega);omega),(eh hz (by grind) (ai (by omega)))⟩) fun c1=>aX h (bP.2 fun x a b=>bP.1 hz x a (by omega))⟩)
end
def kx:Ctr Un:=⟨[.one (.ptr 0),.one (.int .i64),.one (.int .i64),.one (.int .i64)],[],[.blk [.obj 1 0,.sl 3] 58,.ob 1 [(1,2,0)],.ob 0 [],.lst 4 false 99],[],fun p lo n g r E rm m A c l K=>E.n=m.S∧l=E.aj∧(0≤(lo:Int)∧(lo:Int)<1024∧0≤(n:Int)∧(n:Int)<1024)∧∀(A1:Option Addr)(c1:Nat),K ⟨(.slice A1 (((E.on m).some_ p lo n.toNat).length) c1),(some (.p (.sl 4 0))),[],[(.lst 1 true 22 A1 c1 ((E.on m).some_ p lo n.toNat))],[]⟩⟩
def Ho(p:Int)(lo:Int)(n:Int)(g:Nat)(r:Nat→Nat)(E:Pd)(rm:Nat→Nat)(m:Mem)(A:Option Addr)(c:Nat)(l:List Ent)(Q:Ou Un→Prop):Prop:=
 Pd.Ok E→
 Mem.Wf m→
 (n=n∧0≤n∧4*n≤281474976710656)∧
 ∀(gv:Nat),
 ∀(l1:List U32),l1=(List.replicate n.toNat (U32.mk 0:U32))→
 ∃I:Nat→Int→Option Addr→Nat→List U32→Prop,(∃m1,I m1 0 (some (Addr.mk gv 0 none)) n.toNat l1)∧∀(m1:Nat)(_gv1:Nat→Value)(x15:Int)(A4:Option Addr)(c4:Nat)(l4:List U32),I m1 x15 A4 c4 l4→
 split (decide (x15<((List.replicate n.toNat (U32.mk 0:U32)).length:Int))) (
  E.n=m.S∧
  l=E.aj∧
  (0≤x15∧x15<(l4.length:Int))∧
  ∀(l2:List U32),l2=(l4.set x15.toNat (U32.mk ((E.on m).word p (i64.wrap (lo+x15)))))→
  ∃m2,m2<m1∧I m2 (i64.wrap (x15+1)) A4 c4 l2) (
  Q ⟨(.slice A4 l4.length c4),(some (.p (.sl 4 0))),[],[(.lst 1 true 22 A4 c4 l4)],[]⟩)
theorem Hp:Vc2 Un Tryz.prog (bd [(101,cX)]) [] Tryz.f104 (.r' (.r' (.two (.r' (.two (.node [] (some ⟨[(15,(.one (.int .i64)))],[(9,(.p (.sl 4 0)))],[10]++upN 15 13,[(4,(.lst 1))]⟩) [] [] .leaf .leaf) .leaf)) .leaf))) [4] kx=(∀p lo n g r (E:Pd) rm (m:Mem) A c (l:List Ent),∀Q,(E.n=m.S∧l=E.aj∧(0≤(lo:Int)∧(lo:Int)<1024∧0≤(n:Int)∧(n:Int)<1024)∧∀(A1:Option Addr)(c1:Nat),Q ⟨(.slice A1 (((E.on m).some_ p lo n.toNat).length) c1),(some (.p (.sl 4 0))),[],[(.lst 1 true 22 A1 c1 ((E.on m).some_ p lo n.toNat))],[]⟩)→Ho p lo n g r E rm m A c l Q):=by kernel_rfl
theorem BL:LV Un Tryz.prog 104 kx:=verify Tryz.func104 aa (tb:= [(101,cX)]) ⟨jw,trivial⟩ (by kernel_rfl) (Hp.mpr fun p lo n g r E rm m A c l Q h=>by
 obtain⟨hp0,hp1,hp2,h⟩:=h
 subst hp1
 exact fun f1 f2=>ao (by omega) fun s3=>fun gv=>fun l1 h_l1=>⟨fun m1 x15 A4 c4 l4=>(m1=(n - x15).toNat)∧(0≤x15∧x15≤n)∧(kL (E.on m) p lo n.toNat x15 l4),⟨_,rfl,(by omega),(by rw [h_l1];exact kL.init _ _ _ _)⟩,fun m1 _ x15 A4 c4 l4 ⟨hm,hi1,hz⟩=>ax (fun c1=>ao ‹_› fun s4=>ao (by rfl) fun s5=>ao (by(grind [kL.len])) fun s6=>fun l2 h_l2=>⟨_,(by(have h9:=ai (x:=x15+1) (by grind));simp at c1;omega),rfl,(by(have h9:=ai (x:=x15+1) (by grind));simp at c1;omega),(by rw [h_l2];exact hz.next hi1.1 (by simp at c1;omega) (by omega))⟩) fun c1=>(by(have h7:(E.on m).some_ p lo n.toNat=l4:=hz.done (by simp at c1;omega));exact aK (h A4 c4) (by grind) rfl (af (congrArg (Res.lst (U:=Un) 1 true 22 _ _) ‹_›) rfl))⟩)
def od:Ctr Un:=⟨[.one (.ptr 0),.one (.int .i64),.one (.int .i64)],[],[.blk [.obj 1 0,.sl 3] 58,.ob 1 [(1,2,0)],.ob 0 [],.lst 4 false 99],[],fun t o g r E rm m A c l K=>E.n=m.S∧l=E.aj∧∀(A1:Option Addr)(c1:Nat),K ⟨(.slice A1 (((E.on m).pgs t o (E.on m).S).length) c1),(some (.p (.sl 4 0))),[],[(.lst 0 true 3 A1 c1 ((E.on m).pgs t o (E.on m).S))],[]⟩⟩
def J0(t:Int)(o:Int)(g:Nat)(r:Nat→Nat)(E:Pd)(rm:Nat→Nat)(m:Mem)(A:Option Addr)(c:Nat)(l:List Ent)(Q:Ou Un→Prop):Prop:=
 Pd.Ok E→
 Mem.Wf m→
 ∃I:Nat→Int→Option Addr→Nat→List I64→Prop,(∃m1,I m1 0 none 0 ([]:List I64))∧∀(m1:Nat)(_gv:Nat→Value)(x15:Int)(A4:Option Addr)(c4:Nat)(l4:List I64),I m1 x15 A4 c4 l4→
 split (decide (x15<(l.length:Int))) (
  (0≤x15∧x15<(l.length:Int))∧
  ∀(gv1:Nat),
  ∃J:Bool→Prop,(
   split ((l.getD x15.toNat Ent.free).typ==t) (
    J ((l.getD x15.toNat Ent.free).owner==o)) (
    J false))∧∀(_gv2:Nat→Value)(x29:Bool),J x29→
  split x29 (
   ∀(gv3:Nat),
   ∀(l1:List I64),l1=([I64.mk x15]:List I64)→
   ((l4.length+l1.length)*8≤140737488355328)∧
   ∀(A1:Option Addr)(c1:Nat),
   ∀(l2:List I64),l2=(l4++l1)→
   ∃m2,m2<m1∧I m2 (i64.wrap (x15+1)) A1 c1 l2) (
   ∃m2,m2<m1∧I m2 (i64.wrap (x15+1)) A4 c4 l4)) (
  Q ⟨(.slice A4 l4.length c4),(some (.p (.sl 4 0))),[],[(.lst 0 true 3 A4 c4 l4)],[]⟩)
theorem J4:Vc2 Un Tryz.prog (bd []) [7] Tryz.f106 (.r' (.r' (.two (.r' (.two (.node [(.s 7,0,3)] (some ⟨[(15,(.one (.int .i64)))],[(7,(.p (.sl 4 0)))],[7,8,9]++upN 15 20,[(4,(.lst 0))]⟩) [] [] (.r' (.r' (.two (.two (.r' (.two (.node [] (some ⟨[(29,(.one .bool))],[],upN 20 10,[]⟩) [] [] .leaf .leaf) .leaf)) .leaf) .leaf))) .leaf) .leaf)) .leaf))) [4] od=(∀t o g r (E:Pd) rm (m:Mem) A c (l:List Ent),∀Q,(E.n=m.S∧l=E.aj∧∀(A1:Option Addr)(c1:Nat),Q ⟨(.slice A1 (((E.on m).pgs t o (E.on m).S).length) c1),(some (.p (.sl 4 0))),[],[(.lst 0 true 3 A1 c1 ((E.on m).pgs t o (E.on m).S))],[]⟩)→J0 t o g r E rm m A c l Q):=by kernel_rfl
theorem FH:LV Un Tryz.prog 106 od:=verify Tryz.func106 aa (tb:= []) trivial (by kernel_rfl) (J4.mpr fun t o g r E rm m A c l Q h=>by
 obtain⟨hp0,hp1,h⟩:=h
 subst hp1
 exact fun f1 f2=>⟨fun m1 x15 A4 c4 l4=>(m1=((E.n:Int) - x15).toNat)∧(0≤x15∧x15≤(E.n:Int))∧(l4=(E.on m).pgs t o x15.toNat),⟨_,rfl,(by omega),(by rfl)⟩,fun m1 _ x15 A4 c4 l4 ⟨hm,hi1,hz⟩=>ax (fun c1=>ao (by omega) fun s3=>fun gv1=>bw ((((E.aj.getD x15.toNat Ent.free).typ:Int)==t) && (((E.aj.getD x15.toNat Ent.free).owner:Int)==o)) (ae (fun c2=>(by grind)) fun c2=>(by grind))<| bQ (fun c3=>fun gv3=>fun l1 h_l1=>ao (by(have h8:=DB.jk (E.on m) t o x15.toNat);rw [h_l1,hz];simp;grind) fun s4=>fun A1 c1=>fun l2 h_l2=>⟨_,(by(have h9:=ai (x:=x15+1) (by grind));grind),rfl,(by(have h9:=ai (x:=x15+1) (by grind));grind),(by rw [DB.wj _ _ _ (by grind)];(rw [if_pos (by grind)];grind))⟩) fun c3=>⟨_,(by(have h9:=ai (x:=x15+1) (by grind));grind),rfl,(by(have h9:=ai (x:=x15+1) (by grind));grind),(by rw [DB.wj _ _ _ (by grind)];(rw [if_neg (by grind)];exact hz))⟩) fun c1=>(by(have h7:(E.on m).pgs t o (E.on m).S=l4:=by rw [hz,show x15.toNat=(E.on m).S by grind]);exact aK (h A4 c4) (by grind) rfl (af (congrArg (Res.lst (U:=Un) 0 true 3 _ _) ‹_›) rfl))⟩)
def gA:Ctr Un:=⟨[.one (.ptr 0),.one (.int .i64)],[],[.blk [.obj 1 0,.sl 3] 58,.ob 1 [(1,2,0)],.ob 0 [],.lst 4 false 99],[],fun p g r E rm m A c l K=>E.n=m.S∧l=E.aj∧(E.on m).has p=true∧K ⟨(.bool ((E.on m).clause 5 p)),none,[],[],[]⟩⟩
def C6(p:Int)(g:Nat)(r:Nat→Nat)(E:Pd)(rm:Nat→Nat)(m:Mem)(A:Option Addr)(c:Nat)(l:List Ent)(Q:Ou Un→Prop):Prop:=
 Pd.Ok E→
 Mem.Wf m→
 E.n=m.S∧
 l=E.aj∧
 (E.on m).has p=true∧
 split (!((E.on m).is p 1)) (
  Q ⟨(.bool true),none,[],[],[]⟩) (
  E.n=m.S∧
  l=E.aj∧
  ∃J:Bool→Prop,(
   split (decide ((u64.wrap ((E.on m).word p 1))≥(u64.wrap E.aB))) (
    J true) (
    E.n=m.S∧
    l=E.aj∧
    J (decide (((E.on m).word p 2)>4096))))∧∀(_gv:Nat→Value)(x28:Bool),J x28→
  split x28 (
   Q ⟨(.bool false),none,[],[],[]⟩) (
   ∃I:Nat→Int→Prop,(∃m1,I m1 0)∧∀(m1:Nat)(_gv1:Nat→Value)(x30:Int),I m1 x30→
   split (decide (x30<p)) (
    ∃J1:Bool→Prop,(
     E.n=m.S∧
     l=E.aj∧
     (E.on m).has x30=true∧
     split ((E.on m).is x30 1) (
      E.n=m.S∧
      l=E.aj∧
      J1 (((E.on m).word x30 1)==((E.on m).word p 1))) (
      J1 false))∧∀(_gv2:Nat→Value)(x42:Bool),J1 x42→
    split x42 (
     Q ⟨(.bool false),none,[],[],[]⟩) (
     ∃m2,m2<m1∧I m2 (i64.wrap (x30+1)))) (
    Q ⟨(.bool true),none,[],[],[]⟩)))
theorem C7:Vc2 Un Tryz.prog (bd [(56,cF),(101,cX),(102,jb)]) [] Tryz.f62 (.r' (.r' (.r' (.two (.two (.node [] (some ⟨[(28,(.one .bool))],[],upN 14 15,[]⟩) [] [] .leaf .leaf) .leaf) (.two (.r' (.two (.node [] (some ⟨[(30,(.one (.int .i64)))],[],[4,6]++upN 30 14,[]⟩) [] [] (.r' (.r' (.two (.two (.r' (.two (.node [] (some ⟨[(42,(.one .bool))],[],upN 33 10,[]⟩) [] [] .leaf .leaf) .leaf)) .leaf) .leaf))) .leaf) .leaf)) .leaf))))) [] gA=(∀p g r (E:Pd) rm (m:Mem) A c (l:List Ent),∀Q,(E.n=m.S∧l=E.aj∧(E.on m).has p=true∧Q ⟨(.bool ((E.on m).clause 5 p)),none,[],[],[]⟩)→C6 p g r E rm m A c l Q):=by kernel_rfl
section
attribute [local grind=] DB.qH DB.kg DB.is Pd.mV
theorem tI:LV Un Tryz.prog 62 gA:=verify Tryz.func62 aa (tb:= [(56,cF),(101,cX),(102,jb)]) ⟨iy,jw,D3,trivial⟩ (by kernel_rfl) (C7.mpr fun p g r E rm m A c l Q h=>by
 obtain⟨hp0,hp1,hp2,h⟩:=h
 subst hp1
 exact fun f1 f2=>(by(have hw:=fun a b=>gB (E:=E) f2 a b);(have hi64:=fun a b=>ai (x:=(E.on m).word a b) (by have:=hw a b;omega));(have hu64:=fun a b=>fg (x:=(E.on m).word a b) (by have:=hw a b;omega));(have hub:=fg (x:=E.aB) (by have:=f1.aB;omega));exact ao ‹_› fun s3=>ao (by rfl) fun s4=>ao ‹_› fun s5=>aW (fun c1=>aX h (by grind)) fun c1=>ao ‹_› fun s6=>ao (by rfl) fun s7=>bw ((decide ((u64.wrap ((E.on m).word p 1):Int)≥(u64.wrap E.aB))) || (decide ((((E.on m).word p 2):Int)>4096))) (ae (fun c2=>(by grind)) fun c2=>ao ‹_› fun s8=>ao (by rfl) fun s9=>(by grind))<| aS (fun c3=>aX h (by grind)) fun c3=>⟨fun m1 x30=>(m1=(p - x30).toNat)∧(0≤x30∧x30≤p)∧(fc (fun z=>!(((E.on m).at_ z).typ==1 && (E.on m).word z 1==(E.on m).word p 1)) 0 x30=true),⟨_,rfl,(by grind),(gU (Int.le_refl _))⟩,fun m1 _ x30 ⟨hm,hi1,hz⟩=>ax (fun c4=>bw (((E.on m).is x30 1) && ((((E.on m).word x30 1):Int)==((E.on m).word p 1))) (ao ‹_› fun s10=>ao (by rfl) fun s11=>ao (by grind) fun s12=>ae (fun c5=>ao ‹_› fun s13=>ao (by rfl) fun s14=>(by grind)) fun c5=>(by grind))<| bQ (fun c6=>aX h (by rw [DB.qH,DB.kg,dU hi1.1 c4 (by grind)];grind)) fun c6=>⟨_,(by(have h9:=ai (x:=x30+1) (by grind));grind),rfl,(by(have h9:=ai (x:=x30+1) (by grind));grind),(by exact eh hz (by have hh:(E.on m).has x30=true:=(by grind);rw [DB.is,hh]at c6;grind) (ai (by grind)))⟩) fun c4=>aX h (by(have hq:x30=p:=by omega);subst hq;rw [DB.qH,DB.kg,hz];grind)⟩))
end
def iT:Ctr Un:=⟨[.one (.ptr 0),.one (.int .i64)],[],[.blk [.obj 1 0,.sl 3] 58,.ob 1 [(1,2,0)],.ob 0 [],.lst 4 false 99],[],fun p g r E rm m A c l K=>E.n=m.S∧l=E.aj∧(E.on m).has p=true∧K ⟨(.bool ((E.on m).clause 6 p)),none,[],[],[]⟩⟩
def FD(p:Int)(g:Nat)(r:Nat→Nat)(E:Pd)(rm:Nat→Nat)(m:Mem)(A:Option Addr)(c:Nat)(l:List Ent)(Q:Ou Un→Prop):Prop:=
 Pd.Ok E→
 Mem.Wf m→
 E.n=m.S∧
 l=E.aj∧
 (E.on m).has p=true∧
 split (!((E.on m).is p 1)) (
  Q ⟨(.bool true),none,[],[],[]⟩) (
  E.n=m.S∧
  l=E.aj∧
  (0≤(37:Int)∧(1024:Int)≤1024)∧
  split (!((E.on m).zero p 37 1024)) (
   Q ⟨(.bool false),none,[],[],[]⟩) (
   E.n=m.S∧
   l=E.aj∧
   (0≤(11:Int)∧(11:Int)<1024∧0≤(26:Int)∧(26:Int)<1024)∧
   ∀(A1:Option Addr)(c1:Nat),
   ∀(l1:List U32),l1=(E.on m).some_ p 11 (Int.toNat 26)→
   ((∀x∈l1,0≤x.v∧x.v<4294967296))∧
   ∀(dp:Value),
   ∃J:Bool→Prop,(
    split ((Dg.aJ l1)==0) (
     E.n=m.S∧
     l=E.aj∧
     (0≤(3:Int)∧(11:Int)≤1024)∧
     ∀init:Bool,init=((E.on m).zero p 3 11)→
     J init) (
     ∀init:Bool,init=false→
     J init))∧∀(_gv:Nat→Value)(init:Bool),J init→
   E.n=m.S∧
   l=E.aj∧
   (0≤(11:Int)∧(37:Int)≤1024)∧
   (0≤p∧p<(l.length:Int))∧
   ∀x42:Bool,x42=(((l.getD p.toNat Ent.free).state:Int)==1)→
   split x42 (
    Q ⟨(.bool init),none,[],[],[]⟩) (
    ∀x45:Bool,x45=(((l.getD p.toNat Ent.free).state:Int)==2)→
    split x45 (
     Q ⟨(.bool ((E.on m).zero p 11 37)),none,[],[],[]⟩) (
     ∃J1:Bool→Prop,(
      split init (
       J1 true) (
       J1 ((E.on m).zero p 11 37)))∧∀(_gv1:Nat→Value)(x4:Bool),J1 x4→
     Q ⟨(.bool x4),none,[],[],[]⟩))))
theorem FE:Vc2 Un Tryz.prog (bd [(56,cF),(58,eG),(104,kx),(103,ve)]) [7,42,45] Tryz.f63 (.r' (.r' (.r' (.r' (.two (.node [] (some ⟨[(7,(.one .bool))],[],[7]++upN 24 7,[]⟩) [] [] .leaf .leaf) (.r' (.r' (.two (.node [] (some ⟨[(4,(.one .bool))],[],[4,48,49,50,51],[]⟩) [] [] .leaf .leaf) .leaf)))))))) [] iT=(∀p g r (E:Pd) rm (m:Mem) A c (l:List Ent),∀Q,(E.n=m.S∧l=E.aj∧(E.on m).has p=true∧Q ⟨(.bool ((E.on m).clause 6 p)),none,[],[],[]⟩)→FD p g r E rm m A c l Q):=by kernel_rfl
section
attribute [local grind=] DB.Fb DB.uh DB.Bd DB.is
theorem xO:LV Un Tryz.prog 63 iT:=verify Tryz.func63 aa (tb:= [(56,cF),(58,eG),(104,kx),(103,ve)]) ⟨iy,my,BL,Hx,trivial⟩ (by kernel_rfl) (FE.mpr fun p g r E rm m A c l Q h=>by
 obtain⟨hp0,hp1,hp2,h⟩:=h
 subst hp1
 exact fun f1 f2=>(by(have hw:=fun a b=>gB (E:=E) f2 a b);(have hi64:=fun a b=>ai (x:=(E.on m).word a b) (by have:=hw a b;omega));(have hu64:=fun a b=>fg (x:=(E.on m).word a b) (by have:=hw a b;omega));exact ao ‹_› fun s3=>ao (by rfl) fun s4=>ao ‹_› fun s5=>aW (fun c1=>aX h (by grind)) fun c1=>ao ‹_› fun s6=>ao (by rfl) fun s7=>ao (by omega) fun s8=>aW (fun c2=>aX h (by grind)) fun c2=>ao ‹_› fun s9=>ao (by rfl) fun s10=>ao (by omega) fun s11=>fun A1 c1=>fun l1 h_l1=>ao (by rw [h_l1];exact vQ f2 _ _ _) fun s12=>fun dp=>bw ((((Dg.aJ l1):Int)==0) && ((E.on m).zero p 3 11)) (ae (fun c3=>ao ‹_› fun s13=>ao (by rfl) fun s14=>ao (by omega) fun s15=>allEq<| (by grind)) fun c3=>allEq<| (by grind))<| ao ‹_› fun s16=>ao (by rfl) fun s17=>ao (by omega) fun s18=>ao (by grind) fun s19=>allEq<| aE (fun c4=>aX h (by grind)) fun c4=>allEq<| aE (fun c5=>aX h (by grind)) fun c5=>bw (((((Dg.aJ l1):Int)==0) && ((E.on m).zero p 3 11)) || ((E.on m).zero p 11 37)) (ae (fun c6=>(by grind)) fun c6=>(by grind))<| aX h (by grind)))
end
def iV:Ctr Un:=⟨[.one (.ptr 0),.one (.int .i64)],[],[.blk [.obj 1 0,.sl 3] 58,.ob 1 [(1,2,0)],.ob 0 [],.lst 4 false 99],[],fun p g r E rm m A c l K=>E.n=m.S∧l=E.aj∧(E.on m).has p=true∧K ⟨(.bool ((E.on m).clause 7 p)),none,[],[],[]⟩⟩
def FN(p:Int)(g:Nat)(r:Nat→Nat)(E:Pd)(rm:Nat→Nat)(m:Mem)(A:Option Addr)(c:Nat)(l:List Ent)(Q:Ou Un→Prop):Prop:=
 Pd.Ok E→
 Mem.Wf m→
 ∃J:Bool→Prop,(
  E.n=m.S∧
  l=E.aj∧
  (E.on m).has p=true∧
  split (!((E.on m).is p 1)) (
   J true) (
   E.n=m.S∧
   l=E.aj∧
   (E.on m).has p=true∧
   J (!(if(E.on m).is p 1 then((E.on m).at_ p).state !=3 else(E.on m).alive p))))∧∀(_gv:Nat→Value)(x15:Bool),J x15→
 split x15 (
  Q ⟨(.bool true),none,[],[],[]⟩) (
  E.n=m.S∧
  l=E.aj∧
  ∀(A1:Option Addr)(c1:Nat),
  ∀(l1:List I64),l1=(E.on m).pgs 3 p (E.on m).S→
  ∃J1:Bool→Prop,(
   split (((((E.on m).pgs 3 p (E.on m).S).length):Int)==1) (
    (0≤(0:Int)∧(0:Int)<(l1.length:Int))∧
    E.n=m.S∧
    l=E.aj∧
    J1 (((E.on m).word p 0)==(u32.wrap ((l1.getD (Int.toNat 0) (I64.mk 0)).v)))) (
    J1 false))∧∀(_gv1:Nat→Value)(x4:Bool),J1 x4→
  Q ⟨(.bool x4),none,[],[],[]⟩)
theorem FO:Vc2 Un Tryz.prog (bd [(56,cF),(105,ez),(106,od),(101,cX)]) [] Tryz.f64 (.r' (.two (.two (.node [] (some ⟨[(15,(.one .bool))],[],upN 6 10,[]⟩) [] [] .leaf .leaf) .leaf) (.r' (.two (.node [] (some ⟨[(4,(.one .bool))],[],[4]++upN 19 13,[]⟩) [] [(9,[4])] .leaf .leaf) .leaf)))) [] iV=(∀p g r (E:Pd) rm (m:Mem) A c (l:List Ent),∀Q,(E.n=m.S∧l=E.aj∧(E.on m).has p=true∧Q ⟨(.bool ((E.on m).clause 7 p)),none,[],[],[]⟩)→FN p g r E rm m A c l Q):=by kernel_rfl
section
attribute [local grind=] DB.Fa DB.ui DB.is
theorem xQ:LV Un Tryz.prog 64 iV:=verify Tryz.func64 aa (tb:= [(56,cF),(105,ez),(106,od),(101,cX)]) ⟨iy,mA,FH,jw,trivial⟩ (by kernel_rfl) (FO.mpr fun p g r E rm m A c l Q h=>by
 obtain⟨hp0,hp1,hp2,h⟩:=h
 subst hp1
 exact fun f1 f2=>bw ((!((E.on m).is p 1)) || (!(if(E.on m).is p 1 then((E.on m).at_ p).state !=3 else(E.on m).alive p))) (ao ‹_› fun s3=>ao (by rfl) fun s4=>ao ‹_› fun s5=>ae (fun c1=>(by grind)) fun c1=>ao ‹_› fun s6=>ao (by rfl) fun s7=>ao ‹_› fun s8=>(by grind))<| aS (fun c2=>aX h (by grind)) fun c2=>ao ‹_› fun s9=>ao (by rfl) fun s10=>fun A1 c1=>fun l1 h_l1=>bw ((((((((E.on m).pgs 3 p (E.on m).S).length):Nat):Int):Int)==1) && ((((E.on m).word p 0):Int)==(u32.wrap ((l1.getD (Int.toNat 0) (I64.mk 0)).v)))) (ae (fun c3=>ao (by grind) fun s11=>ao ‹_› fun s12=>ao (by rfl) fun s13=>(by grind)) fun c3=>(by grind))<| aX h (by rw [h_l1,DB.first_eq (by grind)];grind))
end
def gx:Ctr Un:=⟨[.one (.ptr 0),.one (.int .i64)],[],[.blk [.obj 1 0,.sl 3] 58,.ob 1 [(1,2,0)],.ob 0 [],.lst 4 false 99],[],fun p g r E rm m A c l K=>E.n=m.S∧l=E.aj∧(E.on m).has p=true∧K ⟨(.bool ((E.on m).clause 11 p)),none,[],[],[]⟩⟩
def CV(p:Int)(g:Nat)(r:Nat→Nat)(E:Pd)(rm:Nat→Nat)(m:Mem)(A:Option Addr)(c:Nat)(l:List Ent)(Q:Ou Un→Prop):Prop:=
 Pd.Ok E→
 Mem.Wf m→
 E.n=m.S∧
 l=E.aj∧
 (E.on m).has p=true∧
 split (!((E.on m).is p 2)) (
  Q ⟨(.bool true),none,[],[],[]⟩) (
  E.n=m.S∧
  l=E.aj∧
  (0≤(18:Int)∧(1024:Int)≤1024)∧
  split (!((E.on m).zero p 18 1024)) (
   Q ⟨(.bool false),none,[],[],[]⟩) (
   (0≤p∧p<(l.length:Int))∧
   split (!((l.getD p.toNat Ent.free).aF)) (
    E.n=m.S∧
    l=E.aj∧
    (0≤(1:Int)∧(18:Int)≤1024)∧
    Q ⟨(.bool ((E.on m).zero p 1 18)),none,[],[],[]⟩) (
    E.n=m.S∧
    l=E.aj∧
    (0≤(1:Int)∧(1:Int)<1024∧0≤(17:Int)∧(17:Int)<1024)∧
    ∀(A1:Option Addr)(c1:Nat),
    ∀(l1:List U32),l1=(E.on m).some_ p 1 (Int.toNat 17)→
    ((∀x∈l1,0≤x.v∧x.v<4294967296))∧
    ∀(gv:Nat),
    ∀(s:Fl),s=Fl.zero→
    Fl.Ok s→
    True∧
    ∀(s1:Fl),s1=(Fl.norm (File.unpack l1))→
    Fl.Ok s1→
    E.n=m.S∧
    l=E.aj∧
    (E.on m).has p=true∧
    ∃J:Bool→Prop,(
     split ((File.fu l1)==0) (
      split (decide (((E.on m).cg p)<0)) (
       J true) (
       (0≤((E.on m).cg p)∧((E.on m).cg p)<(l.length:Int))∧
       J ((l.getD (Int.toNat ((E.on m).cg p)) Ent.free).state !=1))) (
      J false))∧∀(_gv1:Nat→Value)(x4:Bool),J x4→
    Q ⟨(.bool x4),none,[],[],[]⟩)))
theorem CW:Vc2 Un Tryz.prog (bd [(56,cF),(58,eG),(104,kx),(110,kA),(60,fK)]) [] Tryz.f68 (.r' (.r' (.r' (.r' (.r' (.r' (.two (.node [] (some ⟨[(4,(.one .bool))],[],[4]++upN 38 17,[]⟩) [] [] .leaf .leaf) .leaf))))))) [] gx=(∀p g r (E:Pd) rm (m:Mem) A c (l:List Ent),∀Q,(E.n=m.S∧l=E.aj∧(E.on m).has p=true∧Q ⟨(.bool ((E.on m).clause 11 p)),none,[],[],[]⟩)→CV p g r E rm m A c l Q):=by kernel_rfl
section
attribute [local grind=] DB.CG DB.oV DB.is DB.cg
theorem tF:LV Un Tryz.prog 68 gx:=verify Tryz.func68 aa (tb:= [(56,cF),(58,eG),(104,kx),(110,kA),(60,fK)]) ⟨iy,my,BL,DJ,qW,trivial⟩ (by kernel_rfl) (CW.mpr fun p g r E rm m A c l Q h=>by
 obtain⟨hp0,hp1,hp2,h⟩:=h
 subst hp1
 exact fun f1 f2=>(by(have hw:=fun a b=>gB (E:=E) f2 a b);(have hi64:=fun a b=>ai (x:=(E.on m).word a b) (by have:=hw a b;omega));(have hu64:=fun a b=>fg (x:=(E.on m).word a b) (by have:=hw a b;omega));exact ao ‹_› fun s3=>ao (by rfl) fun s4=>ao ‹_› fun s5=>aW (fun c1=>aX h (by grind)) fun c1=>ao ‹_› fun s6=>ao (by rfl) fun s7=>ao (by omega) fun s8=>aW (fun c2=>aX h (by grind)) fun c2=>ao (by grind) fun s9=>aW (fun c3=>ao ‹_› fun s10=>ao (by rfl) fun s11=>ao (by omega) fun s12=>aX h (by grind)) fun c3=>ao ‹_› fun s13=>ao (by rfl) fun s14=>ao (by omega) fun s15=>fun A1 c1=>fun l1 h_l1=>ao (by rw [h_l1];exact vQ f2 _ _ _) fun s16=>fun gv=>fun s h_s f17=>ao trivial fun _=>fun s1 h_s1 f19=>ao ‹_› fun s20=>ao (by rfl) fun s21=>ao ‹_› fun s22=>bw ((((File.fu l1):Int)==0) && ((decide ((((E.on m).cg p):Int)<0)) || (((E.aj.getD (Int.toNat ((E.on m).cg p)) Ent.free).state:Int) !=1))) (ae (fun c4=>ae (fun c5=>(by grind)) fun c5=>ao (by grind) fun s23=>(by grind)) fun c4=>(by grind))<| aX h (by grind)))
end
end Go.Proofs.YtbjlecpmgocoeaaGreatDoor
end
section
set_option maxRecDepth 100000
set_option maxHeartbeats 1000000
namespace Go.Proofs.YtbjlecpmgocoeaaGreatDoor
open Go Go.RowKit V
open Go.IntKind (i64 u32 u64)
open Go.Proofs (Tryz.prog)
attribute [local grind=] Pd.cP Pd.bM Pd.jl Pd.jG Pd.dq Pd.cx Pd.eK Pd.gj Pd.lM Pd.oF
attribute [local grind .] Pd.Ok.ent
attribute [local grind→] Pd.Ok.cH
def iU:Ctr Un:=⟨[.one (.ptr 0),.one (.int .i64)],[],[.blk [.obj 1 0,.sl 3] 58,.ob 1 [(1,2,0)],.ob 0 [],.lst 4 false 99],[],fun p g r E rm m A c l K=>E.n=m.S∧l=E.aj∧(E.on m).has p=true∧K ⟨(.bool ((E.on m).clause 8 p)),none,[],[],[]⟩⟩
def FI(p:Int)(g:Nat)(r:Nat→Nat)(E:Pd)(rm:Nat→Nat)(m:Mem)(A:Option Addr)(c:Nat)(l:List Ent)(Q:Ou Un→Prop):Prop:=
 Pd.Ok E→
 Mem.Wf m→
 ∃J:Bool→Prop,(
  E.n=m.S∧
  l=E.aj∧
  (E.on m).has p=true∧
  split (!((E.on m).is p 3)) (
   J true) (
   E.n=m.S∧
   l=E.aj∧
   (E.on m).has p=true∧
   J (!(if(E.on m).is p 1 then((E.on m).at_ p).state !=3 else(E.on m).alive p))))∧∀(_gv:Nat→Value)(x23:Bool),J x23→
 split x23 (
  Q ⟨(.bool true),none,[],[],[]⟩) (
  E.n=m.S∧
  l=E.aj∧
  (0≤(256:Int)∧(1024:Int)≤1024)∧
  split (!((E.on m).zero p 256 1024)) (
   Q ⟨(.bool false),none,[],[],[]⟩) (
   ((64:Int)=64∧0≤(64:Int)∧1*(64:Int)≤281474976710656)∧
   ∀(gv1:Nat),
   ∀(l1:List Bl),l1=(List.replicate (Int.toNat 64) (Bl.mk false:Bl))→
   ∀count:Int,count=0→
   (0≤p∧p<(l.length:Int))∧
   E.n=m.S∧
   l=E.aj∧
   ∀(A1:Option Addr)(c1:Nat),
   ∀(l2:List I64),l2=(E.on m).pgs 4 ((l.getD p.toNat Ent.free).owner) (E.on m).S→
   ∃I:Nat→Int→Int→Option Addr→Nat→List Bl→Prop,(∃m1,I m1 count 0 (some (Addr.mk gv1 0 none)) (Int.toNat 64) l1)∧∀(m1:Nat)(_gv2:Nat→Value)(count1:Int)(x39:Int)(A4:Option Addr)(c4:Nat)(l4:List Bl),I m1 count1 x39 A4 c4 l4→
   split (decide (x39<256)) (
    E.n=m.S∧
    l=E.aj∧
    split (((E.on m).word p x39)==0) (
     ∃m2,m2<m1∧I m2 count1 (i64.wrap (x39+1)) A4 c4 l4) (
     (0≤((E.on m).word p x39)∧((E.on m).word p x39)<4294967296)∧
     ∃J1:Bool→Prop,(
      split ((pZ ((E.on m).word p x39)) !=0) (
       J1 true) (
       (0≤(aZ ((E.on m).word p x39))∧(aZ ((E.on m).word p x39))<(l4.length:Int))∧
       J1 ((l4.getD (Int.toNat (aZ ((E.on m).word p x39))) (Bl.mk false)).v)))∧∀(_gv3:Nat→Value)(x60:Bool),J1 x60→
     split x60 (
      Q ⟨(.bool false),none,[],[],[]⟩) (
      ∃I1:Nat→Int→Int→Option Addr→Nat→List Bl→Prop,(∃m3,I1 m3 count1 0 A4 c4 l4)∧∀(m3:Nat)(_gv4:Nat→Value)(count2:Int)(x63:Int)(A41:Option Addr)(c41:Nat)(l41:List Bl),I1 m3 count2 x63 A41 c41 l41→
      split (decide (x63<((((E.on m).pgs 4 ((l.getD p.toNat Ent.free).owner) (E.on m).S).length):Int))) (
       (0≤x63∧x63<(l2.length:Int))∧
       split ((l2.getD x63.toNat (I64.mk 0)).v==(aZ ((E.on m).word p x39))) (
        (0≤(aZ ((E.on m).word p x39))∧(aZ ((E.on m).word p x39))<(l41.length:Int))∧
        ∀(l3:List Bl),l3=(l41.set (Int.toNat (aZ ((E.on m).word p x39))) (Bl.mk true))→
        ∀count3:Int,count3=(i64.wrap (count2+1))→
        ∃m2,m2<m1∧I m2 count3 (i64.wrap (x39+1)) A41 c41 l3) (
        ∃m4,m4<m3∧I1 m4 count2 (i64.wrap (x63+1)) A41 c41 l41)) (
       Q ⟨(.bool false),none,[],[],[]⟩)))) (
    Q ⟨(.bool (count1==((((E.on m).pgs 4 ((l.getD p.toNat Ent.free).owner) (E.on m).S).length):Int))),none,[],[],[]⟩)))
theorem FJ:Vc2 Un Tryz.prog (bd [(56,cF),(105,ez),(58,eG),(106,od),(101,cX),(107,ew)]) [6] Tryz.f65 (.r' (.two (.two (.two (.node [] (some ⟨[(23,(.one .bool))],[],upN 14 10,[]⟩) [] [] .leaf .leaf) .leaf) (.r' (.r' (.r' (.r' (.two (.r' (.two (.node [] (some ⟨[(6,(.one (.int .i64))),(39,(.one (.int .i64)))],[(5,(.p (.sl 4 0)))],[4,6,8,9,10,11,13]++upN 39 38,[(4,(.lst 3))]⟩) [] [] (.r' (.r' (.two (.two (.r' (.r' (.r' (.r' (.two (.two (.node [] (some ⟨[(60,(.one .bool))],[],upN 53 8,[]⟩) [] [] .leaf .leaf) .leaf) (.two (.r' (.two (.node [] (some ⟨[(6,(.one (.int .i64))),(63,(.one (.int .i64)))],[(5,(.p (.sl 4 0)))],[6,13]++upN 63 13,[(4,(.lst 3))]⟩) [] [] .leaf .leaf) .leaf)) .leaf)))))) .leaf) .leaf))) .leaf) .leaf)) .leaf)))))) .leaf)) [] iU=(∀p g r (E:Pd) rm (m:Mem) A c (l:List Ent),∀Q,(E.n=m.S∧l=E.aj∧(E.on m).has p=true∧Q ⟨(.bool ((E.on m).clause 8 p)),none,[],[],[]⟩)→FI p g r E rm m A c l Q):=by kernel_rfl
section
attribute [local grind=] DB.jY DB.is
theorem xP:LV Un Tryz.prog 65 iU:=verify Tryz.func65 aa (tb:= [(56,cF),(105,ez),(58,eG),(106,od),(101,cX),(107,ew)]) ⟨iy,mA,my,FH,jw,sa,trivial⟩ (by kernel_rfl) (FJ.mpr fun p g r E rm m A c l Q h=>by
 obtain⟨hp0,hp1,hp2,h⟩:=h
 subst hp1
 exact fun f1 f2=>(by(have hw:=fun a b=>gB (E:=E) f2 a b);(have hge:E.aj.getD p.toNat Ent.free=(E.on m).at_ p:=by rw [Pd.bM (by grind),Pd.jG]);exact bw ((!((E.on m).is p 3)) || (!(if(E.on m).is p 1 then((E.on m).at_ p).state !=3 else(E.on m).alive p))) (ao ‹_› fun s3=>ao (by rfl) fun s4=>ao ‹_› fun s5=>ae (fun c1=>(by grind)) fun c1=>ao ‹_› fun s6=>ao (by rfl) fun s7=>ao ‹_› fun s8=>(by grind))<| aS (fun c2=>aX h (by grind)) fun c2=>(by(have hty:((E.on m).at_ p).typ=3∧(E.on m).alive p=true:=by grind);exact ao ‹_› fun s9=>ao (by rfl) fun s10=>ao (by omega) fun s11=>aW (fun c3=>aX h (by rw [DB.jY,DB.kQ,c3];simp [hty])) fun c3=>ao (by omega) fun s12=>fun gv1=>fun l1 h_l1=>allEq<| ao (by grind) fun s13=>ao ‹_› fun s14=>ao (by rfl) fun s15=>fun A1 c1=>fun l2 h_l2=>⟨fun m1 count1 x39 A4 c4 l4=>(m1=(256 - x39).toNat)∧(0≤x39∧x39≤256)∧(DB.Nms (E.on m) p x39 count1 l4),⟨_,rfl,(by omega),(by rw [h_l1];exact DB.Nms.init _ _)⟩,fun m1 _ count1 x39 A4 c4 l4 ⟨hm,hx,hn⟩=>(by(have hl2:l2=(E.on m).pgs 4 ((E.on m).at_ p).owner (E.on m).S:=by rw [h_l2,hge]);(have h64:(l2.length:Int)≤64:=by rw [hl2];(have h8:=DB.jk (E.on m) 4 ((E.on m).at_ p).owner (E.on m).S);have h7:=f1.cH;(rw [Pd.oF _ _ hp0]at h8 ⊢);omega);(have hcb:0≤count1∧count1≤64:=by rw [hn.cnt];(have h7:=mi (f:=fun q=>(E.on m).named p x39 q==1) (n:=((E.on m).S:Int)) (by omega));(have h6:=iu (f:=fun q=>(E.on m).named p x39 q==1) (n:=((E.on m).S:Int)));have h5:=f1.cH;(rw [Pd.oF _ _ hp0]at h7 h6 ⊢);omega);exact ax (fun c4=>ao ‹_› fun s16=>ao (by rfl) fun s17=>aE (fun c5=>⟨_,(by rw [ai (x:=x39+1) (by omega)];omega),rfl,(by rw [ai (x:=x39+1) (by omega)];omega),(by rw [ai (x:=x39+1) (by omega)];exact hn.skip hx.1 c5)⟩) fun c5=>ao (hw p x39) fun s18=>bw ((((pZ ((E.on m).word p x39)):Int) !=0) || ((l4.getD (Int.toNat (aZ ((E.on m).word p x39))) (Bl.mk false)).v)) (ae (fun c6=>(by grind)) fun c6=>ao (by(have h8:=oY (hw p x39).1);(have h7:=hn.len);(rw [h7];exact h8)) fun s19=>(by grind))<| aS (fun c7=>aX h (by(have hb:=hn.bad ⟨hx.1,c4⟩ (hw p x39).1 c5 (fun he ho=>by rcases c7 with h | h;(simp [he]at h);exact h));rw [DB.jY,hb];simp [hty])) fun c7=>⟨fun m3 count2 x63 A41 c41 l41=>(m3=((l2.length:Int) - x63).toNat)∧(0≤x63∧x63≤(l2.length:Int))∧(count2=count1)∧(l41=l4)∧(∀j:Nat,(j:Int)<x63→¬(l2.getD j (I64.mk 0)).v=aZ ((E.on m).word p x39)),⟨_,rfl,(by omega),(by rfl),(by rfl),(by intro j hj;omega)⟩,fun m3 _ count2 x63 A41 c41 l41 ⟨hm,hy,hc2,hl41,hno⟩=>(by have hy2:x63<(l2.length:Int)∨¬x63<(l2.length:Int):=Classical.em _;exact ax (fun c8=>ao (by rw [h_l2];exact⟨hy.1,c8⟩) fun s20=>aE (fun c9=>ao (by(have h8:=oY (hw p x39).1);(have h7:=hn.len);(rw [hl41,h7];exact h8)) fun s21=>fun l3 h_l3=>allEq<| ⟨_,(by rw [ai (x:=x39+1) (by omega)];omega),rfl,(by rw [ai (x:=x39+1) (by omega)];omega),(by rw [ai (x:=x39+1) (by omega)];(rw [h_l3,hl41,hc2,ai (x:=count1+1) (by omega)];exact hn.put hx.1 (hw p x39).1 c5 (by simpa using c7.1) c7.2 (DB.IK hl2 ⟨hy.1,by rw [h_l2];exact c8⟩ c9)))⟩) fun c9=>⟨_,(by have c8':=c8;rw [← h_l2]at c8';rw [ai (x:=x63+1) (by omega)];omega),rfl,(by have c8':=c8;rw [← h_l2]at c8';rw [ai (x:=x63+1) (by omega)];omega),(hc2),(hl41),(by have c8':=c8;rw [← h_l2]at c8';rw [ai (x:=x63+1) (by omega)];intro j hj;by_cases hjx:(j:Int)=x63;(have hjn:j=x63.toNat:=by omega);subst hjn;exact c9;exact hno j (by omega))⟩) fun c8=>aX h (by(have hb:=hn.bad ⟨hx.1,c4⟩ (hw p x39).1 c5 (fun _ ho=>by rw [DB.GW hl2 (fun j hj=>hno j (by rw [← h_l2]at c8;omega))]at ho;cases ho));rw [DB.jY,hb];simp [hty]))⟩) fun c4=>aX h (by(have hx256:x39=256:=by omega);subst hx256;rw [DB.jY,hn.done (by rw [Pd.oF _ _ hp0];exact f1.cH) c3,hge];simp [hty]))⟩)))
end
def kz:Ctr Un:=⟨[.one (.ptr 0),.one (.int .i64)],[],[.blk [.obj 1 0,.sl 3] 58,.ob 1 [(1,2,0)],.ob 0 [],.lst 4 false 99],[],fun p g r E rm m A c l K=>E.n=m.S∧l=E.aj∧(E.on m).has p=true∧K ⟨(.bool ((E.on m).clause 9 p)),none,[],[],[]⟩⟩
def Hs(p:Int)(g:Nat)(r:Nat→Nat)(E:Pd)(rm:Nat→Nat)(m:Mem)(A:Option Addr)(c:Nat)(l:List Ent)(Q:Ou Un→Prop):Prop:=
 Pd.Ok E→
 Mem.Wf m→
 ∃J:Bool→Prop,(
  E.n=m.S∧
  l=E.aj∧
  (E.on m).has p=true∧
  split (!((E.on m).is p 4)) (
   J true) (
   E.n=m.S∧
   l=E.aj∧
   (E.on m).has p=true∧
   J (!(if(E.on m).is p 1 then((E.on m).at_ p).state !=3 else(E.on m).alive p))))∧∀(_gv:Nat→Value)(x18:Bool),J x18→
 split x18 (
  Q ⟨(.bool true),none,[],[],[]⟩) (
  ∃I:Nat→Int→Prop,(∃m1,I m1 0)∧∀(m1:Nat)(_gv1:Nat→Value)(x19:Int),I m1 x19→
  split (decide (x19<1024)) (
   E.n=m.S∧
   l=E.aj∧
   split (((E.on m).word p x19)==0) (
    ∃m2,m2<m1∧I m2 (i64.wrap (x19+1))) (
    (0≤((E.on m).word p x19)∧((E.on m).word p x19)<4294967296)∧
    ∀(gv2:Nat),
    ∃J1:Bool→Prop,(
     split ((lT ((E.on m).word p x19)) !=0) (
      J1 true) (
      J1 (!(m.has ((cw ((E.on m).word p x19)).bH) ((cw ((E.on m).word p x19)).ar)))))∧∀(_gv3:Nat→Value)(x45:Bool),J1 x45→
    split x45 (
     Q ⟨(.bool false),none,[],[],[]⟩) (
     ∃J2:Bool→Prop,(
      split ((cw ((E.on m).word p x19)).bH) (
       E.n=m.S∧
       l=E.aj∧
       (E.on m).has ((cw ((E.on m).word p x19)).ar)=true∧
       split (!((E.on m).is ((cw ((E.on m).word p x19)).ar) 5)) (
        J2 true) (
        (0≤(cw ((E.on m).word p x19)).ar∧(cw ((E.on m).word p x19)).ar<(l.length:Int))∧
        (0≤p∧p<(l.length:Int))∧
        J2 ((l.getD (Int.toNat ((cw ((E.on m).word p x19)).ar)) Ent.free).owner !=((l.getD p.toNat Ent.free).owner)))) (
       J2 false))∧∀(_gv4:Nat→Value)(x77:Bool),J2 x77→
     split x77 (
      Q ⟨(.bool false),none,[],[],[]⟩) (
      ∃m2,m2<m1∧I m2 (i64.wrap (x19+1)))))) (
   Q ⟨(.bool true),none,[],[],[]⟩))
theorem Ht:Vc2 Un Tryz.prog (bd [(56,cF),(105,ez),(101,cX),(108,cz),(54,ek),(109,AH)]) [] Tryz.f66 (.r' (.two (.two (.node [] (some ⟨[(18,(.one .bool))],[],upN 9 10,[]⟩) [] [] .leaf .leaf) .leaf) (.two (.r' (.two (.node [] (some ⟨[(19,(.one (.int .i64)))],[],upN 4 5++upN 19 60,[]⟩) [] [] (.r' (.r' (.two (.two (.r' (.r' (.r' (.r' (.two (.two (.node [] (some ⟨[(45,(.one .bool))],[],upN 33 13,[]⟩) [] [(6,[0]),(9,[4])] .leaf .leaf) .leaf) (.two (.node [] (some ⟨[(77,(.one .bool))],[],upN 46 32,[]⟩) [] [(2,[4]),(7,[4]),(14,[0]),(17,[4]),(20,[3]),(24,[0]),(28,[3])] .leaf .leaf) .leaf)))))) .leaf) .leaf))) .leaf) .leaf)) .leaf))) [] kz=(∀p g r (E:Pd) rm (m:Mem) A c (l:List Ent),∀Q,(E.n=m.S∧l=E.aj∧(E.on m).has p=true∧Q ⟨(.bool ((E.on m).clause 9 p)),none,[],[],[]⟩)→Hs p g r E rm m A c l Q):=by kernel_rfl
section
attribute [local grind=] DB.mj DB.is
theorem BN:LV Un Tryz.prog 66 kz:=verify Tryz.func66 aa (tb:= [(56,cF),(105,ez),(101,cX),(108,cz),(54,ek),(109,AH)]) ⟨iy,mA,jw,j3,nG,Jk,trivial⟩ (by kernel_rfl) (Ht.mpr fun p g r E rm m A c l Q h=>by
 obtain⟨hp0,hp1,hp2,h⟩:=h
 subst hp1
 exact fun f1 f2=>(by(have hw:=fun a b=>gB (E:=E) f2 a b);(have hi64:=fun a b=>ai (x:=(E.on m).word a b) (by have:=hw a b;omega));(have hu64:=fun a b=>fg (x:=(E.on m).word a b) (by have:=hw a b;omega));(have hge:E.aj.getD p.toNat Ent.free=(E.on m).at_ p:=by rw [Pd.bM (by grind),Pd.jG]);(have hmt:∀q,m.has true q=(E.on m).has q:=fun q=>rfl);(have hmf:∀q,m.has false q=decide (0≤q∧q<(m.I:Int)):=fun q=>rfl);(have hps:=fun w=>Bk w);exact bw ((!((E.on m).is p 4)) || (!(if(E.on m).is p 1 then((E.on m).at_ p).state !=3 else(E.on m).alive p))) (ao ‹_› fun s3=>ao (by rfl) fun s4=>ao ‹_› fun s5=>ae (fun c1=>(by grind)) fun c1=>ao ‹_› fun s6=>ao (by rfl) fun s7=>ao ‹_› fun s8=>(by grind))<| aS (fun c2=>aX h (by grind)) fun c2=>⟨fun m1 x19=>(m1=(1024 - x19).toNat)∧(0≤x19∧x19≤1024)∧(fc ((E.on m).nU p) 0 x19=true),⟨_,rfl,(by omega),(gU (Int.le_refl _))⟩,fun m1 _ x19 ⟨hm,hx,hz⟩=>ax (fun c3=>ao ‹_› fun s9=>ao (by rfl) fun s10=>aE (fun c4=>⟨_,(by(have h9:=ai (x:=x19+1) (by grind));omega),rfl,(by(have h9:=ai (x:=x19+1) (by grind));omega),(eh hz (by(grind [DB.nU,DB.of])) (ai (by omega)))⟩) fun c4=>ao (hw p x19) fun s11=>fun gv2=>bw ((((lT ((E.on m).word p x19)):Int) !=0) || (!(m.has ((cw ((E.on m).word p x19)).bH) ((cw ((E.on m).word p x19)).ar)))) (ae (fun c5=>(by grind)) fun c5=>(by grind))<| aS (fun c6=>aX h (by(have hb:(E.on m).nU p x19=false:=by(grind [DB.nU,DB.of]));rw [DB.mj,DB.vN,dU hx.1 c3 hb];grind)) fun c6=>bw (((cw ((E.on m).word p x19)).bH) && ((!((E.on m).is ((cw ((E.on m).word p x19)).ar) 5)) || (((E.aj.getD (Int.toNat ((cw ((E.on m).word p x19)).ar)) Ent.free).owner:Int) !=((E.aj.getD p.toNat Ent.free).owner)))) (ae (fun c7=>ao ‹_› fun s12=>ao (by rfl) fun s13=>ao (by grind) fun s14=>ae (fun c8=>(by grind)) fun c8=>ao (by grind) fun s15=>ao (by grind) fun s16=>(by grind)) fun c7=>(by grind))<| bQ (fun c9=>aX h (by(have hb:(E.on m).nU p x19=false:=by(grind [DB.nU,DB.of]));rw [DB.mj,DB.vN,dU hx.1 c3 hb];grind)) fun c9=>⟨_,(by(have h9:=ai (x:=x19+1) (by grind));omega),rfl,(by(have h9:=ai (x:=x19+1) (by grind));omega),(eh hz (by(grind [DB.nU,DB.of])) (ai (by omega)))⟩) fun c3=>aX h (by rw [DB.mj,DB.vN,← show x19=1024 by omega,hz];simp)⟩))
end
def gy:Ctr Un:=⟨[.one (.ptr 0),.one (.int .i64)],[],[.blk [.obj 1 0,.sl 3] 58,.ob 1 [(1,2,0)],.ob 0 [],.lst 4 false 99],[],fun p g r E rm m A c l K=>E.n=m.S∧l=E.aj∧(E.on m).has p=true∧K ⟨(.bool ((E.on m).clause 10 p)),none,[],[],[]⟩⟩
def CX(p:Int)(g:Nat)(r:Nat→Nat)(E:Pd)(rm:Nat→Nat)(m:Mem)(A:Option Addr)(c:Nat)(l:List Ent)(Q:Ou Un→Prop):Prop:=
 Pd.Ok E→
 Mem.Wf m→
 ∃J:Bool→Prop,(
  E.n=m.S∧
  l=E.aj∧
  (E.on m).has p=true∧
  split (!((E.on m).is p 5)) (
   J true) (
   E.n=m.S∧
   l=E.aj∧
   (E.on m).has p=true∧
   J (!(if(E.on m).is p 1 then((E.on m).at_ p).state !=3 else(E.on m).alive p))))∧∀(_gv:Nat→Value)(x20:Bool),J x20→
 split x20 (
  Q ⟨(.bool true),none,[],[],[]⟩) (
  ∀n:Int,n=0→
  (0≤p∧p<(l.length:Int))∧
  E.n=m.S∧
  l=E.aj∧
  ∀(A1:Option Addr)(c1:Nat),
  ∀(l1:List I64),l1=(E.on m).pgs 4 ((l.getD p.toNat Ent.free).owner) (E.on m).S→
  ∃I:Nat→Int→Int→Prop,(∃m1,I m1 n 0)∧∀(m1:Nat)(_gv1:Nat→Value)(n1:Int)(x32:Int),I m1 n1 x32→
  split (decide (x32<((((E.on m).pgs 4 ((l.getD p.toNat Ent.free).owner) (E.on m).S).length):Int))) (
   (0≤x32∧x32<(l1.length:Int))∧
   ∃I1:Nat→Int→Int→Prop,(∃m3,I1 m3 n1 0)∧∀(m3:Nat)(_gv2:Nat→Value)(n2:Int)(x36:Int),I1 m3 n2 x36→
   split (decide (x36<1024)) (
    E.n=m.S∧
    l=E.aj∧
    (0≤((E.on m).word ((l1.getD x32.toNat (I64.mk 0)).v) x36)∧((E.on m).word ((l1.getD x32.toNat (I64.mk 0)).v) x36)<4294967296)∧
    ∀(gv3:Nat),
    ∃J1:Bool→Prop,(
     split ((lT ((E.on m).word ((l1.getD x32.toNat (I64.mk 0)).v) x36))==0) (
      J1 (bf #[(.bool ((cw ((E.on m).word ((l1.getD x32.toNat (I64.mk 0)).v) x36)).bH)),(.int .i64 ((cw ((E.on m).word ((l1.getD x32.toNat (I64.mk 0)).v) x36)).ar))] #[(.bool true),(.int .i64 p)])) (
      J1 false))∧∀(_gv4:Nat→Value)(x55:Bool),J1 x55→
    split x55 (
     ∀n3:Int,n3=(i64.wrap (n2+1))→
     ∃m4,m4<m3∧I1 m4 n3 (i64.wrap (x36+1))) (
     ∃m4,m4<m3∧I1 m4 n2 (i64.wrap (x36+1)))) (
    ∃m2,m2<m1∧I m2 n2 (i64.wrap (x32+1)))) (
   Q ⟨(.bool (n1==1)),none,[],[],[]⟩))
theorem CY:Vc2 Un Tryz.prog (bd [(56,cF),(105,ez),(106,od),(101,cX),(108,cz)]) [5] Tryz.f67 (.r' (.two (.two (.node [] (some ⟨[(20,(.one .bool))],[],upN 11 10,[]⟩) [] [] .leaf .leaf) .leaf) (.r' (.two (.r' (.two (.node [] (some ⟨[(5,(.one (.int .i64))),(32,(.one (.int .i64)))],[],[5,7,8,9,10]++upN 32 28,[]⟩) [] [] (.r' (.r' (.two (.two (.r' (.r' (.two (.node [] (some ⟨[(5,(.one (.int .i64))),(36,(.one (.int .i64)))],[],[5,8,9,10]++upN 36 23,[]⟩) [] [] (.r' (.r' (.two (.two (.r' (.r' (.two (.node [] (some ⟨[(55,(.one .bool))],[],upN 47 9,[]⟩) [] [] .leaf .leaf) .leaf))) .leaf) .leaf))) .leaf) .leaf))) .leaf) .leaf))) .leaf) .leaf)) .leaf)))) [] gy=(∀p g r (E:Pd) rm (m:Mem) A c (l:List Ent),∀Q,(E.n=m.S∧l=E.aj∧(E.on m).has p=true∧Q ⟨(.bool ((E.on m).clause 10 p)),none,[],[],[]⟩)→CX p g r E rm m A c l Q):=by kernel_rfl
section
attribute [local grind=] DB.tq DB.is
theorem tG:LV Un Tryz.prog 67 gy:=verify Tryz.func67 aa (tb:= [(56,cF),(105,ez),(106,od),(101,cX),(108,cz)]) ⟨iy,mA,FH,jw,j3,trivial⟩ (by kernel_rfl) (CY.mpr fun p g r E rm m A c l Q h=>by
 obtain⟨hp0,hp1,hp2,h⟩:=h
 subst hp1
 exact fun f1 f2=>(by(have hw:=fun a b=>gB (E:=E) f2 a b);(have hi64:=fun a b=>ai (x:=(E.on m).word a b) (by have:=hw a b;omega));(have hu64:=fun a b=>fg (x:=(E.on m).word a b) (by have:=hw a b;omega));(have hge:E.aj.getD p.toNat Ent.free=(E.on m).at_ p:=by rw [Pd.bM (by grind),Pd.jG]);(have hmt:∀q,m.has true q=(E.on m).has q:=fun q=>rfl);(have hmf:∀q,m.has false q=decide (0≤q∧q<(m.I:Int)):=fun q=>rfl);(have hps:=fun w=>Bk w);exact bw ((!((E.on m).is p 5)) || (!(if(E.on m).is p 1 then((E.on m).at_ p).state !=3 else(E.on m).alive p))) (ao ‹_› fun s3=>ao (by rfl) fun s4=>ao ‹_› fun s5=>ae (fun c1=>(by grind)) fun c1=>ao ‹_› fun s6=>ao (by rfl) fun s7=>ao ‹_› fun s8=>(by grind))<| aS (fun c2=>aX h (by grind)) fun c2=>allEq<| ao (by grind) fun s9=>ao ‹_› fun s10=>ao (by rfl) fun s11=>fun A1 c1=>fun l1 h_l1=>⟨fun m1 n1 x32=>(m1=((l1.length:Int) - x32).toNat)∧(0≤x32∧x32≤(l1.length:Int))∧(n1=(E.on m).iH p l1 x32),⟨_,rfl,(by constructor<;>omega),(by rfl)⟩,fun m1 _ n1 x32 ⟨hm,hx,hn⟩=>(by(have hl1:l1=(E.on m).pgs 4 ((E.on m).at_ p).owner (E.on m).S:=by rw [h_l1,hge]);exact ax (fun c3=>ao (by grind) fun s12=>⟨fun m3 n2 x36=>(m3=(1024 - x36).toNat)∧(0≤x36∧x36≤1024)∧(n2=(E.on m).iH p l1 x32+dD ((E.on m).kC p (l1.getD x32.toNat (I64.mk 0)).v) x36),⟨_,rfl,(by omega),(by rw [CD,Int.add_zero];exact hn)⟩,fun m3 _ n2 x36 ⟨hm,hj,hm2⟩=>ax (fun c4=>ao ‹_› fun s13=>ao (by rfl) fun s14=>ao (hw _ x36) fun s15=>fun gv3=>bw ((((lT ((E.on m).word ((l1.getD x32.toNat (I64.mk 0)).v) x36)):Int)==0) && (bf #[(.bool ((cw ((E.on m).word ((l1.getD x32.toNat (I64.mk 0)).v) x36)).bH)),(.int .i64 ((cw ((E.on m).word ((l1.getD x32.toNat (I64.mk 0)).v) x36)).ar))] #[(.bool true),(.int .i64 p)])) (ae (fun c5=>(by grind)) fun c5=>(by grind))<| bQ (fun c6=>allEq<| ⟨_,(by(have h9:=ai (x:=x36+1) (by grind));omega),rfl,(by(have h9:=ai (x:=x36+1) (by grind));omega),(by have h81:=DB.jk (E.on m) 4 ((E.on m).at_ p).owner (E.on m).S;rw [← hl1]at h81;have h9:=ai (x:=x36+1) (by omega);have h8:=eQ (f:=(E.on m).kC p (l1.getD x32.toNat (I64.mk 0)).v) hj.1;have h7:=mi (f:=(E.on m).kC p (l1.getD x32.toNat (I64.mk 0)).v) hj.1;have h6:=iu (f:=(E.on m).kC p (l1.getD x32.toNat (I64.mk 0)).v) (n:=x36);have h5:=DB.sD (D:=E.on m) (p:=p) (l:=l1) hx.1;have h3:=ai (x:=n2+1) (by grind);(grind [DB.kC,eqF]))⟩) fun c6=>⟨_,(by(have h9:=ai (x:=x36+1) (by grind));omega),rfl,(by(have h9:=ai (x:=x36+1) (by grind));omega),(by have h81:=DB.jk (E.on m) 4 ((E.on m).at_ p).owner (E.on m).S;rw [← hl1]at h81;have h9:=ai (x:=x36+1) (by omega);have h8:=eQ (f:=(E.on m).kC p (l1.getD x32.toNat (I64.mk 0)).v) hj.1;have h7:=mi (f:=(E.on m).kC p (l1.getD x32.toNat (I64.mk 0)).v) hj.1;have h6:=iu (f:=(E.on m).kC p (l1.getD x32.toNat (I64.mk 0)).v) (n:=x36);have h5:=DB.sD (D:=E.on m) (p:=p) (l:=l1) hx.1;have h3:=ai (x:=n2+1) (by grind);(grind [DB.kC,eqF]))⟩) fun c4=>⟨_,(by have h81:=DB.jk (E.on m) 4 ((E.on m).at_ p).owner (E.on m).S;rw [← hl1]at h81;rw [ai (x:=x32+1) (by grind)];grind),rfl,(by have h81:=DB.jk (E.on m) 4 ((E.on m).at_ p).owner (E.on m).S;rw [← hl1]at h81;rw [ai (x:=x32+1) (by grind)];grind),(by have h81:=DB.jk (E.on m) 4 ((E.on m).at_ p).owner (E.on m).S;rw [← hl1]at h81;rw [ai (x:=x32+1) (by grind),DB.pE ⟨hx.1,by grind⟩,hm2,show x36=1024 by omega])⟩⟩) fun c3=>aX h (by(have hb:=DB.once_eq (D:=E.on m) (p:=p) (n:=n1) (x:=x32) (by rw [← hl1];grind) (by rw [← hl1];exact hn));rw [DB.tq,hb];grind))⟩))
end
end Go.Proofs.YtbjlecpmgocoeaaGreatDoor
end
section
set_option maxRecDepth 100000
set_option maxHeartbeats 1000000
namespace Go.Proofs.YtbjlecpmgocoeaaGreatDoor
open Go Go.RowKit V
open Go.IntKind (i64 u32 u64)
open Go.Proofs (Tryz.prog)
attribute [local grind=] Pd.cP Pd.bM Pd.jl Pd.jG Pd.dq Pd.cx Pd.eK Pd.gj Pd.lM
attribute [local grind .] Pd.Ok.ent
attribute [local grind→] Pd.Ok.cH
section
attribute [local grind=] DB.clause own DB.cW
end
theorem DB.qJ {D:DB} {c p:Int}(hc:1≤c∧c≤12)(hb:D.dI (13 - c).toNat c=D.broken)(hz:fc (D.clause c) 0 p=true)(hf:D.clause c p=false)(hp:0≤p∧p<(D.S:Int)):D.broken=(c,p):=by
 rw [← hb,show(13 - c).toNat=(12 - c).toNat+1 by omega,dI,dz,dU hp.1 hp.2 hf,leastN_eq hz hf hp.1 (by omega)]
 rfl
theorem DB.xt {D:DB} {c:Int}(hc:1≤c∧c≤12)(hb:D.dI (13 - c).toNat c=D.broken) {p:Int}(hp:p=(D.S:Int))(hz:fc (D.clause c) 0 p=true):D.dI (13 - (c+1)).toNat (c+1)=D.broken:=by
 subst hp
 rw [← hb,show(13 - c).toNat=(13 - (c+1)).toNat+1 by omega,dI,dz,hz]
 rfl
theorem DB.n8 {D:DB} {c:Int}(hc:¬c≤12)(hc2:c≤13)(hb:D.dI (13 - c).toNat c=D.broken):D.broken=(0,0):=by
 rw [← hb,show(13 - c).toNat=0 by omega];rfl
section
attribute [local grind=] DB.holds
end
end Go.Proofs.YtbjlecpmgocoeaaGreatDoor
end
section
set_option maxRecDepth 100000
set_option maxHeartbeats 1000000
namespace Go.Proofs.YtbjlecpmgocoeaaGreatDoor
open Go Go.RowKit V
open Go.IntKind (i64 u32 u64)
open Go.Proofs (Tryz.prog)
attribute [local grind=] Pd.cP Pd.bM Pd.jl Pd.jG Pd.dq Pd.cx Pd.eK Pd.gj Pd.lM Pd.oF
attribute [local grind .] Pd.Ok.ent
attribute [local grind→] Pd.Ok.cH
def eW:Ctr Un:=⟨[.one (.int .i64),.one (.ptr 0)],[],[.blk [.ptr 1] 53,.blk [.obj 2 0,.sl 4] 58,.ob 1 [(1,3,0)],.ob 0 [],.lst 4 false 99],[],fun p gb g r E rm m A c l K=>E.n=m.S∧l=E.aj∧(E.on m).has p=true∧K ⟨(.bool ((E.on m).clause 1 p)),none,[],[],[]⟩⟩
def xZ(p:Int)(gb:Nat)(g:Nat)(r:Nat→Nat)(E:Pd)(rm:Nat→Nat)(m:Mem)(A:Option Addr)(c:Nat)(l:List Ent)(Q:Ou Un→Prop):Prop:=
 Pd.Ok E→
 Mem.Wf m→
 ∃J:Bool→Prop,(
  E.n=m.S∧
  l=E.aj∧
  (E.on m).has p=true∧
  split (!((E.on m).is p 1)) (
   J true) (
   (0≤p∧p<(l.length:Int))∧
   J ((l.getD p.toNat Ent.free).owner==p)))∧∀(_gv:Nat→Value)(x3:Bool),J x3→
 Q ⟨(.bool x3),none,[],[],[]⟩
theorem ya:Vc2 Un Tryz.prog (bd [(56,cF)]) [] Tryz.f55 (.r' (.two (.node [] (some ⟨[(3,(.one .bool))],[],upN 3 17,[]⟩) [] [] .leaf .leaf) .leaf)) [] eW=(∀p gb g r (E:Pd) rm (m:Mem) A c (l:List Ent),∀Q,(E.n=m.S∧l=E.aj∧(E.on m).has p=true∧Q ⟨(.bool ((E.on m).clause 1 p)),none,[],[],[]⟩)→xZ p gb g r E rm m A c l Q):=by kernel_rfl
section
attribute [local grind=] DB.xn DB.is
theorem oo:LV Un Tryz.prog 55 eW:=verify Tryz.func55 aa (tb:= [(56,cF)]) ⟨iy,trivial⟩ (by kernel_rfl) (ya.mpr fun p gb g r E rm m A c l Q h=>by
 obtain⟨hp0,hp1,hp2,h⟩:=h
 subst hp1
 exact fun f1 f2=>bw ((!((E.on m).is p 1)) || (((E.aj.getD p.toNat Ent.free).owner:Int)==p)) (ao ‹_› fun s3=>ao (by rfl) fun s4=>ao ‹_› fun s5=>ae (fun c1=>(by grind)) fun c1=>ao (by grind) fun s6=>(by grind))<| aX h (by grind))
end
def eV:Ctr Un:=⟨[.one (.int .i64),.one (.ptr 0)],[],[.blk [.ptr 1] 53,.blk [.obj 2 0,.sl 4] 58,.ob 1 [(1,3,0)],.ob 0 [],.lst 4 false 99],[],fun p gb g r E rm m A c l K=>E.n=m.S∧l=E.aj∧(E.on m).has p=true∧K ⟨(.bool ((E.on m).clause 2 p)),none,[],[],[]⟩⟩
def xX(p:Int)(gb:Nat)(g:Nat)(r:Nat→Nat)(E:Pd)(rm:Nat→Nat)(m:Mem)(A:Option Addr)(c:Nat)(l:List Ent)(Q:Ou Un→Prop):Prop:=
 Pd.Ok E→
 Mem.Wf m→
 ∃J:Bool→Prop,(
  E.n=m.S∧
  l=E.aj∧
  (E.on m).has p=true∧
  split (!((E.on m).is p 0)) (
   J true) (
   E.n=m.S∧
   l=E.aj∧
   (0≤(0:Int)∧(1024:Int)≤1024)∧
   J ((E.on m).zero p 0 1024)))∧∀(_gv:Nat→Value)(x3:Bool),J x3→
 Q ⟨(.bool x3),none,[],[],[]⟩
theorem xY:Vc2 Un Tryz.prog (bd [(56,cF),(58,eG)]) [] Tryz.f57 (.r' (.two (.node [] (some ⟨[(3,(.one .bool))],[],upN 3 10,[]⟩) [] [] .leaf .leaf) .leaf)) [] eV=(∀p gb g r (E:Pd) rm (m:Mem) A c (l:List Ent),∀Q,(E.n=m.S∧l=E.aj∧(E.on m).has p=true∧Q ⟨(.bool ((E.on m).clause 2 p)),none,[],[],[]⟩)→xX p gb g r E rm m A c l Q):=by kernel_rfl
section
attribute [local grind=] DB.qI DB.is
theorem om:LV Un Tryz.prog 57 eV:=verify Tryz.func57 aa (tb:= [(56,cF),(58,eG)]) ⟨iy,my,trivial⟩ (by kernel_rfl) (xY.mpr fun p gb g r E rm m A c l Q h=>by
 obtain⟨hp0,hp1,hp2,h⟩:=h
 subst hp1
 exact fun f1 f2=>bw ((!((E.on m).is p 0)) || ((E.on m).zero p 0 1024)) (ao ‹_› fun s3=>ao (by rfl) fun s4=>ao ‹_› fun s5=>ae (fun c1=>(by grind)) fun c1=>ao ‹_› fun s6=>ao (by rfl) fun s7=>ao (by omega) fun s8=>(by grind))<| aX h (by grind))
end
def eU:Ctr Un:=⟨[.one (.int .i64),.one (.ptr 0)],[],[.blk [.ptr 1] 53,.blk [.obj 2 0,.sl 4] 58,.ob 1 [(1,3,0)],.ob 0 [],.lst 4 false 99],[],fun p gb g r E rm m A c l K=>E.n=m.S∧l=E.aj∧(E.on m).has p=true∧K ⟨(.bool ((E.on m).clause 3 p)),none,[],[],[]⟩⟩
def xV(p:Int)(gb:Nat)(g:Nat)(r:Nat→Nat)(E:Pd)(rm:Nat→Nat)(m:Mem)(A:Option Addr)(c:Nat)(l:List Ent)(Q:Ou Un→Prop):Prop:=
 Pd.Ok E→
 Mem.Wf m→
 ∃J:Bool→Prop,(
  E.n=m.S∧
  l=E.aj∧
  (E.on m).has p=true∧
  split ((E.on m).is p 0) (
   J true) (
   E.n=m.S∧
   l=E.aj∧
   (E.on m).has p=true∧
   split ((E.on m).is p 1) (
    J true) (
    E.n=m.S∧
    l=E.aj∧
    (E.on m).has p=true∧
    J (decide (((E.on m).cg p)≥0)))))∧∀(_gv:Nat→Value)(x3:Bool),J x3→
 Q ⟨(.bool x3),none,[],[],[]⟩
theorem xW:Vc2 Un Tryz.prog (bd [(56,cF),(60,fK)]) [] Tryz.f59 (.r' (.two (.node [] (some ⟨[(3,(.one .bool))],[],upN 3 15,[]⟩) [] [] .leaf .leaf) .leaf)) [] eU=(∀p gb g r (E:Pd) rm (m:Mem) A c (l:List Ent),∀Q,(E.n=m.S∧l=E.aj∧(E.on m).has p=true∧Q ⟨(.bool ((E.on m).clause 3 p)),none,[],[],[]⟩)→xV p gb g r E rm m A c l Q):=by kernel_rfl
section
attribute [local grind=] DB.Fe DB.is DB.cg
theorem oh:LV Un Tryz.prog 59 eU:=verify Tryz.func59 aa (tb:= [(56,cF),(60,fK)]) ⟨iy,qW,trivial⟩ (by kernel_rfl) (xW.mpr fun p gb g r E rm m A c l Q h=>by
 obtain⟨hp0,hp1,hp2,h⟩:=h
 subst hp1
 exact fun f1 f2=>bw (((E.on m).is p 0) || (((E.on m).is p 1) || (decide ((((E.on m).cg p):Int)≥0)))) (ao ‹_› fun s3=>ao (by rfl) fun s4=>ao ‹_› fun s5=>ae (fun c1=>(by grind)) fun c1=>ao ‹_› fun s6=>ao (by rfl) fun s7=>ao ‹_› fun s8=>ae (fun c2=>(by grind)) fun c2=>ao ‹_› fun s9=>ao (by rfl) fun s10=>ao ‹_› fun s11=>(by grind))<| aX h (by grind))
end
def eT:Ctr Un:=⟨[.one (.int .i64),.one (.ptr 0)],[],[.blk [.ptr 1] 53,.blk [.obj 2 0,.sl 4] 58,.ob 1 [(1,3,0)],.ob 0 [],.lst 4 false 99],[],fun p gb g r E rm m A c l K=>E.n=m.S∧l=E.aj∧(E.on m).has p=true∧K ⟨(.bool ((E.on m).clause 4 p)),none,[],[],[]⟩⟩
def xT(p:Int)(gb:Nat)(g:Nat)(r:Nat→Nat)(E:Pd)(rm:Nat→Nat)(m:Mem)(A:Option Addr)(c:Nat)(l:List Ent)(Q:Ou Un→Prop):Prop:=
 Pd.Ok E→
 Mem.Wf m→
 ∃J:Bool→Prop,(
  E.n=m.S∧
  l=E.aj∧
  (E.on m).has p=true∧
  split (!((E.on m).is p 1)) (
   J true) (
   (0≤p∧p<(l.length:Int))∧
   E.n=m.S∧
   ∀(A1:Option Addr)(c1:Nat),
   ∀(l1:List I64),l1=own (E.on m) p→
   J ((l.getD p.toNat Ent.free).refs==(((own (E.on m) p).length):Int))))∧∀(_gv:Nat→Value)(x3:Bool),J x3→
 Q ⟨(.bool x3),none,[],[],[]⟩
theorem xU:Vc2 Un Tryz.prog (bd [(56,cF),(51,rT)]) [] Tryz.f61 (.r' (.two (.node [] (some ⟨[(3,(.one .bool))],[],upN 3 23,[]⟩) [] [(0,[0]),(5,[0]),(8,[1]),(12,[4]),(13,[0]),(16,[1])] .leaf .leaf) .leaf)) [] eT=(∀p gb g r (E:Pd) rm (m:Mem) A c (l:List Ent),∀Q,(E.n=m.S∧l=E.aj∧(E.on m).has p=true∧Q ⟨(.bool ((E.on m).clause 4 p)),none,[],[],[]⟩)→xT p gb g r E rm m A c l Q):=by kernel_rfl
section
attribute [local grind=] DB.Fc DB.is own DB.cW
theorem og:LV Un Tryz.prog 61 eT:=verify Tryz.func61 aa (tb:= [(56,cF),(51,rT)]) ⟨iy,yZ,trivial⟩ (by kernel_rfl) (xU.mpr fun p gb g r E rm m A c l Q h=>by
 obtain⟨hp0,hp1,hp2,h⟩:=h
 subst hp1
 exact fun f1 f2=>bw ((!((E.on m).is p 1)) || (((E.aj.getD p.toNat Ent.free).refs:Int)==((((own (E.on m) p).length):Nat):Int))) (ao ‹_› fun s3=>ao (by rfl) fun s4=>ao ‹_› fun s5=>ae (fun c1=>(by grind)) fun c1=>ao (by grind) fun s6=>ao ‹_› fun s7=>fun A1 c1=>fun l1 h_l1=>(by grind))<| aX h (by grind))
end
def eS:Ctr Un:=⟨[.one (.int .i64),.one (.ptr 0)],[],[.blk [.ptr 1] 53,.blk [.obj 2 0,.sl 4] 58,.ob 1 [(1,3,0)],.ob 0 [],.lst 4 false 99],[],fun p gb g r E rm m A c l K=>E.n=m.S∧l=E.aj∧(E.on m).has p=true∧K ⟨(.bool ((E.on m).clause 12 p)),none,[],[],[]⟩⟩
def xR(p:Int)(gb:Nat)(g:Nat)(r:Nat→Nat)(E:Pd)(rm:Nat→Nat)(m:Mem)(A:Option Addr)(c:Nat)(l:List Ent)(Q:Ou Un→Prop):Prop:=
 Pd.Ok E→
 Mem.Wf m→
 ∃J:Bool→Prop,(
  E.n=m.S∧
  l=E.aj∧
  (E.on m).has p=true∧
  split (!((E.on m).is p 6)) (
   J true) (
   E.n=m.S∧
   l=E.aj∧
   (0≤(0:Int)∧(1024:Int)≤1024)∧
   J ((E.on m).zero p 0 1024)))∧∀(_gv:Nat→Value)(x3:Bool),J x3→
 Q ⟨(.bool x3),none,[],[],[]⟩
theorem xS:Vc2 Un Tryz.prog (bd [(56,cF),(58,eG)]) [] Tryz.f69 (.r' (.two (.node [] (some ⟨[(3,(.one .bool))],[],upN 3 10,[]⟩) [] [] .leaf .leaf) .leaf)) [] eS=(∀p gb g r (E:Pd) rm (m:Mem) A c (l:List Ent),∀Q,(E.n=m.S∧l=E.aj∧(E.on m).has p=true∧Q ⟨(.bool ((E.on m).clause 12 p)),none,[],[],[]⟩)→xR p gb g r E rm m A c l Q):=by kernel_rfl
section
attribute [local grind=] DB.CF DB.is
theorem oe:LV Un Tryz.prog 69 eS:=verify Tryz.func69 aa (tb:= [(56,cF),(58,eG)]) ⟨iy,my,trivial⟩ (by kernel_rfl) (xS.mpr fun p gb g r E rm m A c l Q h=>by
 obtain⟨hp0,hp1,hp2,h⟩:=h
 subst hp1
 exact fun f1 f2=>bw ((!((E.on m).is p 6)) || ((E.on m).zero p 0 1024)) (ao ‹_› fun s3=>ao (by rfl) fun s4=>ao ‹_› fun s5=>ae (fun c1=>(by grind)) fun c1=>ao ‹_› fun s6=>ao (by rfl) fun s7=>ao (by omega) fun s8=>(by grind))<| aX h (by grind))
end
def cC(g gb:Nat)(n:Int):Value:=
 if n=1 then .func (.func 55) #[] #[.pointer (some ⟨gb,0,none⟩)]
 else if n=2 then .func (.func 57) #[] #[.pointer (some ⟨gb,0,none⟩)]
 else if n=3 then .func (.func 59) #[] #[.pointer (some ⟨gb,0,none⟩)]
 else if n=4 then .func (.func 61) #[] #[.pointer (some ⟨gb,0,none⟩)]
 else if n=5 then .func (.func 62) #[.pointer (some ⟨g,0,none⟩)] #[]
 else if n=6 then .func (.func 63) #[.pointer (some ⟨g,0,none⟩)] #[]
 else if n=7 then .func (.func 64) #[.pointer (some ⟨g,0,none⟩)] #[]
 else if n=8 then .func (.func 65) #[.pointer (some ⟨g,0,none⟩)] #[]
 else if n=9 then .func (.func 66) #[.pointer (some ⟨g,0,none⟩)] #[]
 else if n=10 then .func (.func 67) #[.pointer (some ⟨g,0,none⟩)] #[]
 else if n=11 then .func (.func 68) #[.pointer (some ⟨g,0,none⟩)] #[]
 else .func (.func 69) #[] #[.pointer (some ⟨gb,0,none⟩)]
def gz:Ctr Un:=⟨[.one (.ptr 0),.one (.int .i64)],[],[.blk [.obj 1 0,.sl 3] 58,.ob 1 [(1,2,0)],.ob 0 [],.lst 4 false 99],[],fun n g r E rm m A c l K=>E.n=m.S∧l=E.aj∧∀(gb:Nat)(v:Value),v=cC g gb n→K ⟨v,none,[],[(.blk gb [(.pointer (some (Addr.mk g 0 none)))] 53)],[(.c 4 0,.p (.loc 0 0))]⟩⟩
def C0(n:Int)(g:Nat)(r:Nat→Nat)(E:Pd)(rm:Nat→Nat)(m:Mem)(A:Option Addr)(c:Nat)(l:List Ent)(Q:Ou Un→Prop):Prop:=
 Pd.Ok E→
 Mem.Wf m→
 ∀(gv:Nat),
 ∀x6:Bool,x6=((n:Int)==1)→
 split x6 (
  ∃J:Value→Prop,(
   J (.func (.func 55) #[] #[(.pointer (some (Addr.mk gv 0 none)))]))∧∀(_gv1:Nat→Value)(x4:Value),J x4→
  Q ⟨x4,none,[],[(.blk gv [(.pointer (some (Addr.mk g 0 none)))] 53)],[(.c 4 0,.p (.loc 0 0))]⟩) (
  ∀x9:Bool,x9=((n:Int)==2)→
  split x9 (
   ∃J:Value→Prop,(
    J (.func (.func 57) #[] #[(.pointer (some (Addr.mk gv 0 none)))]))∧∀(_gv1:Nat→Value)(x4:Value),J x4→
   Q ⟨x4,none,[],[(.blk gv [(.pointer (some (Addr.mk g 0 none)))] 53)],[(.c 4 0,.p (.loc 0 0))]⟩) (
   ∀x12:Bool,x12=((n:Int)==3)→
   split x12 (
    ∃J:Value→Prop,(
     J (.func (.func 59) #[] #[(.pointer (some (Addr.mk gv 0 none)))]))∧∀(_gv1:Nat→Value)(x4:Value),J x4→
    Q ⟨x4,none,[],[(.blk gv [(.pointer (some (Addr.mk g 0 none)))] 53)],[(.c 4 0,.p (.loc 0 0))]⟩) (
    ∀x15:Bool,x15=((n:Int)==4)→
    split x15 (
     ∃J:Value→Prop,(
      J (.func (.func 61) #[] #[(.pointer (some (Addr.mk gv 0 none)))]))∧∀(_gv1:Nat→Value)(x4:Value),J x4→
     Q ⟨x4,none,[],[(.blk gv [(.pointer (some (Addr.mk g 0 none)))] 53)],[(.c 4 0,.p (.loc 0 0))]⟩) (
     ∀x18:Bool,x18=((n:Int)==5)→
     split x18 (
      ∃J:Value→Prop,(
       J (.func (.func 62) #[(.pointer (some (Addr.mk g 0 none)))] #[]))∧∀(_gv1:Nat→Value)(x4:Value),J x4→
      Q ⟨x4,none,[],[(.blk gv [(.pointer (some (Addr.mk g 0 none)))] 53)],[(.c 4 0,.p (.loc 0 0))]⟩) (
      ∀x22:Bool,x22=((n:Int)==6)→
      split x22 (
       ∃J:Value→Prop,(
        J (.func (.func 63) #[(.pointer (some (Addr.mk g 0 none)))] #[]))∧∀(_gv1:Nat→Value)(x4:Value),J x4→
       Q ⟨x4,none,[],[(.blk gv [(.pointer (some (Addr.mk g 0 none)))] 53)],[(.c 4 0,.p (.loc 0 0))]⟩) (
       ∀x26:Bool,x26=((n:Int)==7)→
       split x26 (
        ∃J:Value→Prop,(
         J (.func (.func 64) #[(.pointer (some (Addr.mk g 0 none)))] #[]))∧∀(_gv1:Nat→Value)(x4:Value),J x4→
        Q ⟨x4,none,[],[(.blk gv [(.pointer (some (Addr.mk g 0 none)))] 53)],[(.c 4 0,.p (.loc 0 0))]⟩) (
        ∀x30:Bool,x30=((n:Int)==8)→
        split x30 (
         ∃J:Value→Prop,(
          J (.func (.func 65) #[(.pointer (some (Addr.mk g 0 none)))] #[]))∧∀(_gv1:Nat→Value)(x4:Value),J x4→
         Q ⟨x4,none,[],[(.blk gv [(.pointer (some (Addr.mk g 0 none)))] 53)],[(.c 4 0,.p (.loc 0 0))]⟩) (
         ∀x34:Bool,x34=((n:Int)==9)→
         split x34 (
          ∃J:Value→Prop,(
           J (.func (.func 66) #[(.pointer (some (Addr.mk g 0 none)))] #[]))∧∀(_gv1:Nat→Value)(x4:Value),J x4→
          Q ⟨x4,none,[],[(.blk gv [(.pointer (some (Addr.mk g 0 none)))] 53)],[(.c 4 0,.p (.loc 0 0))]⟩) (
          ∀x38:Bool,x38=((n:Int)==10)→
          split x38 (
           ∃J:Value→Prop,(
            J (.func (.func 67) #[(.pointer (some (Addr.mk g 0 none)))] #[]))∧∀(_gv1:Nat→Value)(x4:Value),J x4→
           Q ⟨x4,none,[],[(.blk gv [(.pointer (some (Addr.mk g 0 none)))] 53)],[(.c 4 0,.p (.loc 0 0))]⟩) (
           ∀x42:Bool,x42=((n:Int)==11)→
           split x42 (
            ∃J:Value→Prop,(
             J (.func (.func 68) #[(.pointer (some (Addr.mk g 0 none)))] #[]))∧∀(_gv1:Nat→Value)(x4:Value),J x4→
            Q ⟨x4,none,[],[(.blk gv [(.pointer (some (Addr.mk g 0 none)))] 53)],[(.c 4 0,.p (.loc 0 0))]⟩) (
            ∃J:Value→Prop,(
             J (.func (.func 69) #[] #[(.pointer (some (Addr.mk gv 0 none)))]))∧∀(_gv1:Nat→Value)(x4:Value),J x4→
            Q ⟨x4,none,[],[(.blk gv [(.pointer (some (Addr.mk g 0 none)))] 53)],[(.c 4 0,.p (.loc 0 0))]⟩)))))))))))
theorem C1:Vc2 Un Tryz.prog (bd []) [6,9,12,15,18,22,26,30,34,38,42] Tryz.f22 (.r' (.two (.r' (.two (.r' (.two (.two (.node [] (some ⟨[(4,(.one .val))],[],[4,8],[]⟩) [] [] .leaf .leaf) .leaf) (.r' (.two (.two (.node [] (some ⟨[(4,(.one .val))],[],[4,11],[]⟩) [] [] .leaf .leaf) .leaf) (.r' (.two (.two (.node [] (some ⟨[(4,(.one .val))],[],[4,14],[]⟩) [] [] .leaf .leaf) .leaf) (.r' (.two (.two (.node [] (some ⟨[(4,(.one .val))],[],[4,17],[]⟩) [] [] .leaf .leaf) .leaf) (.r' (.two (.two (.node [] (some ⟨[(4,(.one .val))],[],[4,20,21],[]⟩) [] [] .leaf .leaf) .leaf) (.r' (.two (.two (.node [] (some ⟨[(4,(.one .val))],[],[4,24,25],[]⟩) [] [] .leaf .leaf) .leaf) (.r' (.two (.two (.node [] (some ⟨[(4,(.one .val))],[],[4,28,29],[]⟩) [] [] .leaf .leaf) .leaf) (.r' (.two (.two (.node [] (some ⟨[(4,(.one .val))],[],[4,32,33],[]⟩) [] [] .leaf .leaf) .leaf) (.r' (.two (.two (.node [] (some ⟨[(4,(.one .val))],[],[4,36,37],[]⟩) [] [] .leaf .leaf) .leaf) (.r' (.two (.two (.node [] (some ⟨[(4,(.one .val))],[],[4,40,41],[]⟩) [] [] .leaf .leaf) .leaf) (.r' (.two (.two (.node [] (some ⟨[(4,(.one .val))],[],[4,44,45],[]⟩) [] [] .leaf .leaf) .leaf) .leaf)))))))))))))))))))))) .leaf)) (.two (.node [] (some ⟨[(4,(.one .val))],[],[4,46],[]⟩) [] [] .leaf .leaf) .leaf))) [4] gz=(∀n g r (E:Pd) rm (m:Mem) A c (l:List Ent),∀Q,(E.n=m.S∧l=E.aj∧∀(gb:Nat)(v:Value),v=cC g gb n→Q ⟨v,none,[],[(.blk gb [(.pointer (some (Addr.mk g 0 none)))] 53)],[(.c 4 0,.p (.loc 0 0))]⟩)→C0 n g r E rm m A c l Q):=by kernel_rfl
theorem tH:LV Un Tryz.prog 22 gz:=verify Tryz.func22 aa (tb:= []) trivial (by kernel_rfl) (C1.mpr fun n g r E rm m A c l Q h=>by
 obtain⟨hp0,hp1,h⟩:=h
 subst hp1
 exact fun f1 f2=>fun gv=>allEq<| aE (fun c1=>oH<| aK (h gv (.func (.func 55) #[] #[(.pointer (some (Addr.mk gv 0 none)))]) (by simp [cC,c1])) rfl rfl (af (congrArg (fun l=>Res.blk (U:=Un) _ l _) rfl) rfl)) fun c1=>allEq<| aE (fun c2=>oH<| aK (h gv (.func (.func 57) #[] #[(.pointer (some (Addr.mk gv 0 none)))]) (by simp [cC,c1,c2])) rfl rfl (af (congrArg (fun l=>Res.blk (U:=Un) _ l _) rfl) rfl)) fun c2=>allEq<| aE (fun c3=>oH<| aK (h gv (.func (.func 59) #[] #[(.pointer (some (Addr.mk gv 0 none)))]) (by simp [cC,c1,c2,c3])) rfl rfl (af (congrArg (fun l=>Res.blk (U:=Un) _ l _) rfl) rfl)) fun c3=>allEq<| aE (fun c4=>oH<| aK (h gv (.func (.func 61) #[] #[(.pointer (some (Addr.mk gv 0 none)))]) (by simp [cC,c1,c2,c3,c4])) rfl rfl (af (congrArg (fun l=>Res.blk (U:=Un) _ l _) rfl) rfl)) fun c4=>allEq<| aE (fun c5=>oH<| aK (h gv (.func (.func 62) #[(.pointer (some (Addr.mk g 0 none)))] #[]) (by simp [cC,c1,c2,c3,c4,c5])) rfl rfl (af (congrArg (fun l=>Res.blk (U:=Un) _ l _) rfl) rfl)) fun c5=>allEq<| aE (fun c6=>oH<| aK (h gv (.func (.func 63) #[(.pointer (some (Addr.mk g 0 none)))] #[]) (by simp [cC,c1,c2,c3,c4,c5,c6])) rfl rfl (af (congrArg (fun l=>Res.blk (U:=Un) _ l _) rfl) rfl)) fun c6=>allEq<| aE (fun c7=>oH<| aK (h gv (.func (.func 64) #[(.pointer (some (Addr.mk g 0 none)))] #[]) (by simp [cC,c1,c2,c3,c4,c5,c6,c7])) rfl rfl (af (congrArg (fun l=>Res.blk (U:=Un) _ l _) rfl) rfl)) fun c7=>allEq<| aE (fun c8=>oH<| aK (h gv (.func (.func 65) #[(.pointer (some (Addr.mk g 0 none)))] #[]) (by simp [cC,c1,c2,c3,c4,c5,c6,c7,c8])) rfl rfl (af (congrArg (fun l=>Res.blk (U:=Un) _ l _) rfl) rfl)) fun c8=>allEq<| aE (fun c9=>oH<| aK (h gv (.func (.func 66) #[(.pointer (some (Addr.mk g 0 none)))] #[]) (by simp [cC,c1,c2,c3,c4,c5,c6,c7,c8,c9])) rfl rfl (af (congrArg (fun l=>Res.blk (U:=Un) _ l _) rfl) rfl)) fun c9=>allEq<| aE (fun c10=>oH<| aK (h gv (.func (.func 67) #[(.pointer (some (Addr.mk g 0 none)))] #[]) (by simp [cC,c1,c2,c3,c4,c5,c6,c7,c8,c9,c10])) rfl rfl (af (congrArg (fun l=>Res.blk (U:=Un) _ l _) rfl) rfl)) fun c10=>allEq<| aE (fun c11=>oH<| aK (h gv (.func (.func 68) #[(.pointer (some (Addr.mk g 0 none)))] #[]) (by simp [cC,c1,c2,c3,c4,c5,c6,c7,c8,c9,c10,c11])) rfl rfl (af (congrArg (fun l=>Res.blk (U:=Un) _ l _) rfl) rfl)) fun c11=>oH<| aK (h gv (.func (.func 69) #[] #[(.pointer (some (Addr.mk gv 0 none)))]) (by simp [cC,c1,c2,c3,c4,c5,c6,c7,c8,c9,c10,c11])) rfl rfl (af (congrArg (fun l=>Res.blk (U:=Un) _ l _) rfl) rfl))
def qX:Ctr Un:=⟨[.one (.obj 0 0),.one (.int .i64)],[],[.ob 1 [(1,1,0)],.ob 0 []],[],fun n r E rm m K=>E.n=m.S∧K ⟨(.bool ((E.on m).holds n)),none,[],[],[]⟩⟩
def FL(n:Int)(r:Nat→Nat)(E:Pd)(rm:Nat→Nat)(m:Mem)(Q:Ou Un→Prop):Prop:=
 Pd.Ok E→
 Mem.Wf m→
 ∃J:Bool→Prop,(
  split (decide (n<1)) (
   J true) (
   J (decide (n>12))))∧∀(_gv:Nat→Value)(x13:Bool),J x13→
 split x13 (
  Q ⟨(.bool false),none,[],[],[]⟩) (
  E.n=m.S∧
  ∀(gv1:Nat)(A:Option Addr)(c:Nat),
  ∀(l:List Ent),l=E.aj→
  E.n=m.S∧
  l=E.aj∧
  ∀(gb:Nat)(v:Value),
  v=cC gv1 gb n→
  ∃I:Nat→Int→Prop,(∃m1,I m1 0)∧∀(m1:Nat)(_gv2:Nat→Value)(x24:Int),I m1 x24→
  split (decide (x24<(E.aj.length:Int))) (
   ∃b:Bool,(
    (v=(.func (.func 55) #[] #[(.pointer (some (Addr.mk gb 0 none)))])∧
     E.n=m.S∧
     l=E.aj∧
     (E.on m).has x24=true∧
     ((.bool ((E.on m).clause 1 x24)):Value)=(.bool b))∨
    (v=(.func (.func 57) #[] #[(.pointer (some (Addr.mk gb 0 none)))])∧
     E.n=m.S∧
     l=E.aj∧
     (E.on m).has x24=true∧
     ((.bool ((E.on m).clause 2 x24)):Value)=(.bool b))∨
    (v=(.func (.func 59) #[] #[(.pointer (some (Addr.mk gb 0 none)))])∧
     E.n=m.S∧
     l=E.aj∧
     (E.on m).has x24=true∧
     ((.bool ((E.on m).clause 3 x24)):Value)=(.bool b))∨
    (v=(.func (.func 61) #[] #[(.pointer (some (Addr.mk gb 0 none)))])∧
     E.n=m.S∧
     l=E.aj∧
     (E.on m).has x24=true∧
     ((.bool ((E.on m).clause 4 x24)):Value)=(.bool b))∨
    (v=(.func (.func 62) #[(.pointer (some (Addr.mk gv1 0 none)))] #[])∧
     E.n=m.S∧
     l=E.aj∧
     (E.on m).has x24=true∧
     ((.bool ((E.on m).clause 5 x24)):Value)=(.bool b))∨
    (v=(.func (.func 63) #[(.pointer (some (Addr.mk gv1 0 none)))] #[])∧
     E.n=m.S∧
     l=E.aj∧
     (E.on m).has x24=true∧
     ((.bool ((E.on m).clause 6 x24)):Value)=(.bool b))∨
    (v=(.func (.func 64) #[(.pointer (some (Addr.mk gv1 0 none)))] #[])∧
     E.n=m.S∧
     l=E.aj∧
     (E.on m).has x24=true∧
     ((.bool ((E.on m).clause 7 x24)):Value)=(.bool b))∨
    (v=(.func (.func 65) #[(.pointer (some (Addr.mk gv1 0 none)))] #[])∧
     E.n=m.S∧
     l=E.aj∧
     (E.on m).has x24=true∧
     ((.bool ((E.on m).clause 8 x24)):Value)=(.bool b))∨
    (v=(.func (.func 66) #[(.pointer (some (Addr.mk gv1 0 none)))] #[])∧
     E.n=m.S∧
     l=E.aj∧
     (E.on m).has x24=true∧
     ((.bool ((E.on m).clause 9 x24)):Value)=(.bool b))∨
    (v=(.func (.func 67) #[(.pointer (some (Addr.mk gv1 0 none)))] #[])∧
     E.n=m.S∧
     l=E.aj∧
     (E.on m).has x24=true∧
     ((.bool ((E.on m).clause 10 x24)):Value)=(.bool b))∨
    (v=(.func (.func 68) #[(.pointer (some (Addr.mk gv1 0 none)))] #[])∧
     E.n=m.S∧
     l=E.aj∧
     (E.on m).has x24=true∧
     ((.bool ((E.on m).clause 11 x24)):Value)=(.bool b))∨
    (v=(.func (.func 69) #[] #[(.pointer (some (Addr.mk gb 0 none)))])∧
     E.n=m.S∧
     l=E.aj∧
     (E.on m).has x24=true∧
     ((.bool ((E.on m).clause 12 x24)):Value)=(.bool b)))∧
   split (!b) (
    Q ⟨(.bool false),none,[],[],[]⟩) (
    ∃m2,m2<m1∧I m2 (i64.wrap (x24+1)))) (
   Q ⟨(.bool true),none,[],[],[]⟩))
theorem FM:Vc2 Un Tryz.prog ⟨zi [(21,jx),(22,gz),(55,eW),(57,eV),(59,eU),(61,eT),(62,gA),(63,iT),(64,iV),(65,iU),(66,kz),(67,gy),(68,gx),(69,eS)],.bool,[(55,[],[(.loc 4 0)]),(57,[],[(.loc 4 0)]),(59,[],[(.loc 4 0)]),(61,[],[(.loc 4 0)]),(62,[(.loc 2 0)],[]),(63,[(.loc 2 0)],[]),(64,[(.loc 2 0)],[]),(65,[(.loc 2 0)],[]),(66,[(.loc 2 0)],[]),(67,[(.loc 2 0)],[]),(68,[(.loc 2 0)],[]),(69,[],[(.loc 4 0)])]⟩ [] Tryz.f17 (.r' (.two (.two (.node [] (some ⟨[(13,(.one .bool))],[],upN 8 6,[]⟩) [] [] .leaf .leaf) .leaf) (.r' (.r' (.two (.r' (.two (.node [] (some ⟨[(24,(.one (.int .i64)))],[],[4,7]++upN 24 8,[]⟩) [] [] .leaf .leaf) .leaf)) .leaf))))) [] qX=(∀n r (E:Pd) rm (m:Mem),∀Q,(qX.body n r E rm m Q)→FL n r E rm m Q):=by kernel_rfl
section
attribute [local grind=] DB.holds
theorem FK:LV Un Tryz.prog 17 qX:=verify Tryz.func17 aa (tb:= [(21,jx),(22,gz),(55,eW),(57,eV),(59,eU),(61,eT),(62,gA),(63,iT),(64,iV),(65,iU),(66,kz),(67,gy),(68,gx),(69,eS)]) ⟨BM,tH,oo,om,oh,og,tI,xO,xQ,xP,BN,tG,tF,oe,trivial⟩ (by kernel_rfl) (FM.mpr fun n r E rm m Q h=>by
 obtain⟨hp0,h⟩:=h
 exact fun f1 f2=>bw ((decide ((n:Int)<1)) || (decide ((n:Int)>12))) (ae (fun c1=>(by grind)) fun c1=>(by grind))<| aS (fun c2=>aX h (by grind)) fun c2=>(by(have hn12:1≤n∧n≤12:=by simp at c2;omega);exact ao ‹_› fun s3=>fun gv1 A c=>fun l h_l=>ao ‹_› fun s4=>ao ‹_› fun s5=>fun gb v f6=>(by(have hv:=(by assumption:v=cC gv1 gb n));exact⟨fun m1 x24=>(m1=((E.n:Int) - x24).toNat)∧(0≤x24∧x24≤(E.n:Int))∧(fc ((E.on m).clause n) 0 x24=true),⟨_,rfl,(by omega),(gU (Int.le_refl _))⟩,fun m1 _ x24 ⟨hm,hi1,hz⟩=>ax (fun c3=>(by(have hhas:(E.on m).has x24=true:=by grind);exact⟨((E.on m).clause n x24),(by rcases(show n=1∨n=2∨n=3∨n=4∨n=5∨n=6∨n=7∨n=8∨n=9∨n=10∨n=11∨n=12 from by omega)with hk | hk | hk | hk | hk | hk | hk | hk | hk | hk | hk | hk<;>first | exact .inl ⟨by rw [hv,hk];rfl,hp0,h_l,hhas,by rw [hk]⟩ | exact .inr (.inl ⟨by rw [hv,hk];rfl,hp0,h_l,hhas,by rw [hk]⟩) | exact .inr (.inr (.inl ⟨by rw [hv,hk];rfl,hp0,h_l,hhas,by rw [hk]⟩)) | exact .inr (.inr (.inr (.inl ⟨by rw [hv,hk];rfl,hp0,h_l,hhas,by rw [hk]⟩))) | exact .inr (.inr (.inr (.inr (.inl ⟨by rw [hv,hk];rfl,hp0,h_l,hhas,by rw [hk]⟩)))) | exact .inr (.inr (.inr (.inr (.inr (.inl ⟨by rw [hv,hk];rfl,hp0,h_l,hhas,by rw [hk]⟩))))) | exact .inr (.inr (.inr (.inr (.inr (.inr (.inl ⟨by rw [hv,hk];rfl,hp0,h_l,hhas,by rw [hk]⟩)))))) | exact .inr (.inr (.inr (.inr (.inr (.inr (.inr (.inl ⟨by rw [hv,hk];rfl,hp0,h_l,hhas,by rw [hk]⟩))))))) | exact .inr (.inr (.inr (.inr (.inr (.inr (.inr (.inr (.inl ⟨by rw [hv,hk];rfl,hp0,h_l,hhas,by rw [hk]⟩)))))))) | exact .inr (.inr (.inr (.inr (.inr (.inr (.inr (.inr (.inr (.inl ⟨by rw [hv,hk];rfl,hp0,h_l,hhas,by rw [hk]⟩))))))))) | exact .inr (.inr (.inr (.inr (.inr (.inr (.inr (.inr (.inr (.inr (.inl ⟨by rw [hv,hk];rfl,hp0,h_l,hhas,by rw [hk]⟩)))))))))) | exact .inr (.inr (.inr (.inr (.inr (.inr (.inr (.inr (.inr (.inr (.inr (⟨by rw [hv,hk];rfl,hp0,h_l,hhas,by rw [hk]⟩)))))))))))),aW (fun c4=>aX h (by rw [DB.holds,DB.dz,dU hi1.1 (by grind) c4];simp)) fun c4=>⟨_,(by(have h9:=ai (x:=x24+1) (by grind));grind),rfl,(by(have h9:=ai (x:=x24+1) (by grind));grind),(eh hz (by grind) (ai (by grind)))⟩⟩)) fun c3=>aX h (by rw [DB.holds,DB.dz,← (show x24=((E.on m).S:Int)by grind),hz];grind)⟩)))
end
def np:Ctr Un:=⟨[.one (.obj 0 0)],[],[.ob 1 [(1,1,0)],.ob 0 []],[],fun r E rm m K=>E.n=m.S∧K ⟨(.tuple #[(.int .i64 ((E.on m).broken.1)),(.int .i64 ((E.on m).broken.2))]),(some (.t [none,none])),[],[],[]⟩⟩
def C4(r:Nat→Nat)(E:Pd)(rm:Nat→Nat)(m:Mem)(Q:Ou Un→Prop):Prop:=
 Pd.Ok E→
 Mem.Wf m→
 E.n=m.S∧
 ∀(gv:Nat)(A:Option Addr)(c:Nat),
 ∀(l:List Ent),l=E.aj→
 ∃I:Nat→Int→Int→Int→Prop,(∃m1,I m1 0 0 0)∧∀(m1:Nat)(_gv1:Nat→Value)(number:Int)(ar:Int)(x10:Int),I m1 number ar x10→
 split (decide (x10<12)) (
  E.n=m.S∧
  l=E.aj∧
  ∀(gb:Nat)(v:Value),
  v=cC gv gb (i64.wrap (x10+1))→
  ∃I1:Nat→Int→Int→Int→Prop,(∃m3,I1 m3 number ar 0)∧∀(m3:Nat)(_gv2:Nat→Value)(number1:Int)(page1:Int)(x22:Int),I1 m3 number1 page1 x22→
  split (decide (x22<(E.aj.length:Int))) (
   ∃b:Bool,(
    (v=(.func (.func 55) #[] #[(.pointer (some (Addr.mk gb 0 none)))])∧
     E.n=m.S∧
     l=E.aj∧
     (E.on m).has x22=true∧
     ((.bool ((E.on m).clause 1 x22)):Value)=(.bool b))∨
    (v=(.func (.func 57) #[] #[(.pointer (some (Addr.mk gb 0 none)))])∧
     E.n=m.S∧
     l=E.aj∧
     (E.on m).has x22=true∧
     ((.bool ((E.on m).clause 2 x22)):Value)=(.bool b))∨
    (v=(.func (.func 59) #[] #[(.pointer (some (Addr.mk gb 0 none)))])∧
     E.n=m.S∧
     l=E.aj∧
     (E.on m).has x22=true∧
     ((.bool ((E.on m).clause 3 x22)):Value)=(.bool b))∨
    (v=(.func (.func 61) #[] #[(.pointer (some (Addr.mk gb 0 none)))])∧
     E.n=m.S∧
     l=E.aj∧
     (E.on m).has x22=true∧
     ((.bool ((E.on m).clause 4 x22)):Value)=(.bool b))∨
    (v=(.func (.func 62) #[(.pointer (some (Addr.mk gv 0 none)))] #[])∧
     E.n=m.S∧
     l=E.aj∧
     (E.on m).has x22=true∧
     ((.bool ((E.on m).clause 5 x22)):Value)=(.bool b))∨
    (v=(.func (.func 63) #[(.pointer (some (Addr.mk gv 0 none)))] #[])∧
     E.n=m.S∧
     l=E.aj∧
     (E.on m).has x22=true∧
     ((.bool ((E.on m).clause 6 x22)):Value)=(.bool b))∨
    (v=(.func (.func 64) #[(.pointer (some (Addr.mk gv 0 none)))] #[])∧
     E.n=m.S∧
     l=E.aj∧
     (E.on m).has x22=true∧
     ((.bool ((E.on m).clause 7 x22)):Value)=(.bool b))∨
    (v=(.func (.func 65) #[(.pointer (some (Addr.mk gv 0 none)))] #[])∧
     E.n=m.S∧
     l=E.aj∧
     (E.on m).has x22=true∧
     ((.bool ((E.on m).clause 8 x22)):Value)=(.bool b))∨
    (v=(.func (.func 66) #[(.pointer (some (Addr.mk gv 0 none)))] #[])∧
     E.n=m.S∧
     l=E.aj∧
     (E.on m).has x22=true∧
     ((.bool ((E.on m).clause 9 x22)):Value)=(.bool b))∨
    (v=(.func (.func 67) #[(.pointer (some (Addr.mk gv 0 none)))] #[])∧
     E.n=m.S∧
     l=E.aj∧
     (E.on m).has x22=true∧
     ((.bool ((E.on m).clause 10 x22)):Value)=(.bool b))∨
    (v=(.func (.func 68) #[(.pointer (some (Addr.mk gv 0 none)))] #[])∧
     E.n=m.S∧
     l=E.aj∧
     (E.on m).has x22=true∧
     ((.bool ((E.on m).clause 11 x22)):Value)=(.bool b))∨
    (v=(.func (.func 69) #[] #[(.pointer (some (Addr.mk gb 0 none)))])∧
     E.n=m.S∧
     l=E.aj∧
     (E.on m).has x22=true∧
     ((.bool ((E.on m).clause 12 x22)):Value)=(.bool b)))∧
   split (!b) (
    Q ⟨(.tuple #[(.int .i64 (i64.wrap (x10+1))),(.int .i64 x22)]),(some (.t [none,none])),[],[],[]⟩) (
    ∃m4,m4<m3∧I1 m4 number1 page1 (i64.wrap (x22+1)))) (
   ∃m2,m2<m1∧I m2 number1 page1 (i64.wrap (x10+1)))) (
  Q ⟨(.tuple #[(.int .i64 number),(.int .i64 ar)]),(some (.t [none,none])),[],[],[]⟩)
theorem C5:Vc2 Un Tryz.prog ⟨zi [(21,jx),(22,gz),(55,eW),(57,eV),(59,eU),(61,eT),(62,gA),(63,iT),(64,iV),(65,iU),(66,kz),(67,gy),(68,gx),(69,eS)],.bool,[(55,[],[(.loc 4 0)]),(57,[],[(.loc 4 0)]),(59,[],[(.loc 4 0)]),(61,[],[(.loc 4 0)]),(62,[(.loc 2 0)],[]),(63,[(.loc 2 0)],[]),(64,[(.loc 2 0)],[]),(65,[(.loc 2 0)],[]),(66,[(.loc 2 0)],[]),(67,[(.loc 2 0)],[]),(68,[(.loc 2 0)],[]),(69,[],[(.loc 4 0)])]⟩ [] Tryz.f7 (.r' (.two (.r' (.r' (.two (.r' (.two (.node [] (some ⟨[(2,(.one (.int .i64))),(3,(.one (.int .i64))),(10,(.one (.int .i64)))],[],[2,3,5,6,7]++upN 10 24,[]⟩) [] [] (.r' (.r' (.two (.two (.r' (.r' (.r' (.two (.node [] (some ⟨[(2,(.one (.int .i64))),(3,(.one (.int .i64))),(22,(.one (.int .i64)))],[],[2,3,7]++upN 22 11,[]⟩) [] [] .leaf .leaf) .leaf)))) .leaf) .leaf))) .leaf) .leaf)) .leaf))) .leaf)) [] np=(∀r (E:Pd) rm (m:Mem),∀Q,(np.body r E rm m Q)→C4 r E rm m Q):=by kernel_rfl
theorem C3:LV Un Tryz.prog 7 np:=verify Tryz.func7 aa (tb:= [(21,jx),(22,gz),(55,eW),(57,eV),(59,eU),(61,eT),(62,gA),(63,iT),(64,iV),(65,iU),(66,kz),(67,gy),(68,gx),(69,eS)]) ⟨BM,tH,oo,om,oh,og,tI,xO,xQ,xP,BN,tG,tF,oe,trivial⟩ (by kernel_rfl) (C5.mpr fun r E rm m Q h=>by
 obtain⟨hp0,h⟩:=h
 exact fun f1 f2=>ao ‹_› fun s3=>fun gv A c=>fun l h_l=>⟨fun m1 number ar x10=>(m1=(12 - x10).toNat)∧(number=0∧ar=0)∧(0≤x10∧x10≤12)∧((E.on m).dI (13 - (x10+1)).toNat (x10+1)=(E.on m).broken),⟨_,rfl,(by omega),(by omega),(by rfl)⟩,fun m1 _ number ar x10 ⟨hm,hn,hc,hb⟩=>ax (fun c1=>ao ‹_› fun s4=>ao ‹_› fun s5=>fun gb v f6=>(by(have hv:=(by assumption:v=cC gv gb (i64.wrap (x10+1))));(rw [ai (x:=x10+1) (by omega)]at hv);exact⟨fun m3 number1 page1 x22=>(m3=((E.n:Int) - x22).toNat)∧(number1=0∧page1=0)∧(0≤x22∧x22≤(E.n:Int))∧(fc ((E.on m).clause (x10+1)) 0 x22=true),⟨_,rfl,‹_›,(by omega),(gU (Int.le_refl _))⟩,fun m3 _ number1 page1 x22 ⟨hm,hn2,hi1,hz⟩=>ax (fun c2=>(by(have hhas:(E.on m).has x22=true:=by grind);exact⟨((E.on m).clause (x10+1) x22),(by rcases(show x10+1=1∨x10+1=2∨x10+1=3∨x10+1=4∨x10+1=5∨x10+1=6∨x10+1=7∨x10+1=8∨x10+1=9∨x10+1=10∨x10+1=11∨x10+1=12 from by omega)with hk | hk | hk | hk | hk | hk | hk | hk | hk | hk | hk | hk<;>first | exact .inl ⟨by rw [hv,hk];rfl,hp0,h_l,hhas,by rw [hk]⟩ | exact .inr (.inl ⟨by rw [hv,hk];rfl,hp0,h_l,hhas,by rw [hk]⟩) | exact .inr (.inr (.inl ⟨by rw [hv,hk];rfl,hp0,h_l,hhas,by rw [hk]⟩)) | exact .inr (.inr (.inr (.inl ⟨by rw [hv,hk];rfl,hp0,h_l,hhas,by rw [hk]⟩))) | exact .inr (.inr (.inr (.inr (.inl ⟨by rw [hv,hk];rfl,hp0,h_l,hhas,by rw [hk]⟩)))) | exact .inr (.inr (.inr (.inr (.inr (.inl ⟨by rw [hv,hk];rfl,hp0,h_l,hhas,by rw [hk]⟩))))) | exact .inr (.inr (.inr (.inr (.inr (.inr (.inl ⟨by rw [hv,hk];rfl,hp0,h_l,hhas,by rw [hk]⟩)))))) | exact .inr (.inr (.inr (.inr (.inr (.inr (.inr (.inl ⟨by rw [hv,hk];rfl,hp0,h_l,hhas,by rw [hk]⟩))))))) | exact .inr (.inr (.inr (.inr (.inr (.inr (.inr (.inr (.inl ⟨by rw [hv,hk];rfl,hp0,h_l,hhas,by rw [hk]⟩)))))))) | exact .inr (.inr (.inr (.inr (.inr (.inr (.inr (.inr (.inr (.inl ⟨by rw [hv,hk];rfl,hp0,h_l,hhas,by rw [hk]⟩))))))))) | exact .inr (.inr (.inr (.inr (.inr (.inr (.inr (.inr (.inr (.inr (.inl ⟨by rw [hv,hk];rfl,hp0,h_l,hhas,by rw [hk]⟩)))))))))) | exact .inr (.inr (.inr (.inr (.inr (.inr (.inr (.inr (.inr (.inr (.inr (⟨by rw [hv,hk];rfl,hp0,h_l,hhas,by rw [hk]⟩)))))))))))),aW (fun c3=>aK h (congrArg (fun l=>Value.tuple (List.toArray l)) (af (congrArg (Value.int .i64) (by(rw [ai (x:=x10+1) (by omega),DB.qJ ⟨by omega,by omega⟩ hb hz c3 ⟨hi1.1,by grind⟩]))) (af (congrArg (Value.int .i64) (by(rw [DB.qJ ⟨by omega,by omega⟩ hb hz c3 ⟨hi1.1,by grind⟩]))) rfl))) rfl rfl) fun c3=>⟨_,(by(have h9:=ai (x:=x22+1) (by grind));grind),rfl,‹_›,(by(have h9:=ai (x:=x22+1) (by grind));grind),(eh hz (by grind) (ai (by grind)))⟩⟩)) fun c2=>⟨_,(by(have h8:=ai (x:=x10+1) (by omega));omega),rfl,(hn2),(by(have h8:=ai (x:=x10+1) (by omega));omega),(by rw [ai (x:=x10+1) (by omega)];exact DB.xt ⟨by omega,by omega⟩ hb (show x22=((E.on m).S:Int)by grind) hz)⟩⟩)) fun c1=>aK h (congrArg (fun l=>Value.tuple (List.toArray l)) (af (congrArg (Value.int .i64) (by rw [DB.n8 (by omega) (by omega) hb];omega)) (af (congrArg (Value.int .i64) (by rw [DB.n8 (by omega) (by omega) hb];omega)) rfl))) rfl rfl⟩)
end Go.Proofs.YtbjlecpmgocoeaaGreatDoor
end
section
set_option maxRecDepth 100000
set_option maxHeartbeats 1000000
namespace Go.Proofs.YtbjlecpmgocoeaaGreatDoor
open Go Go.RowKit V
open Go.IntKind (i64 u32 u64)
open Go.Proofs (Tryz.prog)
def AF:Ctr Un:=⟨[.one (.int .i64),.one (.int .i64)],[],[],[],fun s i K=>((1≤(s:Int)∧(s:Int)≤64)∧(1≤(i:Int)∧(i:Int)≤64))∧∀(rN:Nat→Nat),K ⟨(.tuple #[(.pointer (some (Addr.mk (rN 0) 0 none))),(.int .i64 0)]),(some (.t [(some (.obj 0 0 0)),none])),[],[(.ob 0 rN (Mem.fresh s.toNat i.toNat))],[]⟩⟩
theorem Jj:LV Un Tryz.prog 27 AF:=by
 show ∀(s:Int)(i:Int),∀Q:Ou Un→Prop,(((1≤(s:Int)∧(s:Int)≤64)∧(1≤(i:Int)∧(i:Int)≤64))∧∀(rN:Nat→Nat),Q ⟨(.tuple #[(.pointer (some (Addr.mk (rN 0) 0 none))),(.int .i64 0)]),(some (.t [(some (.obj 0 0 0)),none])),[],[(.ob 0 rN (Mem.fresh s.toNat i.toNat))],[]⟩)→∀(X:Nat→Nat→Prop)(w:World),Sat (U:=Un) [] X w→aD (U:=Un) [] fr0 []→Calls Tryz.prog 27 #[(.int .i64 s),(.int .i64 i)] w (aP (U:=Un) [] [] X w Q)
 intro s i Q hQ X w hs hl
 obtain⟨⟨h1,h2⟩,hQ⟩:=hQ
 refine(Ki s i h1 h2).mono ?_
 rintro e w' ⟨u,rfl,L,rfl,hM,hf,q⟩
 exact aP.wD (Z:=L.X) hs q (show RS (U:=Un) L.X w' (.ob 0 (fun _=>L.g) (Mem.fresh s.toNat i.toNat))from(⟨L,rfl,fun _=>Iff.rfl,hM⟩:bn 0 (fun _=>L.g) (Mem.fresh s.toNat i.toNat) L.X w')) hf (hQ (fun _=>L.g)) (KnO.pair rfl) (fun _ _ h=>by cases h)
def ry:Ctr Un:=⟨[.one (.int .i64),.one (.int .i64)],[],[],[],fun s i K=>((1≤(s:Int)∧(s:Int)≤64)∧(1≤(i:Int)∧(i:Int)≤64))∧∀(rN:Nat→Nat),K ⟨(.tuple #[(.pointer (some (Addr.mk (rN 0) 0 none))),(.int .i64 0)]),(some (.t [(some (.obj 0 0 0)),none])),[],[(.ob 2 rN (Mem.fresh s.toNat i.toNat))],[]⟩⟩
theorem F2:LV Un Tryz.prog 30 ry:=by
 show ∀(s:Int)(i:Int),∀Q:Ou Un→Prop,(((1≤(s:Int)∧(s:Int)≤64)∧(1≤(i:Int)∧(i:Int)≤64))∧∀(rN:Nat→Nat),Q ⟨(.tuple #[(.pointer (some (Addr.mk (rN 0) 0 none))),(.int .i64 0)]),(some (.t [(some (.obj 0 0 0)),none])),[],[(.ob 2 rN (Mem.fresh s.toNat i.toNat))],[]⟩)→∀(X:Nat→Nat→Prop)(w:World),Sat (U:=Un) [] X w→aD (U:=Un) [] fr0 []→Calls Tryz.prog 30 #[(.int .i64 s),(.int .i64 i)] w (aP (U:=Un) [] [] X w Q)
 intro s i Q hQ X w hs hl
 obtain⟨⟨h1,h2⟩,hQ⟩:=hQ
 refine(It s i h1 h2).mono ?_
 rintro e w' ⟨u,rfl,g,L,rfl,hM,hf,q⟩
 exact aP.wD (Z:=L.X) hs q (show RS (U:=Un) L.X w' (.ob 2 (fun _=>g) (Mem.fresh s.toNat i.toNat))from(⟨L,fun _=>Iff.rfl,hM⟩:bn 2 (fun _=>g) (Mem.fresh s.toNat i.toNat) L.X w')) hf (hQ (fun _=>g)) (KnO.pair rfl) (fun _ _ h=>by cases h)
def A5:Ctr Un:=⟨[.one (.obj 0 0)],[],[.ob 0 []],[0],fun rm m K=>1≤m.S∧∀(rN:Nat→Nat),K ⟨(.pointer (some (Addr.mk (rN 0) 0 none))),(some (.p (.obj 1 0 0))),[.ob 0 (m.bL m.S)],[(.ob 1 rN ((DB.new m).pd))],[(.l 1 1,.p (.obj 0 0 0))]⟩⟩
theorem Jm:LV Un Tryz.prog 29 A5:=by
 show ∀(rm:Nat→Nat)(m:Mem),∀Q:Ou Un→Prop,(1≤m.S∧∀(rN:Nat→Nat),Q ⟨(.pointer (some (Addr.mk (rN 0) 0 none))),(some (.p (.obj 1 0 0))),[.ob 0 (m.bL m.S)],[(.ob 1 rN ((DB.new m).pd))],[(.l 1 1,.p (.obj 0 0 0))]⟩)→∀(X:Nat→Nat→Prop)(w:World),Sat (U:=Un) [(.ob 0 rm m)] X w→aD (U:=Un) [(.ob 0 rm m)] fr0 []→Calls Tryz.prog 29 #[(.pointer (some (Addr.mk (rm 0) 0 none)))] w (aP (U:=Un) [(.ob 0 rm m)] [0] X w Q)
 intro rm m Q hQ X w hs hl
 obtain⟨hS,hQ⟩:=hQ
 obtain⟨L,hg,hM,hX⟩:=wF hs
 rw [hg]
 refine(Kl hM hS).mono ?_
 rintro e w' ⟨u,rfl,g,a,rfl,hM2,hD,⟨hb1,hb2⟩,q⟩
 have hlt:∀k,L.X k→k<w.heap.size:=hM.lt
 exact aP.Ix (k:=some (.p (.obj 1 0 0))) (kc:= [(.l 1 1,.p (.obj 0 0 0))]) (Z0:=X 0) (Z1:=fun k=>k=g∨k=a) (q.mono fun k hk=>(hX k).1 hk) (show bn 0 rm (m.bL m.S) (X 0) w' from⟨L,hg,hX,hM2⟩) (fun k hk=>.inl hk) (show RS (U:=Un) (fun k=>k=g∨k=a) w' (.ob 1 (fun i=>if i=0 then g else L.g) (DB.new m).pd)from(⟨a,fun k=>Iff.rfl,hD.pd⟩:bn 1 (fun i=>if i=0 then g else L.g) (DB.new m).pd (fun k=>k=g∨k=a) w'))
  (fun k hk=>by rcases hk with rfl | rfl;exact hb1;exact hb2) (fun k hk hk2=>by have:=hlt k ((hX k).2 hk);rcases hk2 with rfl | rfl<;>omega) (hQ (fun i=>if i=0 then g else L.g)) rfl (kZ ⟨_,_,_,rfl,show some (Value.pointer (some ⟨rm 0,0,none⟩))=some (.pointer (some ⟨L.g,0,none⟩))by rw [hg]⟩)
def ka:Ctr Un:=⟨[.one (.obj 0 0)],[],[.ob 1 [(1,1,0)],.ob 0 []],[],fun r E rm m K=>E.n=m.S∧∀(A:Option Addr)(c:Nat),K ⟨(.slice A (((E.on m).words.map U32.mk).length) c),(some (.p (.sl 2 0))),[],[(.lst 1 true 22 A c ((E.on m).words.map U32.mk))],[]⟩⟩
theorem yQ:LV Un Tryz.prog 52 ka:=by
 show ∀(r:Nat→Nat)(E:Pd)(rm:Nat→Nat)(m:Mem),∀Q:Ou Un→Prop,(E.n=m.S∧∀(A:Option Addr)(c:Nat),Q ⟨(.slice A (((E.on m).words.map U32.mk).length) c),(some (.p (.sl 2 0))),[],[(.lst 1 true 22 A c ((E.on m).words.map U32.mk))],[]⟩)→∀(X:Nat→Nat→Prop)(w:World),Sat (U:=Un) [(.ob 1 r E),(.ob 0 rm m)] X w→aD (U:=Un) [(.ob 1 r E),(.ob 0 rm m)] fr0 [(.l 0 1,.p (.obj 1 0 0))]→Calls Tryz.prog 52 #[(.pointer (some (Addr.mk (r 0) 0 none)))] w (aP (U:=Un) [(.ob 1 r E),(.ob 0 rm m)] [] X w Q)
 intro r E rm m Q hQ X w hs hl
 obtain⟨hn,hQ⟩:=hQ
 obtain⟨a,L,hg,hr,hD,hX0,hX1⟩:=qb hs hl hn
 refine(IT hD).mono ?_
 rintro e w' ⟨u,rfl,g,n,rfl,ho,hz,q⟩
 have hl2:=ho.len
 subst hl2
 exact aP.more hs q (ux (U:=Un) (t:=1) ho) (fun k hk=>by have:=hk.1;omega) (hQ _ _) rfl
def lz:Ctr Un:=⟨[.one (.obj 0 0)],[],[.ob 3 [(1,1,0)],.ob 2 []],[],fun r E rm m K=>E.n=m.S∧∀(A:Option Addr)(c:Nat),K ⟨(.slice A (((E.on m).words.map U32.mk).length) c),(some (.p (.sl 2 0))),[],[(.lst 1 true 22 A c ((E.on m).words.map U32.mk))],[]⟩⟩
theorem Ak:LV Un Tryz.prog 93 lz:=by
 show ∀(r:Nat→Nat)(E:Pd)(rm:Nat→Nat)(m:Mem),∀Q:Ou Un→Prop,(E.n=m.S∧∀(A:Option Addr)(c:Nat),Q ⟨(.slice A (((E.on m).words.map U32.mk).length) c),(some (.p (.sl 2 0))),[],[(.lst 1 true 22 A c ((E.on m).words.map U32.mk))],[]⟩)→∀(X:Nat→Nat→Prop)(w:World),Sat (U:=Un) [(.ob 3 r E),(.ob 2 rm m)] X w→aD (U:=Un) [(.ob 3 r E),(.ob 2 rm m)] fr0 [(.l 0 1,.p (.obj 1 0 0))]→Calls Tryz.prog 93 #[(.pointer (some (Addr.mk (r 0) 0 none)))] w (aP (U:=Un) [(.ob 3 r E),(.ob 2 rm m)] [] X w Q)
 intro r E rm m Q hQ X w hs hl
 obtain⟨hn,hQ⟩:=hQ
 obtain⟨L,hD⟩:=Jw hs hl hn
 refine(Er hD).mono ?_
 rintro e w' ⟨u,rfl,Z',A',N',C',rfl,ho,hz,q⟩
 have hl2:=ho.len
 subst hl2
 exact aP.more hs q (ux (U:=Un) (t:=1) ho) (fun k hk=>hz k hk.1) (hQ _ _) rfl
def Ah:Ctr Un:=⟨[],[],[],[],fun K=>∀(rN:Nat→Nat),K ⟨(.pointer (some (Addr.mk (rN 0) 0 none))),(some (.p (.obj 0 0 0))),[],[(.ob 4 rN Dg.new)],[]⟩⟩
theorem Jg:LV Un Tryz.prog 87 Ah:=by
 show ∀Q:Ou Un→Prop,(∀(rN:Nat→Nat),Q ⟨(.pointer (some (Addr.mk (rN 0) 0 none))),(some (.p (.obj 0 0 0))),[],[(.ob 4 rN Dg.new)],[]⟩)→∀(X:Nat→Nat→Prop)(w:World),Sat (U:=Un) [] X w→aD (U:=Un) [] fr0 []→Calls Tryz.prog 87 #[] w (aP (U:=Un) [] [] X w Q)
 intro Q hQ X w hs hl
 refine Kd.mono ?_
 rintro e w' ⟨u,rfl,g,L,rfl,hD,hf,q⟩
 exact aP.wD (Z:=L.X g) hs q (show RS (U:=Un) (L.X g) w' (.ob 4 (fun _=>g) Dg.new)from(⟨L,fun _=>Iff.rfl,hD⟩:bn 4 (fun _=>g) Dg.new (L.X g) w')) hf (hQ (fun _=>g)) rfl (fun _ _ h=>by cases h)
def Aj:Ctr Un:=⟨[.one (.obj 0 0),.one (.sl 1)],[(2,5)],[.ob 4 [],.lst 1 false 22,.ob 5 []],[0],fun r d A c l rk kk K=>d.Ok∧l.length≤1099511627776∧K ⟨(.tuple #[]),(some (.t [])),[.ob 4 (d.add kk l)],[],[]⟩⟩
theorem Jh:LV Un Tryz.prog 89 Aj:=by
 show ∀(r:Nat→Nat)(d:Dg)(A:Option Addr)(c:Nat)(l:List U32)(rk:Nat→Nat)(kk:List Int),∀Q:Ou Un→Prop,(d.Ok∧l.length≤1099511627776∧Q ⟨(.tuple #[]),(some (.t [])),[.ob 4 (d.add kk l)],[],[]⟩)→∀(X:Nat→Nat→Prop)(w:World),Sat (U:=Un) [(.ob 4 r d),(.lst 1 false 22 A c l),(.ob 5 rk kk)] X w→aD (U:=Un) [(.ob 4 r d),(.lst 1 false 22 A c l),(.ob 5 rk kk)] fr0 []→Calls Tryz.prog 89 #[(.pointer (some (Addr.mk (r 0) 0 none))),(.slice A l.length c)] w (aP (U:=Un) [(.ob 4 r d),(.lst 1 false 22 A c l),(.ob 5 rk kk)] [0] X w Q)
 intro r d A c l rk kk Q hQ X w hs hl
 obtain⟨hok,hlen,hQ⟩:=hQ
 obtain⟨L,hX,hD⟩:=(hs.res 0 _ rfl:bn 4 r d (X 0) w)
 have hr:Rd w (X 1) A l.length c l:=hs.res 1 _ rfl
 obtain⟨hX2,hK⟩:=(hs.res 2 _ rfl:bn 5 rk kk (X 2) w)
 have h0:X 0 (r 0):=(hX _).1 (.inl rfl)
 refine(Ke hD hr hK hok hlen (fun h=>hs.dis 0 1 (by simp) (by simp) (by omega) _ h0 h) (fun h=>hs.dis 0 2 (by simp) (by simp) (by omega) _ h0 ((hX2 _).1 h))).mono ?_
 rintro e w' ⟨u,rfl,L',rfl,hD',hg,q⟩
 exact aP.first (Z:=L'.X (r 0)) hs (q.mono fun k hk=>(hX k).1 hk) (show bn 4 r (d.add kk l) (L'.X (r 0)) w' from⟨L',fun _=>Iff.rfl,hD'⟩) (fun k hk=>(hg k hk).imp (fun h=>(hX k).1 h) id) hQ (KnO.tup _ (by simp))
def vc:Ctr Un:=⟨[.one (.obj 0 0)],[],[.ob 4 []],[],fun r d K=>d.Ok∧K ⟨(.agg ⟨Dg.sv d⟩),none,[],[],[]⟩⟩
theorem Hv:LV Un Tryz.prog 91 vc:=by
 show ∀(r:Nat→Nat)(d:Dg),∀Q:Ou Un→Prop,(d.Ok∧Q ⟨(.agg ⟨Dg.sv d⟩),none,[],[],[]⟩)→∀(X:Nat→Nat→Prop)(w:World),Sat (U:=Un) [(.ob 4 r d)] X w→aD (U:=Un) [(.ob 4 r d)] fr0 []→Calls Tryz.prog 91 #[(.pointer (some (Addr.mk (r 0) 0 none)))] w (aP (U:=Un) [(.ob 4 r d)] [] X w Q)
 intro r d Q hQ X w hs hl
 obtain⟨hok,hQ⟩:=hQ
 obtain⟨L,hX,hD⟩:=(hs.res 0 _ rfl:bn 4 r d (X 0) w)
 refine(Ju hD hok).mono ?_
 rintro e w' ⟨u,rfl,rfl,q⟩
 rw [vY (by rw [Dg.pQ hok])]
 exact aP.pu hs q hQ trivial
def rB:Ctr Un:=⟨[],[],[],[],fun K=>K ⟨(.agg #[(.int .u32 S8.first.a),(.int .u32 S8.first.b),(.int .u32 S8.first.c),(.int .u32 S8.first.d),(.int .u32 S8.first.e),(.int .u32 S8.first.f),(.int .u32 S8.first.g),(.int .u32 S8.first.h),(.slice none 0 0),(.int .i64 0)]),none,[],[],[]⟩⟩
theorem F3:LV Un Tryz.prog 88 rB:=by
 show ∀Q:Ou Un→Prop,(Q ⟨(.agg #[(.int .u32 S8.first.a),(.int .u32 S8.first.b),(.int .u32 S8.first.c),(.int .u32 S8.first.d),(.int .u32 S8.first.e),(.int .u32 S8.first.f),(.int .u32 S8.first.g),(.int .u32 S8.first.h),(.slice none 0 0),(.int .i64 0)]),none,[],[],[]⟩)→∀(X:Nat→Nat→Prop)(w:World),Sat (U:=Un) [] X w→aD (U:=Un) [] fr0 []→Calls Tryz.prog 88 #[] w (aP (U:=Un) [] [] X w Q)
 intro Q hQ X w hs hl
 refine Iu.mono ?_
 rintro e w' ⟨u,rfl,rfl,q⟩
 exact aP.pu hs q hQ trivial
def rE:Ctr Un:=⟨[.agg [.int .u32,.int .u32,.int .u32,.int .u32,.int .u32,.int .u32,.int .u32,.int .u32,.sl 0,.int .i64],.one (.sl 1)],[(2,6)],[.lst 1 true 22,.lst 1 false 22,.ob 6 []],[0],fun da db dc dd de df dg dh dn A0 c0 l0 A c l rk kk K=>(Dg.mk (S8.mk da db dc dd de df dg dh) dn l0).Ok∧(l.length≤1099511627776∧(l.length:Int)≤36028797018963968 - dn)∧∀(A1:Option Addr)(c1:Nat),K ⟨(.agg #[(.int .u32 (((Dg.mk (S8.mk da db dc dd de df dg dh) dn l0).add kk l).st.a)),(.int .u32 (((Dg.mk (S8.mk da db dc dd de df dg dh) dn l0).add kk l).st.b)),(.int .u32 (((Dg.mk (S8.mk da db dc dd de df dg dh) dn l0).add kk l).st.c)),(.int .u32 (((Dg.mk (S8.mk da db dc dd de df dg dh) dn l0).add kk l).st.d)),(.int .u32 (((Dg.mk (S8.mk da db dc dd de df dg dh) dn l0).add kk l).st.e)),(.int .u32 (((Dg.mk (S8.mk da db dc dd de df dg dh) dn l0).add kk l).st.f)),(.int .u32 (((Dg.mk (S8.mk da db dc dd de df dg dh) dn l0).add kk l).st.g)),(.int .u32 (((Dg.mk (S8.mk da db dc dd de df dg dh) dn l0).add kk l).st.h)),(.slice A1 (((Dg.mk (S8.mk da db dc dd de df dg dh) dn l0).add kk l).waits.length) c1),(.int .i64 (((Dg.mk (S8.mk da db dc dd de df dg dh) dn l0).add kk l).n))]),(some (.ag [none,none,none,none,none,none,none,none,(some (.sl 0 0)),none])),[.lst 1 A1 c1 (((Dg.mk (S8.mk da db dc dd de df dg dh) dn l0).add kk l).waits)],[],[]⟩⟩
theorem F4:LV Un Tryz.prog 90 rE:=by
 show ∀(da:Int)(db:Int)(dc:Int)(dd:Int)(de:Int)(df:Int)(dg:Int)(dh:Int)(dn:Int)(A0:Option Addr)(c0:Nat)(l0:List U32)(A:Option Addr)(c:Nat)(l:List U32)(rk:Nat→Nat)(kk:List Int),∀Q:Ou Un→Prop,((Dg.mk (S8.mk da db dc dd de df dg dh) dn l0).Ok∧(l.length≤1099511627776∧(l.length:Int)≤36028797018963968 - dn)∧∀(A1:Option Addr)(c1:Nat),Q ⟨(.agg #[(.int .u32 (((Dg.mk (S8.mk da db dc dd de df dg dh) dn l0).add kk l).st.a)),(.int .u32 (((Dg.mk (S8.mk da db dc dd de df dg dh) dn l0).add kk l).st.b)),(.int .u32 (((Dg.mk (S8.mk da db dc dd de df dg dh) dn l0).add kk l).st.c)),(.int .u32 (((Dg.mk (S8.mk da db dc dd de df dg dh) dn l0).add kk l).st.d)),(.int .u32 (((Dg.mk (S8.mk da db dc dd de df dg dh) dn l0).add kk l).st.e)),(.int .u32 (((Dg.mk (S8.mk da db dc dd de df dg dh) dn l0).add kk l).st.f)),(.int .u32 (((Dg.mk (S8.mk da db dc dd de df dg dh) dn l0).add kk l).st.g)),(.int .u32 (((Dg.mk (S8.mk da db dc dd de df dg dh) dn l0).add kk l).st.h)),(.slice A1 (((Dg.mk (S8.mk da db dc dd de df dg dh) dn l0).add kk l).waits.length) c1),(.int .i64 (((Dg.mk (S8.mk da db dc dd de df dg dh) dn l0).add kk l).n))]),(some (.ag [none,none,none,none,none,none,none,none,(some (.sl 0 0)),none])),[.lst 1 A1 c1 (((Dg.mk (S8.mk da db dc dd de df dg dh) dn l0).add kk l).waits)],[],[]⟩)→∀(X:Nat→Nat→Prop)(w:World),Sat (U:=Un) [(.lst 1 true 22 A0 c0 l0),(.lst 1 false 22 A c l),(.ob 6 rk kk)] X w→aD (U:=Un) [(.lst 1 true 22 A0 c0 l0),(.lst 1 false 22 A c l),(.ob 6 rk kk)] fr0 []→Calls Tryz.prog 90 #[(.agg #[(.int .u32 da),(.int .u32 db),(.int .u32 dc),(.int .u32 dd),(.int .u32 de),(.int .u32 df),(.int .u32 dg),(.int .u32 dh),(.slice A0 l0.length c0),(.int .i64 dn)]),(.slice A l.length c)] w (aP (U:=Un) [(.lst 1 true 22 A0 c0 l0),(.lst 1 false 22 A c l),(.ob 6 rk kk)] [0] X w Q)
 intro da db dc dd de df dg dh dn A0 c0 l0 A c l rk kk Q hQ X w hs hl
 obtain⟨hok,⟨hlen,hle⟩,hQ⟩:=hQ
 obtain⟨hO,hOl⟩:Own w (X 0) 22 A0 l0.length c0 l0∧∀k,X 0 k→k<w.heap.size:=hs.res 0 _ rfl
 have hr:Rd w (X 1) A l.length c l:=hs.res 1 _ rfl
 obtain⟨hX2,hK⟩:=(hs.res 2 _ rfl:bn 6 rk kk (X 2) w)
 refine(Iv hO.rd hr hK da db dc dd de df dg dh dn hok hlen).mono ?_
 rintro e w' ⟨u,rfl,Z',A',N',C',rfl,hr2,_,ho,q⟩
 obtain⟨ho,hz⟩:=ho hle
 have hl2:=hr2.len
 subst hl2
 exact aP.IN (Z:=fun k=>Z' k∧k<w'.heap.size) hs (q.mono fun k hk=>hk.elim) (ux (U:=Un) (t:=1) ho) (fun k hk=>.inr (hz k hk.1)) (hQ A' C') ⟨_,rfl,fun j k hj=>by
  match j,hj with
  | 8,hj=>simp only [nth,Option.some.injEq]at hj;subst hj;exact⟨_,rfl,rfl⟩
  | 0,hj | 1,hj | 2,hj | 3,hj | 4,hj | 5,hj | 6,hj | 7,hj | 9,hj=>simp [nth]at hj
  | j+10,hj=>simp [nth]at hj⟩
def nu:Ctr Un:=⟨[.agg [.int .u32,.int .u32,.int .u32,.int .u32,.int .u32,.int .u32,.int .u32,.int .u32,.sl 0,.int .i64]],[],[.lst 1 true 22],[],fun da db dc dd de df dg dh dn A0 c0 l0 K=>(Dg.mk (S8.mk da db dc dd de df dg dh) dn l0).Ok∧K ⟨(.agg ⟨Dg.sv (Dg.mk (S8.mk da db dc dd de df dg dh) dn l0)⟩),none,[],[],[]⟩⟩
theorem Ds:LV Un Tryz.prog 92 nu:=by
 show ∀(da:Int)(db:Int)(dc:Int)(dd:Int)(de:Int)(df:Int)(dg:Int)(dh:Int)(dn:Int)(A0:Option Addr)(c0:Nat)(l0:List U32),∀Q:Ou Un→Prop,((Dg.mk (S8.mk da db dc dd de df dg dh) dn l0).Ok∧Q ⟨(.agg ⟨Dg.sv (Dg.mk (S8.mk da db dc dd de df dg dh) dn l0)⟩),none,[],[],[]⟩)→∀(X:Nat→Nat→Prop)(w:World),Sat (U:=Un) [(.lst 1 true 22 A0 c0 l0)] X w→aD (U:=Un) [(.lst 1 true 22 A0 c0 l0)] fr0 []→Calls Tryz.prog 92 #[(.agg #[(.int .u32 da),(.int .u32 db),(.int .u32 dc),(.int .u32 dd),(.int .u32 de),(.int .u32 df),(.int .u32 dg),(.int .u32 dh),(.slice A0 l0.length c0),(.int .i64 dn)])] w (aP (U:=Un) [(.lst 1 true 22 A0 c0 l0)] [] X w Q)
 intro da db dc dd de df dg dh dn A0 c0 l0 Q hQ X w hs hl
 obtain⟨hok,hQ⟩:=hQ
 obtain⟨hO,hOl⟩:Own w (X 0) 22 A0 l0.length c0 l0∧∀k,X 0 k→k<w.heap.size:=hs.res 0 _ rfl
 refine(GN hO.rd da db dc dd de df dg dh dn hok).mono ?_
 rintro e w' ⟨u,rfl,rfl,q⟩
 rw [vY (by rw [Dg.pQ hok])]
 exact aP.pu hs q hQ trivial
end Go.Proofs.YtbjlecpmgocoeaaGreatDoor
end
section
set_option maxRecDepth 100000
set_option maxHeartbeats 1000000
namespace Go.Proofs.YtbjlecpmgocoeaaGreatDoor
open Go Go.RowKit V
open Go.IntKind (i64 u32 u64)
open Go.Proofs (Tryz.prog)
attribute [local grind=] Pd.cP Pd.bM Pd.jl Pd.jG Pd.dq Pd.cx Pd.eK Pd.gj Pd.lM Pd.oF
attribute [local grind .] Pd.Ok.ent
attribute [local grind→] Pd.Ok.cH
def fN:Ctr Un:=⟨[.one (.obj 0 0)],[],[.ob 2 []],[],fun rm m K=>K ⟨(.int .i64 (m.S:Int)),none,[],[],[]⟩⟩
theorem ov:LV Un Tryz.prog 76 fN:=by
 show ∀(rm:Nat→Nat)(m:Mem),∀Q:Ou Un→Prop,(Q ⟨(.int .i64 (m.S:Int)),none,[],[],[]⟩)→∀(X:Nat→Nat→Prop)(w:World),Sat (U:=Un) [(.ob 2 rm m)] X w→aD (U:=Un) [(.ob 2 rm m)] fr0 []→Calls Tryz.prog 76 #[(.pointer (some (Addr.mk (rm 0) 0 none)))] w (aP (U:=Un) [(.ob 2 rm m)] [] X w Q)
 intro rm m Q hQ X w hs hl
 obtain⟨L,hX,hM⟩:=(hs.res 0 _ rfl:bn 2 rm m (X 0) w)
 refine(Ck hM).mono ?_
 rintro e w' ⟨u,rfl,rfl,q⟩
 subst q
 exact aP.pu hs (Ch.refl _ _) hQ trivial
theorem tj {m:Mem} {l:List U32} {p:Nat}(h:(Ent.cI (DB.wd l (1+2*p)) (DB.wd l (2+2*p)) !=0)=true∨decide ((Ent.dec (DB.wd l (1+2*p)) (DB.wd l (2+2*p))).owner≥(m.S:Int))=true):DB.fI m l p=false:=by
 unfold DB.fI
 rcases h with h | h
 ·simp at h;simp [h]
 ·simp at h;simp;omega
theorem qB {m:Mem} {l:List U32} {p:Nat}(hok:∀q,q<p→DB.fI m l q=true)(h:(Ent.cI (DB.wd l (1+2*p)) (DB.wd l (2+2*p)) !=0)=false∧decide ((Ent.dec (DB.wd l (1+2*p)) (DB.wd l (2+2*p))).owner≥(m.S:Int))=false):∀q,q<p+1→DB.fI m l q=true:=by
 intro q hq
 by_cases e:q=p
 ·subst e
  unfold DB.fI
  have h1:=h.1
  have h2:=h.2
  simp at h1 h2
  simp [h1,h2]
 ·exact hok q (by omega)
def rn:Ctr Un:=⟨[.one (.obj 0 0),.one (.sl 1)],[],[.ob 2 [],.lst 1 false 22],[],fun rm m A c l K=>((∀x∈l,0≤x.v∧x.v<4294967296))∧split (decide (DB.aJ m l=0)) (∀(g:Nat)(A1:Option Addr)(c1:Nat),K ⟨(.tuple #[(.pointer (some (Addr.mk g 0 none))),(.int .i64 0)]),(some (.t [(some (.loc 2 0)),none])),[],[(.blk g [(.pointer (some (Addr.mk (rm 0) 0 none))),(.slice A1 (((DB.load m l).aj).length) c1),(.int .i64 (DB.wd l 0))] 67),(.lst 4 true 120 A1 c1 ((DB.load m l).aj))],[(.c 2 0,.p (.obj 0 0 0)),(.c 2 1,.p (.sl 3 0))]⟩) (K ⟨(.tuple #[(.pointer none),(.int .i64 110)]),(some (.t [none,none])),[],[],[]⟩)⟩
def Aq(rm:Nat→Nat)(m:Mem)(A:Option Addr)(c:Nat)(l:List U32)(Q:Ou Un→Prop):Prop:=
 Mem.Wf m→
 ∃J:Bool→Prop,(
  split ((l.length:Int) !=(i64.wrap (1+(i64.wrap (2*m.S))))) (
   J true) (
   (0≤(0:Int)∧(0:Int)<(l.length:Int))∧
   J (decide ((l.getD (Int.toNat 0) (U32.mk 0)).v>64))))∧∀(_gv:Nat→Value)(x26:Bool),J x26→
 split x26 (
  Q ⟨(.tuple #[(.pointer none),(.int .i64 110)]),(some (.t [none,none])),[],[],[]⟩) (
  (0≤(0:Int)∧(0:Int)<(l.length:Int))∧
  (some (.pointer (some (Addr.mk (rm 0) 0 none))):Option Value)=some (.pointer (some (Addr.mk (rm 0) 0 none)))∧
  ∀(gv1:Nat),
  ∀p:Int,p=0→
  ∃I:Nat→Int→Int→Option Addr→Nat→List Ent→Prop,(∃m1,I m1 p (i64.wrap ((l.getD (Int.toNat 0) (U32.mk 0)).v)) none 0 ([]:List Ent))∧∀(m1:Nat)(_gv2:Nat→Value)(p1:Int)(y2c:Int)(A3:Option Addr)(c3:Nat)(l3:List Ent),I m1 p1 y2c A3 c3 l3→
  split (decide (p1<m.S)) (
   (0≤(i64.wrap (1+(i64.wrap (2*p1))))∧(i64.wrap (1+(i64.wrap (2*p1))))<(l.length:Int))∧
   (0≤(i64.wrap (2+(i64.wrap (2*p1))))∧(i64.wrap (2+(i64.wrap (2*p1))))<(l.length:Int))∧
   (((0≤((l.getD (Int.toNat (i64.wrap (1+(i64.wrap (2*p1))))) (U32.mk 0)).v)∧((l.getD (Int.toNat (i64.wrap (1+(i64.wrap (2*p1))))) (U32.mk 0)).v)<4294967296)∧(0≤((l.getD (Int.toNat (i64.wrap (2+(i64.wrap (2*p1))))) (U32.mk 0)).v)∧((l.getD (Int.toNat (i64.wrap (2+(i64.wrap (2*p1))))) (U32.mk 0)).v)<4294967296))∧
     ∀(gv3:Nat),
     ∃J1:Bool→Prop,(
      split ((Ent.cI ((l.getD (Int.toNat (i64.wrap (1+(i64.wrap (2*p1))))) (U32.mk 0)).v) ((l.getD (Int.toNat (i64.wrap (2+(i64.wrap (2*p1))))) (U32.mk 0)).v)) !=0) (
       J1 true) (
       J1 (decide ((Ent.dec ((l.getD (Int.toNat (i64.wrap (1+(i64.wrap (2*p1))))) (U32.mk 0)).v) ((l.getD (Int.toNat (i64.wrap (2+(i64.wrap (2*p1))))) (U32.mk 0)).v)).owner≥m.S))))∧∀(_gv4:Nat→Value)(x65:Bool),J1 x65→
     split x65 (
      Q ⟨(.tuple #[(.pointer none),(.int .i64 110)]),(some (.t [none,none])),[],[],[]⟩) (
      ∀(gv5:Nat),
      ∀(l1:List Ent),l1=([Ent.mk ((Ent.dec ((l.getD (Int.toNat (i64.wrap (1+(i64.wrap (2*p1))))) (U32.mk 0)).v) ((l.getD (Int.toNat (i64.wrap (2+(i64.wrap (2*p1))))) (U32.mk 0)).v)).typ) ((Ent.dec ((l.getD (Int.toNat (i64.wrap (1+(i64.wrap (2*p1))))) (U32.mk 0)).v) ((l.getD (Int.toNat (i64.wrap (2+(i64.wrap (2*p1))))) (U32.mk 0)).v)).owner) ((Ent.dec ((l.getD (Int.toNat (i64.wrap (1+(i64.wrap (2*p1))))) (U32.mk 0)).v) ((l.getD (Int.toNat (i64.wrap (2+(i64.wrap (2*p1))))) (U32.mk 0)).v)).refs) ((Ent.dec ((l.getD (Int.toNat (i64.wrap (1+(i64.wrap (2*p1))))) (U32.mk 0)).v) ((l.getD (Int.toNat (i64.wrap (2+(i64.wrap (2*p1))))) (U32.mk 0)).v)).state) ((Ent.dec ((l.getD (Int.toNat (i64.wrap (1+(i64.wrap (2*p1))))) (U32.mk 0)).v) ((l.getD (Int.toNat (i64.wrap (2+(i64.wrap (2*p1))))) (U32.mk 0)).v)).aF)]:List Ent)→
      ((l3.length+l1.length)*40≤140737488355328)∧
      ∀(A1:Option Addr)(c1:Nat),
      ∀(l2:List Ent),l2=(l3++l1)→
      ∀p2:Int,p2=(i64.wrap (p1+1))→
      ∃m2,m2<m1∧I m2 p2 y2c A1 c1 l2))∧
   (∀(gv3:Nat),
    ((0≤((l.getD (Int.toNat (i64.wrap (1+(i64.wrap (2*p1))))) (U32.mk 0)).v)∧((l.getD (Int.toNat (i64.wrap (1+(i64.wrap (2*p1))))) (U32.mk 0)).v)<4294967296)∧(0≤((l.getD (Int.toNat (i64.wrap (2+(i64.wrap (2*p1))))) (U32.mk 0)).v)∧((l.getD (Int.toNat (i64.wrap (2+(i64.wrap (2*p1))))) (U32.mk 0)).v)<4294967296))∧
    ∃J1:Bool→Prop,(
     split ((Ent.cI ((l.getD (Int.toNat (i64.wrap (1+(i64.wrap (2*p1))))) (U32.mk 0)).v) ((l.getD (Int.toNat (i64.wrap (2+(i64.wrap (2*p1))))) (U32.mk 0)).v)) !=0) (
      J1 true) (
      J1 (decide ((Ent.dec ((l.getD (Int.toNat (i64.wrap (1+(i64.wrap (2*p1))))) (U32.mk 0)).v) ((l.getD (Int.toNat (i64.wrap (2+(i64.wrap (2*p1))))) (U32.mk 0)).v)).owner≥m.S))))∧∀(_gv4:Nat→Value)(x65:Bool),J1 x65→
    split x65 (
     Q ⟨(.tuple #[(.pointer none),(.int .i64 110)]),(some (.t [none,none])),[],[],[]⟩) (
     ∀(gv5:Nat),
     ∀(l1:List Ent),l1=([Ent.mk ((Ent.dec ((l.getD (Int.toNat (i64.wrap (1+(i64.wrap (2*p1))))) (U32.mk 0)).v) ((l.getD (Int.toNat (i64.wrap (2+(i64.wrap (2*p1))))) (U32.mk 0)).v)).typ) ((Ent.dec ((l.getD (Int.toNat (i64.wrap (1+(i64.wrap (2*p1))))) (U32.mk 0)).v) ((l.getD (Int.toNat (i64.wrap (2+(i64.wrap (2*p1))))) (U32.mk 0)).v)).owner) ((Ent.dec ((l.getD (Int.toNat (i64.wrap (1+(i64.wrap (2*p1))))) (U32.mk 0)).v) ((l.getD (Int.toNat (i64.wrap (2+(i64.wrap (2*p1))))) (U32.mk 0)).v)).refs) ((Ent.dec ((l.getD (Int.toNat (i64.wrap (1+(i64.wrap (2*p1))))) (U32.mk 0)).v) ((l.getD (Int.toNat (i64.wrap (2+(i64.wrap (2*p1))))) (U32.mk 0)).v)).state) ((Ent.dec ((l.getD (Int.toNat (i64.wrap (1+(i64.wrap (2*p1))))) (U32.mk 0)).v) ((l.getD (Int.toNat (i64.wrap (2+(i64.wrap (2*p1))))) (U32.mk 0)).v)).aF)]:List Ent)→
     ((l3.length+l1.length)*40≤140737488355328)∧
     ∀(A1:Option Addr)(c1:Nat),
     ∀(l2:List Ent),l2=(l3++l1)→
     ∀p2:Int,p2=(i64.wrap (p1+1))→
     ∃m2,m2<m1∧I m2 p2 y2c A1 c1 l2))) (
   Q ⟨(.tuple #[(.pointer (some (Addr.mk gv1 0 none))),(.int .i64 0)]),(some (.t [(some (.loc 2 0)),none])),[],[(.blk gv1 [(.pointer (some (Addr.mk (rm 0) 0 none))),(.slice A3 l3.length c3),(.int .i64 y2c)] 67),(.lst 4 true 120 A3 c3 l3)],[(.c 2 0,.p (.obj 0 0 0)),(.c 2 1,.p (.sl 3 0))]⟩))
theorem Ar:Vc2 Un Tryz.prog (bd [(76,fN),(120,fM)]) [7] Tryz.f95 (.r' (.two (.two (.node [] (some ⟨[(26,(.one .bool))],[],upN 10 17,[]⟩) [] [] .leaf .leaf) .leaf) (.r' (.two (.r' (.two (.node [(.c 2 1,4,120)] (some ⟨[(7,(.one (.int .i64)))],[],[4,5,7,8,9]++upN 34 42,[(2,(.blk [(.k (.obj 0 0 0)),(.k (.sl 3 0)),(.v (.int .i64))])),(3,(.lst 4))]⟩) [] [] (.r' (.two (.two (.two (.node [] none [] [(5,[1]),(11,[1])] .leaf .leaf) (.two (.two (.node [] (some ⟨[(65,(.one .bool))],[],upN 57 9,[]⟩) [] [(4,[4])] .leaf .leaf) .leaf) (.node [] none [] [(4,[2]),(5,[4])] .leaf .leaf))) .leaf) .leaf)) .leaf) .leaf)) .leaf)))) [1000000,2,3] rn=(∀rm (m:Mem) A c (l:List U32),∀Q,(((∀x∈l,0≤x.v∧x.v<4294967296))∧split (decide (DB.aJ m l=0)) (∀(g:Nat)(A1:Option Addr)(c1:Nat),Q ⟨(.tuple #[(.pointer (some (Addr.mk g 0 none))),(.int .i64 0)]),(some (.t [(some (.loc 2 0)),none])),[],[(.blk g [(.pointer (some (Addr.mk (rm 0) 0 none))),(.slice A1 (((DB.load m l).aj).length) c1),(.int .i64 (DB.wd l 0))] 67),(.lst 4 true 120 A1 c1 ((DB.load m l).aj))],[(.c 2 0,.p (.obj 0 0 0)),(.c 2 1,.p (.sl 3 0))]⟩) (Q ⟨(.tuple #[(.pointer none),(.int .i64 110)]),(some (.t [none,none])),[],[],[]⟩))→Aq rm m A c l Q):=by kernel_rfl
theorem Ap:LV Un Tryz.prog 95 rn:=verify Tryz.func95 aa (tb:= [(76,fN),(120,fM)]) ⟨ov,yl,trivial⟩ (by kernel_rfl) (Ar.mpr fun rm m A c l Q h=>by
 try skip
 obtain⟨hp0,h⟩:=h
 exact fun f1=>(by have hS:=f1.2.1;(have e16:i64.wrap (1+i64.wrap (2*(m.S:Int)))=1+2*(m.S:Int):=by rw [ai (x:=2*(m.S:Int)) (by omega),ai (by omega)]);have hwr:=DB.ug hp0;exact bw (((((l.length:Nat):Int):Int) !=(i64.wrap (1+(i64.wrap (2*(m.S:Int)))))) || (decide (((l.getD (Int.toNat 0) (U32.mk 0)).v:Int)>64))) (ae (fun k1=>(by grind)) fun k1=>ao (by((rw [e16]at k1;simp at k1;omega))) fun s2=>(by grind))<| aS (fun k2=>(bz h (by(by_cases hn:l.length=1+2*m.S;(rw [DB.ta hn (by rw [e16]at k2;rcases k2 with k2 | k2;(simp at k2;omega);(simpa [DB.wd]using k2))];rfl);(rw [DB.nW hn];rfl))))) fun k2=>(by rw [e16]at k2;(have hlen:l.length=1+2*m.S:=by have:=k2.1;simp at this;omega);(have hb:¬DB.wd l 0>64:=by have:=k2.2;simpa [DB.wd]using this);exact ao (by(omega)) fun s3=>ao (by rfl) fun s4=>fun gv1=>allEq<| ⟨fun m1 p1 y2c A3 c3 l3=>(m1=((m.S:Int) - p1).toNat)∧(0≤p1∧p1≤(m.S:Int))∧(y2c=DB.wd l 0)∧(l3=(List.range p1.toNat).map (DB.load m l).ent)∧(∀q,q<p1.toNat→DB.fI m l q=true),⟨_,rfl,(by omega),(by have:=hwr 0;exact ai (x:=DB.wd l 0) (by omega)),(by rfl),(by intro q hq;omega)⟩,fun m1 _ p1 y2c A3 c3 l3 ⟨hm,hi,hy,hl,hok⟩=>(by(have hwa:p1<(m.S:Int)→(l.getD (Int.toNat (i64.wrap (1+i64.wrap (2*p1)))) (U32.mk 0)).v=DB.wd l (1+2*p1.toNat):=fun hh=>by rw [ai (x:=2*p1) (by omega),ai (by omega),show(1+2*p1).toNat=1+2*p1.toNat by omega];rfl);(have hwb:p1<(m.S:Int)→(l.getD (Int.toNat (i64.wrap (2+i64.wrap (2*p1)))) (U32.mk 0)).v=DB.wd l (2+2*p1.toNat):=fun hh=>by rw [ai (x:=2*p1) (by omega),ai (by omega),show(2+2*p1).toNat=2+2*p1.toNat by omega];rfl);exact ax (fun k3=>(by replace hwa:=hwa k3;replace hwb:=hwb k3;exact ao (by rw [ai (x:=2*p1) (by omega),ai (by omega)];omega) fun s5=>ao (by rw [ai (x:=2*p1) (by omega),ai (by omega)];omega) fun s6=>⟨ao (by rw [hwa,hwb];exact⟨hwr _,hwr _⟩) fun s7=>fun gv3=>bw ((((Ent.cI ((l.getD (Int.toNat (i64.wrap (1+(i64.wrap (2*p1))))) (U32.mk 0)).v) ((l.getD (Int.toNat (i64.wrap (2+(i64.wrap (2*p1))))) (U32.mk 0)).v)):Int) !=0) || (decide (((Ent.dec ((l.getD (Int.toNat (i64.wrap (1+(i64.wrap (2*p1))))) (U32.mk 0)).v) ((l.getD (Int.toNat (i64.wrap (2+(i64.wrap (2*p1))))) (U32.mk 0)).v)).owner:Int)≥(m.S:Int)))) (ae (fun k4=>(by grind)) fun k4=>(by grind))<| aS (fun k5=>(bz h (by(rw [hwa,hwb]at k5;rw [DB.dt hlen hb (p:=p1.toNat) (by omega) (tj k5)];rfl)))) fun k5=>fun gv5=>fun l1 h_l1=>ao (by rw [h_l1,hl];simp;omega) fun s8=>fun A1 c1=>fun l2 h_l2=>allEq<| ⟨_,(by rw [ai (x:=p1+1) (by omega)];omega),rfl,(by rw [ai (x:=p1+1) (by omega)];omega),(hy),(by rw [h_l2,h_l1,hl,hwa,hwb,ai (x:=p1+1) (by omega),show(p1+1).toNat=p1.toNat+1 by omega,List.range_succ,List.map_append];rfl),(by rw [ai (x:=p1+1) (by omega),show(p1+1).toNat=p1.toNat+1 by omega];(rw [hwa,hwb]at k5;exact qB hok k5))⟩,fun gv3=>ao (by rw [hwa,hwb];exact⟨hwr _,hwr _⟩) fun s9=>bw ((((Ent.cI ((l.getD (Int.toNat (i64.wrap (1+(i64.wrap (2*p1))))) (U32.mk 0)).v) ((l.getD (Int.toNat (i64.wrap (2+(i64.wrap (2*p1))))) (U32.mk 0)).v)):Int) !=0) || (decide (((Ent.dec ((l.getD (Int.toNat (i64.wrap (1+(i64.wrap (2*p1))))) (U32.mk 0)).v) ((l.getD (Int.toNat (i64.wrap (2+(i64.wrap (2*p1))))) (U32.mk 0)).v)).owner:Int)≥(m.S:Int)))) (ae (fun k6=>(by grind)) fun k6=>(by grind))<| aS (fun k7=>(bz h (by(rw [hwa,hwb]at k7;rw [DB.dt hlen hb (p:=p1.toNat) (by omega) (tj k7)];rfl)))) fun k7=>fun gv5=>fun l1 h_l1=>ao (by rw [h_l1,hl];simp;omega) fun s10=>fun A1 c1=>fun l2 h_l2=>allEq<| ⟨_,(by rw [ai (x:=p1+1) (by omega)];omega),rfl,(by rw [ai (x:=p1+1) (by omega)];omega),(hy),(by rw [h_l2,h_l1,hl,hwa,hwb,ai (x:=p1+1) (by omega),show(p1+1).toNat=p1.toNat+1 by omega,List.range_succ,List.map_append];rfl),(by rw [ai (x:=p1+1) (by omega),show(p1+1).toNat=p1.toNat+1 by omega];(rw [hwa,hwb]at k7;exact qB hok k7))⟩⟩)) fun k3=>(by(have hl3:(DB.load m l).aj=l3:=by rw [hl,show p1.toNat=m.S by omega];rfl);exact aK ((iJ h (by(rw [DB.nX hlen hb (fun q hq=>hok q (by omega))];rfl))) gv1 A3 c3) rfl rfl (af (congrArg (fun l=>Res.blk (U:=Un) _ l _) (af rfl (af (by grind) (af (congrArg (Value.int .i64) (by omega)) rfl)))) (af (congrArg (Res.lst (U:=Un) 4 true 120 _ _) ‹_›) rfl))))⟩)))
def nq:Ctr Un:=⟨[.one (.obj 0 0)],[],[.ob 2 []],[0],fun rm m K=>∀(g:Nat)(A1:Option Addr)(c1:Nat),K ⟨(.pointer (some (Addr.mk g 0 none))),(some (.p (.loc 1 0))),[.ob 2 (m.bL m.S)],[(.blk g [(.pointer (some (Addr.mk (rm 0) 0 none))),(.slice A1 ((List.replicate m.S Ent.free).length) c1),(.int .i64 0)] 67),(.lst 4 true 120 A1 c1 (List.replicate m.S Ent.free))],[(.c 1 0,.p (.obj 0 0 0)),(.c 1 1,.p (.sl 2 0))]⟩⟩
def Dk(rm:Nat→Nat)(m:Mem)(Q:Ou Un→Prop):Prop:=
 Mem.Wf m→
 (some (.pointer (some (Addr.mk (rm 0) 0 none))):Option Value)=some (.pointer (some (Addr.mk (rm 0) 0 none)))∧
 ∀(gv:Nat),
 ∀p:Int,p=0→
 ∃I:Nat→Int→Mem→Int→Option Addr→Nat→List Ent→Prop,(∃m1,I m1 p m 0 none 0 ([]:List Ent))∧∀(m1:Nat)(_gv1:Nat→Value)(p1:Int)(s0:Mem)(y1c:Int)(A2:Option Addr)(c2:Nat)(l2:List Ent),I m1 p1 s0 y1c A2 c2 l2→
 Mem.Wf s0→
 split (decide (p1<s0.S)) (
  ∀(m3:Mem),m3=(s0.zero true p1)→
  Mem.Wf m3→
  ∀(gv2:Nat),
  ∀(l:List Ent),l=([Ent.mk 0 0 0 0 false]:List Ent)→
  ((l2.length+l.length)*40≤140737488355328)∧
  ∀(A:Option Addr)(c:Nat),
  ∀(l1:List Ent),l1=(l2++l)→
  ∀p2:Int,p2=(i64.wrap (p1+1))→
  ∃m2,m2<m1∧I m2 p2 m3 y1c A c l1) (
  Q ⟨(.pointer (some (Addr.mk gv 0 none))),(some (.p (.loc 1 0))),[.ob 2 s0],[(.blk gv [(.pointer (some (Addr.mk (rm 0) 0 none))),(.slice A2 l2.length c2),(.int .i64 y1c)] 67),(.lst 4 true 120 A2 c2 l2)],[(.c 1 0,.p (.obj 0 0 0)),(.c 1 1,.p (.sl 2 0))]⟩)
theorem Dl:Vc2 Un Tryz.prog (bd [(76,fN),(78,cA),(77,fz)]) [4] Tryz.f31 (.r' (.r' (.r' (.two (.r' (.two (.node [(.c 1 1,4,120)] (some ⟨[(4,(.one (.int .i64)))],[],[4]++upN 10 20,[(0,(.ob 2)),(1,(.blk [(.k (.obj 0 0 0)),(.k (.sl 2 0)),(.v (.int .i64))])),(2,(.lst 4))]⟩) [] [] .leaf .leaf) .leaf)) .leaf)))) [1,2] nq=(∀rm (m:Mem),∀Q,(nq.body rm m Q)→Dk rm m Q):=by kernel_rfl
theorem Dj:LV Un Tryz.prog 31 nq:=verify Tryz.func31 aa (tb:= [(76,fN),(78,cA),(77,fz)]) ⟨ov,jA,nt,trivial⟩ (by kernel_rfl) (Dl.mpr fun rm m Q h=>fun f1=>(by have hS:=f1.2.1;exact ao (by rfl) fun s2=>fun gv=>allEq<| ⟨fun m1 p1 s0 y1c A2 c2 l2=>(m1=((m.S:Int) - p1).toNat)∧(0≤p1∧p1≤(m.S:Int))∧(s0=m.bL p1.toNat)∧(y1c=0)∧(l2=List.replicate p1.toNat Ent.free),⟨_,rfl,(by omega),(by rfl),(by rfl),(by rfl)⟩,fun m1 _ p1 s0 y1c A2 c2 l2 ⟨hm,hi,hs,hy,hl⟩=>(by(have hsS:s0.S=m.S:=by rw [hs,Mem.jc]);exact fun f3=>ax (fun c1=>fun m3 h_m3 f4=>fun gv2=>fun l h_l=>ao (by rw [h_l,hl];simp;omega) fun s5=>fun A c=>fun l1 h_l1=>allEq<| ⟨_,(by rw [ai (x:=p1+1) (by omega)];omega),rfl,(by rw [ai (x:=p1+1) (by omega)];omega),(by rw [h_m3,hs,Mem.ph _ (by omega)]),(hy),(by rw [h_l1,h_l,hl,ai (x:=p1+1) (by omega),show(p1+1).toNat=p1.toNat+1 by omega,List.replicate_succ'])⟩) fun c1=>(by(have hl3:List.replicate m.S Ent.free=l2:=by rw [hl,show p1.toNat=m.S by omega]);(have hm3:m.bL m.S=s0:=by rw [hs,show p1.toNat=m.S by omega]);exact aK (h gv A2 c2) rfl (af (congrArg (Upd.ob (U:=Un) 2) (show @Eq Mem _ _ from ‹_›)) rfl) (af (congrArg (fun l=>Res.blk (U:=Un) _ l _) (af rfl (af (by grind) (af (congrArg (Value.int .i64) (by omega)) rfl)))) (af (congrArg (Res.lst (U:=Un) 4 true 120 _ _) ‹_›) rfl))))⟩))
end Go.Proofs.YtbjlecpmgocoeaaGreatDoor
end
section
set_option maxRecDepth 100000
set_option maxHeartbeats 1000000
namespace Go.Proofs.YtbjlecpmgocoeaaGreatDoor
open Go Go.RowKit V
open Go.IntKind (i64 u32 u64)
open Go.Proofs (Tryz.prog)
theorem DB.wy(m:Mem):(DB.new m).pd.aj=List.replicate m.S Ent.free:=by
 show(List.range (DB.new m).S).map (fun _=>Ent.free)=_
 rw [DB.qm,List.map_const',List.length_range]
theorem DB.G0 {m:Mem} {l:List U32}(hw:∀x∈l,0≤x.v∧x.v<4294967296)(h:DB.aJ m l=0)(hS:m.S≤64):(DB.load m l).pd.Ok:=⟨(DB.uE hw h).ent,(DB.uE hw h).aB,hS⟩
theorem DB.Iy {m:Mem}(h:1≤m.S)(hS:m.S≤64):(DB.new m).pd.Ok:=⟨(DB.ql m h).ent,(DB.ql m h).aB,by show(DB.new m).S≤64;rw [DB.qm];exact hS⟩
def rl:Ctr Un:=⟨[.one (.obj 0 0)],[],[.ob 2 []],[0],fun rm m K=>1≤m.S∧∀(rN:Nat→Nat),K ⟨(.pointer (some (Addr.mk (rN 0) 0 none))),(some (.p (.obj 1 0 0))),[.ob 2 (m.bL m.S)],[(.ob 3 rN ((DB.new m).pd))],[(.l 1 1,.p (.obj 0 0 0))]⟩⟩
theorem F1:LV Un Tryz.prog 31 rl:=by
 show ∀(rm:Nat→Nat)(m:Mem),∀Q:Ou Un→Prop,(1≤m.S∧∀(rN:Nat→Nat),Q ⟨(.pointer (some (Addr.mk (rN 0) 0 none))),(some (.p (.obj 1 0 0))),[.ob 2 (m.bL m.S)],[(.ob 3 rN ((DB.new m).pd))],[(.l 1 1,.p (.obj 0 0 0))]⟩)→∀(X:Nat→Nat→Prop)(w:World),Sat (U:=Un) [(.ob 2 rm m)] X w→aD (U:=Un) [(.ob 2 rm m)] fr0 []→Calls Tryz.prog 31 #[(.pointer (some (Addr.mk (rm 0) 0 none)))] w (aP (U:=Un) [(.ob 2 rm m)] [0] X w Q)
 intro rm m Q hQ X w hs hl
 obtain⟨hS,hQ⟩:=hQ
 have hwf:Mem.Wf m:=u9 (t:=2) (r:=rm) (s:=m) (hs.res 0 _ rfl)
 have h1:=Dj rm m (fun o=>∃(g:Nat)(A1:Option Addr)(c1:Nat),o=⟨(.pointer (some (Addr.mk g 0 none))),(some (.p (.loc 1 0))),[.ob 2 (m.bL m.S)],[(.blk g [(.pointer (some (Addr.mk (rm 0) 0 none))),(.slice A1 ((List.replicate m.S Ent.free).length) c1),(.int .i64 0)] 67),(.lst 4 true 120 A1 c1 (List.replicate m.S Ent.free))],[(.c 1 0,.p (.obj 0 0 0)),(.c 1 1,.p (.sl 2 0))]⟩) (fun g A1 c1=>⟨g,A1,c1,rfl⟩) X w hs hl
 refine h1.mono ?_
 rintro e w' ⟨out,rs',X',rfl,⟨g,A1,c1,rfl⟩,happ,hp⟩
 change bh [Res.ob 2 rm m] [0] [.ob 2 (m.bL m.S)]=some rs' at happ
 have happ2: [Res.ob (U:=Un) 2 rm (m.bL m.S)]=rs':=by simpa [bh,cn,nth,cj]using happ
 subst happ2
 have hb1:RS (U:=Un) (X' 1) w' (.blk g [.pointer (some (Addr.mk (rm 0) 0 none)),.slice A1 (DB.new m).pd.aj.length c1,.int .i64 (DB.new m).pd.aB] 67):=by rw [DB.wy];exact hp.sat.res 1 _ rfl
 have hb2:RS (U:=Un) (X' 2) w' (.lst 4 true 120 A1 c1 (DB.new m).pd.aj):=by rw [DB.wy];exact hp.sat.res 2 _ rfl
 obtain⟨e,hob,hZ⟩:=En (E:=(DB.new m).pd) hb1 hb2 (hp.sat.dis 1 2 (by simp) (by simp) (by omega)) (by show 1≤(DB.new m).S;rw [DB.qm];exact hS) (DB.Iy hS hwf.2.1)
 exact aP.pack (k':=some (.p (.obj 1 0 0))) (kc':= [(.l 1 1,.p (.obj 0 0 0))]) happ hp hob (fun k hk=>hk.elim (fun e=>.inl (e▸hb1.1)) (fun e=>.inr (e▸hZ))) (hQ (fun i=>if i=0 then g else if i=1 then rm 0 else if i=2 then e else c1)) rfl (kZ ⟨_,_,_,rfl,rfl⟩)
def nr:Ctr Un:=⟨[.one (.obj 0 0),.one (.sl 1)],[],[.ob 2 [],.lst 1 false 22],[],fun rm m A c l K=>((∀x∈l,0≤x.v∧x.v<4294967296))∧1≤m.S∧split (decide (DB.aJ m l=0)) (∀(rN:Nat→Nat),K ⟨(.tuple #[(.pointer (some (Addr.mk (rN 0) 0 none))),(.int .i64 0)]),(some (.t [(some (.obj 2 0 0)),none])),[],[(.ob 3 rN ((DB.load m l).pd))],[(.l 2 1,.p (.obj 0 0 0))]⟩) (K ⟨(.tuple #[(.pointer none),(.int .i64 110)]),(some (.t [none,none])),[],[],[]⟩)⟩
theorem Dm:LV Un Tryz.prog 95 nr:=by
 show ∀(rm:Nat→Nat)(m:Mem)(A:Option Addr)(c:Nat)(l:List U32),∀Q:Ou Un→Prop,(((∀x∈l,0≤x.v∧x.v<4294967296))∧1≤m.S∧split (decide (DB.aJ m l=0)) (∀(rN:Nat→Nat),Q ⟨(.tuple #[(.pointer (some (Addr.mk (rN 0) 0 none))),(.int .i64 0)]),(some (.t [(some (.obj 2 0 0)),none])),[],[(.ob 3 rN ((DB.load m l).pd))],[(.l 2 1,.p (.obj 0 0 0))]⟩) (Q ⟨(.tuple #[(.pointer none),(.int .i64 110)]),(some (.t [none,none])),[],[],[]⟩))→∀(X:Nat→Nat→Prop)(w:World),Sat (U:=Un) [(.ob 2 rm m),(.lst 1 false 22 A c l)] X w→aD (U:=Un) [(.ob 2 rm m),(.lst 1 false 22 A c l)] fr0 []→Calls Tryz.prog 95 #[(.pointer (some (Addr.mk (rm 0) 0 none))),(.slice A l.length c)] w (aP (U:=Un) [(.ob 2 rm m),(.lst 1 false 22 A c l)] [] X w Q)
 intro rm m A c l Q hQ X w hs hl
 obtain⟨hw,hS,hQ⟩:=hQ
 have hwf:Mem.Wf m:=u9 (t:=2) (r:=rm) (s:=m) (hs.res 0 _ rfl)
 have h1:=Ap rm m A c l (fun o=>(DB.aJ m l=0∧∃(g:Nat)(A1:Option Addr)(c1:Nat),o=⟨(.tuple #[(.pointer (some (Addr.mk g 0 none))),(.int .i64 0)]),(some (.t [(some (.loc 2 0)),none])),[],[(.blk g [(.pointer (some (Addr.mk (rm 0) 0 none))),(.slice A1 (((DB.load m l).aj).length) c1),(.int .i64 (DB.wd l 0))] 67),(.lst 4 true 120 A1 c1 ((DB.load m l).aj))],[(.c 2 0,.p (.obj 0 0 0)),(.c 2 1,.p (.sl 3 0))]⟩)∨(DB.aJ m l≠0∧o=⟨(.tuple #[(.pointer none),(.int .i64 110)]),(some (.t [none,none])),[],[],[]⟩)) ⟨hw,ae (fun h g A1 c1=>.inl ⟨of_decide_eq_true h,g,A1,c1,rfl⟩) (fun h=>.inr ⟨of_decide_eq_false h,rfl⟩)⟩ X w hs hl
 refine h1.mono ?_
 rintro e w' ⟨out,rs',X',rfl,⟨he,g,A1,c1,rfl⟩ | ⟨he,rfl⟩,happ,hp⟩
 ·change bh [Res.ob (U:=Un) 2 rm m,.lst 1 false 22 A c l] [] []=some rs' at happ
  have happ2: [Res.ob (U:=Un) 2 rm m,.lst 1 false 22 A c l]=rs':=by simpa [bh]using happ
  subst happ2
  have hb1:RS (U:=Un) (X' 2) w' (.blk g [.pointer (some (Addr.mk (rm 0) 0 none)),.slice A1 (DB.load m l).pd.aj.length c1,.int .i64 (DB.load m l).pd.aB] 67):=hp.sat.res 2 _ rfl
  have hb2:RS (U:=Un) (X' 3) w' (.lst 4 true 120 A1 c1 (DB.load m l).pd.aj):=hp.sat.res 3 _ rfl
  obtain⟨e,hob,hZ⟩:=En (E:=(DB.load m l).pd) hb1 hb2 (hp.sat.dis 2 3 (by simp) (by simp) (by omega)) hS (DB.G0 hw he hwf.2.1)
  exact aP.pack (k':=some (.t [some (.obj 2 0 0),none])) (kc':= [(.l 2 1,.p (.obj 0 0 0))]) happ hp hob (fun k hk=>hk.elim (fun e=>.inl (e▸hb1.1)) (fun e=>.inr (e▸hZ))) (iJ hQ (decide_eq_true he) (fun i=>if i=0 then g else if i=1 then rm 0 else if i=2 then e else c1)) (KnO.pair rfl) (kZ ⟨_,_,_,rfl,rfl⟩)
 ·exact⟨_,_,_,rfl,bz hQ (decide_eq_false he),happ,hp⟩
def vA:Ctr Un:=⟨[.one (.obj 0 0),.one (.sl 1)],[],[.ob 0 [],.lst 1 false 22],[],fun rm m A c l K=>((∀x∈l,0≤x.v∧x.v<4294967296))∧1≤m.S∧split (decide (DB.aJ m l=0)) (∀(rN:Nat→Nat),K ⟨(.tuple #[(.pointer (some (Addr.mk (rN 0) 0 none))),(.int .i64 0)]),(some (.t [(some (.obj 2 0 0)),none])),[],[(.ob 1 rN ((DB.load m l).pd))],[(.l 2 1,.p (.obj 0 0 0))]⟩) (K ⟨(.tuple #[(.pointer none),(.int .i64 110)]),(some (.t [none,none])),[],[],[]⟩)⟩
theorem HL:LV Un Tryz.prog 94 vA:=by
 show ∀(rm:Nat→Nat)(m:Mem)(A:Option Addr)(c:Nat)(l:List U32),∀Q:Ou Un→Prop,(((∀x∈l,0≤x.v∧x.v<4294967296))∧1≤m.S∧split (decide (DB.aJ m l=0)) (∀(rN:Nat→Nat),Q ⟨(.tuple #[(.pointer (some (Addr.mk (rN 0) 0 none))),(.int .i64 0)]),(some (.t [(some (.obj 2 0 0)),none])),[],[(.ob 1 rN ((DB.load m l).pd))],[(.l 2 1,.p (.obj 0 0 0))]⟩) (Q ⟨(.tuple #[(.pointer none),(.int .i64 110)]),(some (.t [none,none])),[],[],[]⟩))→∀(X:Nat→Nat→Prop)(w:World),Sat (U:=Un) [(.ob 0 rm m),(.lst 1 false 22 A c l)] X w→aD (U:=Un) [(.ob 0 rm m),(.lst 1 false 22 A c l)] fr0 []→Calls Tryz.prog 94 #[(.pointer (some (Addr.mk (rm 0) 0 none))),(.slice A l.length c)] w (aP (U:=Un) [(.ob 0 rm m),(.lst 1 false 22 A c l)] [] X w Q)
 intro rm m A c l Q hQ X w hs hl
 obtain⟨hw,hS,hQ⟩:=hQ
 obtain⟨L,hg,hX,hM⟩:=(hs.res 0 _ rfl:bn 0 rm m (X 0) w)
 have hr:Rd w (X 1) A l.length c l:=hs.res 1 _ rfl
 rw [hg]
 refine(JP hM hr hw).mono ?_
 rintro e w' ⟨u,rfl,p,rfl,hok,hbad,q⟩
 by_cases he:DB.aJ m l=0
 ·obtain⟨g,a,rfl,hD,hg1,ha1⟩:=hok he
  have hQ:=iJ hQ (decide_eq_true he) (fun i=>if i=0 then g else L.g)
  rw [he]
  exact aP.wD (Z:=fun k=>k=g∨k=a) hs q (show RS (U:=Un) (fun k=>k=g∨k=a) w' (.ob 1 (fun i=>if i=0 then g else L.g) (DB.load m l).pd)from(⟨a,fun k=>Iff.rfl,hD.pd⟩:bn 1 (fun i=>if i=0 then g else L.g) (DB.load m l).pd (fun k=>k=g∨k=a) w')) (fun k hk=>by rcases hk with rfl | rfl;exact hg1;exact ha1) hQ (KnO.pair rfl) (kZ ⟨_,_,_,rfl,show some (Value.pointer (some ⟨rm 0,0,none⟩))=some (.pointer (some ⟨L.g,0,none⟩))by rw [hg]⟩)
 ·have he2:DB.aJ m l=110:=by unfold DB.aJ at he ⊢;split;rfl;split;rfl;split;(rename_i h1 h2 h3;rw [if_neg h1,if_neg h2,if_pos h3]at he;exact absurd rfl he);rfl
  rw [hbad he,he2]
  exact aP.pu hs q (bz hQ (decide_eq_false he)) (KnO.tup _ (by simp))
end Go.Proofs.YtbjlecpmgocoeaaGreatDoor
end
section
set_option maxRecDepth 100000
set_option maxHeartbeats 1000000
namespace Go.Proofs.YtbjlecpmgocoeaaGreatDoor
open Go Go.RowKit V
open Go.IntKind (i64 u32 u64)
open Go.Proofs (Tryz.prog)
attribute [local grind=] Pd.cP Pd.bM Pd.jl Pd.jG Pd.dq Pd.cx Pd.eK Pd.gj Pd.lM Pd.oF
attribute [local grind .] Pd.Ok.ent
attribute [local grind→] Pd.Ok.cH
def nE:Ctr Un:=⟨[.one (.any)],[(0,8)],[.ob 8 []],[],fun pv r s K=>Value.pointer (some (Addr.mk (LSt.pD s) 0 none))=pv∧K ⟨(.int .i64 (s.D.S:Int)),none,[],[],[]⟩⟩
theorem DU:LV Un Tryz.prog 18 nE:=by
 show ∀(pv:Value)(r:Nat→Nat)(s:LSt),∀Q:Ou Un→Prop,(Value.pointer (some (Addr.mk (LSt.pD s) 0 none))=pv∧Q ⟨(.int .i64 (s.D.S:Int)),none,[],[],[]⟩)→∀(X:Nat→Nat→Prop)(w:World),Sat (U:=Un) [(.ob 8 r s)] X w→aD (U:=Un) [(.ob 8 r s)] fr0 []→Calls Tryz.prog 18 #[pv] w (aP (U:=Un) [(.ob 8 r s)] [] X w Q)
 intro pv r s Q hQ X w hs hl
 obtain⟨hpv,hQ⟩:=hQ
 subst hpv
 refine GC hs (fun r1 rm X1 hs1 hl1 e1=>?_) hQ trivial
 rw [e1];exact yY r1 s.D.pd rm s.D.mem (fun o=>o=_) ⟨rfl,rfl⟩ X1 w hs1 hl1
def nH:Ctr Un:=⟨[.one (.any),.one (.int .i64)],[(0,8)],[.ob 8 []],[],fun pv p r s K=>Value.pointer (some (Addr.mk (LSt.pD s) 0 none))=pv∧K ⟨(.tuple #[(.agg #[(.int .i64 ((s.D.entry p).typ)),(.int .i64 ((s.D.entry p).owner)),(.int .i64 ((s.D.entry p).refs)),(.int .i64 ((s.D.entry p).state)),(.bool ((s.D.entry p).aF))]),(.int .i64 (s.D.cQ p))]),(some (.t [none,none])),[],[],[]⟩⟩
theorem D0:LV Un Tryz.prog 49 nH:=by
 show ∀(pv:Value)(p:Int)(r:Nat→Nat)(s:LSt),∀Q:Ou Un→Prop,(Value.pointer (some (Addr.mk (LSt.pD s) 0 none))=pv∧Q ⟨(.tuple #[(.agg #[(.int .i64 ((s.D.entry p).typ)),(.int .i64 ((s.D.entry p).owner)),(.int .i64 ((s.D.entry p).refs)),(.int .i64 ((s.D.entry p).state)),(.bool ((s.D.entry p).aF))]),(.int .i64 (s.D.cQ p))]),(some (.t [none,none])),[],[],[]⟩)→∀(X:Nat→Nat→Prop)(w:World),Sat (U:=Un) [(.ob 8 r s)] X w→aD (U:=Un) [(.ob 8 r s)] fr0 []→Calls Tryz.prog 49 #[pv,(.int .i64 p)] w (aP (U:=Un) [(.ob 8 r s)] [] X w Q)
 intro pv p r s Q hQ X w hs hl
 obtain⟨hpv,hQ⟩:=hQ
 subst hpv
 refine GC hs (fun r1 rm X1 hs1 hl1 e1=>?_) hQ (KnO.tup _ (by simp))
 rw [e1];exact zb p r1 s.D.pd rm s.D.mem (fun o=>o=_) ⟨rfl,rfl⟩ X1 w hs1 hl1
def gV:Ctr Un:=⟨[.one (.any)],[(0,8)],[.ob 8 []],[],fun pv r s K=>Value.pointer (some (Addr.mk (LSt.pD s) 0 none))=pv∧K ⟨(.tuple #[(.int .i64 s.D.broken.1),(.int .i64 s.D.broken.2)]),(some (.t [none,none])),[],[],[]⟩⟩
theorem qY:LV Un Tryz.prog 7 gV:=by
 show ∀(pv:Value)(r:Nat→Nat)(s:LSt),∀Q:Ou Un→Prop,(Value.pointer (some (Addr.mk (LSt.pD s) 0 none))=pv∧Q ⟨(.tuple #[(.int .i64 s.D.broken.1),(.int .i64 s.D.broken.2)]),(some (.t [none,none])),[],[],[]⟩)→∀(X:Nat→Nat→Prop)(w:World),Sat (U:=Un) [(.ob 8 r s)] X w→aD (U:=Un) [(.ob 8 r s)] fr0 []→Calls Tryz.prog 7 #[pv] w (aP (U:=Un) [(.ob 8 r s)] [] X w Q)
 intro pv r s Q hQ X w hs hl
 obtain⟨hpv,hQ⟩:=hQ
 subst hpv
 refine GC hs (fun r1 rm X1 hs1 hl1 e1=>?_) hQ (KnO.tup _ (by simp))
 rw [e1];exact C3 r1 s.D.pd rm s.D.mem (fun o=>o=_) ⟨rfl,rfl⟩ X1 w hs1 hl1
def nm:Ctr Un:=⟨[.one (.any),.one (.int .i64)],[(0,8)],[.ob 8 []],[],fun pv n r s K=>Value.pointer (some (Addr.mk (LSt.pD s) 0 none))=pv∧K ⟨(.bool (s.D.holds n)),none,[],[],[]⟩⟩
theorem CZ:LV Un Tryz.prog 17 nm:=by
 show ∀(pv:Value)(n:Int)(r:Nat→Nat)(s:LSt),∀Q:Ou Un→Prop,(Value.pointer (some (Addr.mk (LSt.pD s) 0 none))=pv∧Q ⟨(.bool (s.D.holds n)),none,[],[],[]⟩)→∀(X:Nat→Nat→Prop)(w:World),Sat (U:=Un) [(.ob 8 r s)] X w→aD (U:=Un) [(.ob 8 r s)] fr0 []→Calls Tryz.prog 17 #[pv,(.int .i64 n)] w (aP (U:=Un) [(.ob 8 r s)] [] X w Q)
 intro pv n r s Q hQ X w hs hl
 obtain⟨hpv,hQ⟩:=hQ
 subst hpv
 refine GC hs (fun r1 rm X1 hs1 hl1 e1=>?_) hQ trivial
 rw [e1];exact FK n r1 s.D.pd rm s.D.mem (fun o=>o=_) ⟨rfl,rfl⟩ X1 w hs1 hl1
def nF:Ctr Un:=⟨[.one (.any),.one (.int .i64)],[(0,8)],[.ob 8 []],[],fun pv o r s K=>Value.pointer (some (Addr.mk (LSt.pD s) 0 none))=pv∧∀(A:Option Addr)(c:Nat),K ⟨(.slice A (((own s.D o)).length) c),(some (.p (.sl 1 0))),[],[(.lst 0 true 3 A c (own s.D o))],[]⟩⟩
theorem DW:LV Un Tryz.prog 51 nF:=by
 show ∀(pv:Value)(o:Int)(r:Nat→Nat)(s:LSt),∀Q:Ou Un→Prop,(Value.pointer (some (Addr.mk (LSt.pD s) 0 none))=pv∧∀(A:Option Addr)(c:Nat),Q ⟨(.slice A (((own s.D o)).length) c),(some (.p (.sl 1 0))),[],[(.lst 0 true 3 A c (own s.D o))],[]⟩)→∀(X:Nat→Nat→Prop)(w:World),Sat (U:=Un) [(.ob 8 r s)] X w→aD (U:=Un) [(.ob 8 r s)] fr0 []→Calls Tryz.prog 51 #[pv,(.int .i64 o)] w (aP (U:=Un) [(.ob 8 r s)] [] X w Q)
 intro pv o r s Q hQ X w hs hl
 obtain⟨hpv,hQ⟩:=hQ
 subst hpv
 refine Ka (t:=0) (T:=3) (l:=(own s.D o)) hs (fun r1 rm X1 hs1 hl1 e1=>?_) hQ
 rw [e1];exact yZ o r1 s.D.pd rm s.D.mem (fun o=>∃A c,o=_) ⟨rfl,fun A c=>⟨A,c,rfl⟩⟩ X1 w hs1 hl1
def rI:Ctr Un:=⟨[.one (.any),.agg [.bool,.int .i64],.one (.int .i64)],[(0,8)],[.ob 8 []],[],fun pv fa fb off r s K=>Value.pointer (some (Addr.mk (LSt.pM s) 0 none))=pv∧K ⟨(.int .u32 (s.D.mem.iM fa fb off)),none,[],[],[]⟩⟩
theorem Ga:LV Un Tryz.prog 98 rI:=by
 show ∀(pv:Value)(fa:Bool)(fb:Int)(off:Int)(r:Nat→Nat)(s:LSt),∀Q:Ou Un→Prop,(Value.pointer (some (Addr.mk (LSt.pM s) 0 none))=pv∧Q ⟨(.int .u32 (s.D.mem.iM fa fb off)),none,[],[],[]⟩)→∀(X:Nat→Nat→Prop)(w:World),Sat (U:=Un) [(.ob 8 r s)] X w→aD (U:=Un) [(.ob 8 r s)] fr0 []→Calls Tryz.prog 98 #[pv,(.agg #[(.bool fa),(.int .i64 fb)]),(.int .i64 off)] w (aP (U:=Un) [(.ob 8 r s)] [] X w Q)
 intro pv fa fb off r s Q hQ X w hs hl
 obtain⟨hpv,hQ⟩:=hQ
 subst hpv
 refine Js hs (fun rm X1 hs1 e1=>?_) hQ trivial
 rw [e1];exact BR fa fb off rm s.D.mem (fun o=>o=_) rfl X1 w hs1 (fun _ _ h=>by cases h)
def nw:Ctr Un:=⟨[.one (.any)],[(0,8)],[.ob 8 []],[],fun pv r s K=>Value.pointer (some (Addr.mk (LSt.pM s) 0 none))=pv∧K ⟨(.int .i64 s.D.mem.fl),none,[],[],[]⟩⟩
theorem Dy:LV Un Tryz.prog 16 nw:=by
 show ∀(pv:Value)(r:Nat→Nat)(s:LSt),∀Q:Ou Un→Prop,(Value.pointer (some (Addr.mk (LSt.pM s) 0 none))=pv∧Q ⟨(.int .i64 s.D.mem.fl),none,[],[],[]⟩)→∀(X:Nat→Nat→Prop)(w:World),Sat (U:=Un) [(.ob 8 r s)] X w→aD (U:=Un) [(.ob 8 r s)] fr0 []→Calls Tryz.prog 16 #[pv] w (aP (U:=Un) [(.ob 8 r s)] [] X w Q)
 intro pv r s Q hQ X w hs hl
 obtain⟨hpv,hQ⟩:=hQ
 subst hpv
 refine Js hs (fun rm X1 hs1 e1=>?_) hQ trivial
 rw [e1];exact Gb rm s.D.mem (fun o=>o=_) rfl X1 w hs1 (fun _ _ h=>by cases h)
end Go.Proofs.YtbjlecpmgocoeaaGreatDoor
end
