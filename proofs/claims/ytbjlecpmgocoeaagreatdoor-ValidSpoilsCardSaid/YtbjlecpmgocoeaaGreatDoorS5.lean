/- ValidSpoils returns true for every input, and each argument reads behind the call as it read before; no condition but that the listed variables read as the row lists them. -/
import Derived.Test.YtbjlecpmgocoeaaGreatDoorS4
import Derived.KernelRfl
set_option linter.unusedVariables false
set_option linter.unusedSimpArgs false
section
set_option maxRecDepth 100000
set_option maxHeartbeats 1000000
namespace Go.Proofs.YtbjlecpmgocoeaaGreatDoor
open Go Go.RowKit V
open Go.IntKind (i64 u32 u64)
open Go.Proofs (Tryz.prog)
def j5:Ctr Un:=⟨[.one (.int .i64)],[],[],[],fun p K=>K ⟨(.tuple #[(.int .u32 (gN p)),(.int .i64 (dN p))]),(some (.t [none,none])),[],[],[]⟩⟩
def Em(p:Int)(Q:Ou Un→Prop):Prop:=
 ∃J:Bool→Prop,(
  split (decide (p<0)) (
   J true) (
   J (decide (p≥64))))∧∀(_gv:Nat→Value)(x9:Bool),J x9→
 split x9 (
  Q ⟨(.tuple #[(.int .u32 0),(.int .i64 4)]),(some (.t [none,none])),[],[],[]⟩) (
  Q ⟨(.tuple #[(.int .u32 (u32.wrap (BitVec.ofInt u32.bits (u32.wrap ((u32.wrap p)*2 ^ 8)) ||| BitVec.ofInt u32.bits 1).toNat)),(.int .i64 0)]),(some (.t [none,none])),[],[],[]⟩)
theorem En:Vc2 Un Tryz.prog (aV []) [] Tryz.f134 (.r' (.two (.two (.node [] (some ⟨[(9,(.one .bool))],[],upN 4 6,[]⟩) [] [] .leaf .leaf) .leaf) .leaf)) [] j5=(∀p,∀Q,(j5.body p Q)→Em p Q):=by kernel_rfl
theorem El:LV Un Tryz.prog 134 j5:=verify Tryz.func134 aa (tb:= []) trivial (by kernel_rfl) (En.mpr fun p Q h=>bH ((decide ((p:Int)<0)) || (decide ((p:Int)≥64))) (ae (fun c1=>(by grind)) fun c1=>(by grind))<| aO (fun c2=>aG h (by(have h:¬(0≤p∧p<64):=by grind);simp [gN,dN,h]) rfl rfl) fun c2=>aG h (by(have h:0≤p∧p<64:=by grind);rw [Dq h];simp [gN,dN,h]) rfl rfl)
def ej:Ctr Un:=⟨[.one (.int .u32),.one (.int .i64),.one (.fn 134)],[],[],[],fun v x K=>∀(ra:Int)(re:Int),((ra=(if v≠0∧dN x=0∧gN x=v then x else 0)∧re=(if v=0 then 92 else if dN x=0∧gN x=v then 0 else 90)))→K ⟨(.tuple #[(.int .i64 ra),(.int .i64 re)]),(some (.t [none,none])),[],[],[]⟩⟩
def rC(v:Int)(x:Int)(Q:Ou Un→Prop):Prop:=
 split (v==0) (
  Q ⟨(.tuple #[(.int .i64 0),(.int .i64 92)]),(some (.t [none,none])),[],[],[]⟩) (
  ∃J:Bool→Prop,(
   split ((dN x) !=0) (
    J true) (
    J ((gN x) !=v)))∧∀(_gv:Nat→Value)(x26:Bool),J x26→
  split x26 (
   Q ⟨(.tuple #[(.int .i64 0),(.int .i64 90)]),(some (.t [none,none])),[],[],[]⟩) (
   Q ⟨(.tuple #[(.int .i64 x),(.int .i64 0)]),(some (.t [none,none])),[],[],[]⟩))
theorem rD:Vc2 Un Tryz.prog (aV [(134,j5)]) [] Tryz.f133 (.r' (.r' (.r' (.two (.r' (.two (.node [] (some ⟨[(26,(.one .bool))],[],upN 20 7,[]⟩) [] [] .leaf .leaf) .leaf)) .leaf)))) [] ej=(∀v x,∀Q,(ej.body v x Q)→rC v x Q):=by kernel_rfl
theorem rB:LV Un Tryz.prog 133 ej:=verify Tryz.func133 aa (tb:= [(134,j5)]) ⟨El,trivial⟩ (by kernel_rfl) (rD.mpr fun v x Q h=>by
 try skip
 exact aK (fun c1=>(h 0 92 (by omega))) fun c1=>bH ((((dN x):Int) !=0) || (((gN x):Int) !=v)) (ae (fun c2=>(by grind)) fun c2=>(by grind))<| aO (fun c3=>(h 0 90 (by grind))) fun c3=>(h x 0 (by grind)))
def ek:Ctr Un:=⟨[.one (.int .u32)],[],[],[],fun v K=>(0≤(v:Int)∧(v:Int)<4294967296)∧K ⟨(.tuple #[(.int .i64 (aR v)),(.int .i64 (pE v))]),(some (.t [none,none])),[],[],[]⟩⟩
def rF(v:Int)(Q:Ou Un→Prop):Prop:=
 ∀(ra:Int)(re:Int),
 ((ra=(if v≠0∧dN (i64.wrap (v.fdiv (2 ^ 8)))=0∧gN (i64.wrap (v.fdiv (2 ^ 8)))=v then(i64.wrap (v.fdiv (2 ^ 8)))else 0)∧re=(if v=0 then 92 else if dN (i64.wrap (v.fdiv (2 ^ 8)))=0∧gN (i64.wrap (v.fdiv (2 ^ 8)))=v then 0 else 90)))→
 Q ⟨(.tuple #[(.int .i64 ra),(.int .i64 re)]),(some (.t [none,none])),[],[],[]⟩
theorem rG:Vc2 Un Tryz.prog (aV [(133,ej)]) [] Tryz.f107 .leaf [] ek=(∀v,∀Q,(ek.body v Q)→rF v Q):=by kernel_rfl
theorem rE:LV Un Tryz.prog 107 ek:=verify Tryz.func107 aa (tb:= [(133,ej)]) ⟨rB,trivial⟩ (by kernel_rfl) (rG.mpr fun v Q h=>by
 obtain⟨hp0,h⟩:=h
 exact fun ra re f1=>(by(have e0:i64.wrap ((v:Int).fdiv (2 ^ 8))=v / 256:=by rw [nY,ah (by omega)];rfl);rw [e0]at f1;(have h1:(dN (v / 256)=0∧gN (v / 256)=v)↔Bp v=true:=(by simp only [dN,gN,Bp,decide_eq_true_eq];constructor<;>intro h<;>grind));(have h2:v=0→Bp v=false:=by intro h;subst h;decide);exact aG h (by simp only [h1]at f1;rw [f1.1,f1.2];simp only [aR,pE]<;>grind) rfl rfl))
def nr:Ctr Un:=⟨[.agg [.bool,.int .i64,.bool,.bool]],[],[],[],fun ma mb mc md K=>K ⟨(.tuple #[(.int .u32 ((Mp.mk ma mb mc md).word)),(.int .i64 ((Mp.mk ma mb mc md).err))]),(some (.t [none,none])),[],[],[]⟩⟩
theorem BQ:LV Un Tryz.prog 136 nr:=by
 show ∀(ma:Bool)(mb:Int)(mc:Bool)(md:Bool),∀Q:Ou Un→Prop,(Q ⟨(.tuple #[(.int .u32 ((Mp.mk ma mb mc md).word)),(.int .i64 ((Mp.mk ma mb mc md).err))]),(some (.t [none,none])),[],[],[]⟩)→∀(X:Nat→Nat→Prop)(w:World),Sat (U:=Un) [] X w→aA (U:=Un) [] fr0 []→Calls Tryz.prog 136 #[(.agg #[(.bool ma),(.int .i64 mb),(.bool mc),(.bool md)])] w (aS (U:=Un) [] [] X w Q)
 intro ma mb mc md Q hQ X w hs hl
 refine(Fo ma mb mc md).mono ?_
 rintro e w' ⟨u,rfl,rfl,q⟩
 exact aS.pu hs q hQ (KnO.tup _ (by simp))
def cv:Ctr Un:=⟨[.one (.int .u32),.agg [.bool,.int .i64,.bool,.bool],.one (.fn 136)],[],[],[],fun v ma mb mc md K=>∀(ra:Bool)(rb:Int)(rc:Bool)(rd:Bool)(re:Int),((Mp.mk ra rb rc rd=(if v≠0∧(Mp.mk ma mb mc md).err=0∧(Mp.mk ma mb mc md).word=v then(Mp.mk ma mb mc md)else Mp.nil)∧re=(if v=0 then 92 else if(Mp.mk ma mb mc md).err=0∧(Mp.mk ma mb mc md).word=v then 0 else 90)))→K ⟨(.tuple #[(.agg #[(.bool ra),(.int .i64 rb),(.bool rc),(.bool rd)]),(.int .i64 re)]),(some (.t [none,none])),[],[],[]⟩⟩
def lz(v:Int)(ma:Bool)(mb:Int)(mc:Bool)(md:Bool)(Q:Ou Un→Prop):Prop:=
 ∀(gv:Nat),
 ∀(gv1:Nat),
 ∀(gv2:Nat),
 split (v==0) (
  Q ⟨(.tuple #[(.agg #[(.bool false),(.int .i64 0),(.bool false),(.bool false)]),(.int .i64 92)]),(some (.t [none,none])),[],[],[]⟩) (
  ∃J:Bool→Prop,(
   split ((Mp.mk ma mb mc md).err !=0) (
    J true) (
    J ((Mp.mk ma mb mc md).word !=v)))∧∀(_gv3:Nat→Value)(x26:Bool),J x26→
  split x26 (
   Q ⟨(.tuple #[(.agg #[(.bool false),(.int .i64 0),(.bool false),(.bool false)]),(.int .i64 90)]),(some (.t [none,none])),[],[],[]⟩) (
   Q ⟨(.tuple #[(.agg #[(.bool ma),(.int .i64 mb),(.bool mc),(.bool md)]),(.int .i64 0)]),(some (.t [none,none])),[],[],[]⟩))
theorem lB:Vc2 Un Tryz.prog (aV [(136,nr)]) [] Tryz.f135 (.r' (.r' (.r' (.two (.r' (.two (.node [] (some ⟨[(26,(.one .bool))],[],upN 20 7,[]⟩) [] [] .leaf .leaf) .leaf)) .leaf)))) [] cv=(∀v ma mb mc md,∀Q,(cv.body v ma mb mc md Q)→lz v ma mb mc md Q):=by kernel_rfl
theorem ly:LV Un Tryz.prog 135 cv:=verify Tryz.func135 aa (tb:= [(136,nr)]) ⟨BQ,trivial⟩ (by kernel_rfl) (lB.mpr fun v ma mb mc md Q h=>fun gv=>fun gv1=>fun gv2=>aK (fun c1=>(h false 0 false false 92 (by(grind)))) fun c1=>bH ((((Mp.mk ma mb mc md).err:Int) !=0) || (((Mp.mk ma mb mc md).word:Int) !=v)) (ae (fun c2=>(by grind)) fun c2=>(by grind))<| aO (fun c3=>(h false 0 false false 90 (by(grind)))) fun c3=>(h ma mb mc md 0 (by(grind))))
def cw:Ctr Un:=⟨[.one (.int .u32)],[],[],[],fun v K=>(0≤(v:Int)∧(v:Int)<4294967296)∧K ⟨(.tuple #[(.agg #[(.bool ((bB v).aY)),(.int .i64 ((bB v).aq)),(.bool ((bB v).write)),(.bool ((bB v).exec))]),(.int .i64 (jQ v))]),(some (.t [none,none])),[],[],[]⟩⟩
def qz(v:Int)(Q:Ou Un→Prop):Prop:=
 ∀(gv:Nat),
 ∀x7:Bool,x7=((u32.wrap (BitVec.ofInt u32.bits v &&& BitVec.ofInt u32.bits 2).toNat:Int) !=0)→
 ∀x10:Int,x10=(i64.wrap ((v:Int).fdiv (2 ^ 8)))→
 ∀x14:Bool,x14=((u32.wrap (BitVec.ofInt u32.bits v &&& BitVec.ofInt u32.bits 4).toNat:Int) !=0)→
 ∀x17:Bool,x17=((u32.wrap (BitVec.ofInt u32.bits v &&& BitVec.ofInt u32.bits 8).toNat:Int) !=0)→
 ∀(ra:Bool)(rb:Int)(rc:Bool)(rd:Bool)(re:Int),
 ((Mp.mk ra rb rc rd=(if v≠0∧(Mp.mk x7 x10 x14 x17).err=0∧(Mp.mk x7 x10 x14 x17).word=v then(Mp.mk x7 x10 x14 x17)else Mp.nil)∧re=(if v=0 then 92 else if(Mp.mk x7 x10 x14 x17).err=0∧(Mp.mk x7 x10 x14 x17).word=v then 0 else 90)))→
 Q ⟨(.tuple #[(.agg #[(.bool ra),(.int .i64 rb),(.bool rc),(.bool rd)]),(.int .i64 re)]),(some (.t [none,none])),[],[],[]⟩
theorem qA:Vc2 Un Tryz.prog (aV [(135,cv)]) [7,10,14,17] Tryz.f108 .leaf [] cw=(∀v,∀Q,(cw.body v Q)→qz v Q):=by kernel_rfl
theorem j4:LV Un Tryz.prog 108 cw:=verify Tryz.func108 aa (tb:= [(135,cv)]) ⟨ly,trivial⟩ (by kernel_rfl) (qA.mpr fun v Q h=>by
 obtain⟨hp0,h⟩:=h
 exact fun gv=>fun x7 h_x7=>fun x10 h_x10=>fun x14 h_x14=>fun x17 h_x17=>fun ra rb rc rd re f1=>(by(have e0:i64.wrap ((v:Int).fdiv (2 ^ 8))=v / 256:=by rw [nY,ah (by omega)];rfl);(rw [gl 1 2 (by decide) (by omega) hp0]at h_x7);rw [e0]at h_x10;(rw [gl 2 4 (by decide) (by omega) hp0]at h_x14);(rw [gl 3 8 (by decide) (by omega) hp0]at h_x17);(have hg:Mp.mk x7 x10 x14 x17=Mp.Ap v:=by rw [h_x7,h_x10,h_x14,h_x17];rfl);rw [hg]at f1;exact aG h (by(have hm:bB v=Mp.mk ra rb rc rd∧jQ v=re:=by grind [bB,jQ,tJ]);rw [hm.1,hm.2]) rfl rfl))
def j9:Ctr Un:=⟨[.enc 6],[],[],[],fun f K=>K ⟨(.int .u32 (File.flags f)),none,[],[],[]⟩⟩
def E0(f:Fl)(Q:Ou Un→Prop):Prop:=
 ∀(gv:Nat),
 ∀(s:Fl),s=(Fl.norm f)→
 Fl.Ok s→
 split (Fl.z s) (
  Q ⟨(.int .u32 1),none,[],[],[]⟩) (
  ∀wv:Int,wv=0→
  split (Fl.n s) (
   ∀wv1:Int,wv1=(u32.wrap (BitVec.ofInt u32.bits wv ||| BitVec.ofInt u32.bits 2).toNat)→
   split (Fl.l s) (
    ∀wv2:Int,wv2=(u32.wrap (BitVec.ofInt u32.bits wv1 ||| BitVec.ofInt u32.bits 4).toNat)→
    Q ⟨(.int .u32 wv2),none,[],[],[]⟩) (
    Q ⟨(.int .u32 wv1),none,[],[],[]⟩)) (
   split (Fl.l s) (
    ∀wv1:Int,wv1=(u32.wrap (BitVec.ofInt u32.bits wv ||| BitVec.ofInt u32.bits 4).toNat)→
    Q ⟨(.int .u32 wv1),none,[],[],[]⟩) (
    Q ⟨(.int .u32 wv),none,[],[],[]⟩)))
theorem E4:Vc2 Un Tryz.prog (aV []) [3] Tryz.f150 .leaf [] j9=(∀(f:Fl),∀Q,(j9.body f Q)→E0 f Q):=by kernel_rfl
theorem EZ:LV Un Tryz.prog 150 j9:=verify Tryz.func150 aa (tb:= []) trivial (by kernel_rfl) (E4.mpr fun f Q h=>fun gv=>fun s h_s f1=>ae (fun c1=>eH h (by subst_vars;simp only [Fl.norm]at *;(simp [File.flags, *];done))) fun c1=>fun wv h_wv=>ae (fun c2=>fun wv1 h_wv1=>ae (fun c3=>fun wv2 h_wv2=>eH h (by subst_vars;simp only [Fl.norm]at *;(simp only [File.flags, *];rfl))) fun c3=>eH h (by subst_vars;simp only [Fl.norm]at *;(simp only [File.flags, *];rfl))) fun c2=>ae (fun c4=>fun wv1 h_wv1=>eH h (by subst_vars;simp only [Fl.norm]at *;(simp only [File.flags, *];rfl))) fun c4=>eH h (by subst_vars;simp only [Fl.norm]at *;(simp [File.flags, *];done)))
def gZ:Ctr Un:=⟨[.enc 6,.one (.int .u32)],[],[],[],fun f w K=>Fl.Ok f∧(0≤(w:Int)∧(w:Int)<4294967296)∧K ⟨(.tuple #[(.agg ⟨Fl.cells (File.eu f w)⟩),(.int .i64 (File.fz w))]),(some (.t [none,none])),[],[],[]⟩⟩
def zS(f:Fl)(w:Int)(Q:Ou Un→Prop):Prop:=
 ∀(gv:Nat),
 ∀(s:Fl),s=(Fl.norm f)→
 Fl.Ok s→
 ∀(gv1:Nat),
 ∀(s1:Fl),s1=Fl.zero→
 Fl.Ok s1→
 ∀x8:Bool,x8=((u32.wrap (BitVec.ofInt u32.bits w &&& BitVec.ofInt u32.bits 1).toNat:Int) !=0)→
 ∀x11:Bool,x11=((u32.wrap (BitVec.ofInt u32.bits w &&& BitVec.ofInt u32.bits 2).toNat:Int) !=0)→
 ∀x14:Bool,x14=((u32.wrap (BitVec.ofInt u32.bits w &&& BitVec.ofInt u32.bits 4).toNat:Int) !=0)→
 True∧
 ∀(s2:Fl),s2=({s with z:=x8}:Fl)→
 Fl.Ok s2→
 True∧
 ∀(s3:Fl),s3=({s2 with n:=x11}:Fl)→
 Fl.Ok s3→
 True∧
 ∀(s4:Fl),s4=({s3 with l:=x14}:Fl)→
 Fl.Ok s4→
 True∧
 split ((File.flags (Fl.norm s4)) !=w) (
  True∧
  ∀(s5:Fl),s5=Fl.zero→
  Fl.Ok s5→
  True∧
  Q ⟨(.tuple #[(.agg ⟨Fl.cells s5⟩),(.int .i64 80)]),(some (.t [none,none])),[],[],[]⟩) (
  True∧
  True∧
  ∀(s5:Fl),s5=(Fl.norm s4)→
  Fl.Ok s5→
  True∧
  Q ⟨(.tuple #[(.agg ⟨Fl.cells s5⟩),(.int .i64 0)]),(some (.t [none,none])),[],[],[]⟩)
theorem zT:Vc2 Un Tryz.prog (aV [(150,j9)]) [8,11,14] Tryz.f137 .leaf [] gZ=(∀(f:Fl) w,∀Q,(gZ.body f w Q)→zS f w Q):=by kernel_rfl
theorem zQ:LV Un Tryz.prog 137 gZ:=verify Tryz.func137 aa (tb:= [(150,j9)]) ⟨EZ,trivial⟩ (by kernel_rfl) (zT.mpr fun f w Q h=>by
 obtain⟨hp0,hp1,h⟩:=h
 exact fun gv=>fun s h_s f1=>fun gv1=>fun s1 h_s1 f2=>fun x8 h_x8=>fun x11 h_x11=>fun x14 h_x14=>ai trivial fun _=>fun s2 h_s2 f4=>ai trivial fun _=>fun s3 h_s3 f6=>ai trivial fun _=>fun s4 h_s4 f8=>ai trivial fun _=>bt (fun c1=>ai trivial fun _=>fun s5 h_s5 f11=>ai trivial fun _=>(by(have e4:Fl.norm s4= {f with z:=x8,n:=x11,l:=x14}:=by rw [Fl.norm_eq (show Fl.Ok s4 by assumption),h_s4,h_s3,h_s2,h_s,Fl.norm_eq hp0]);(rw [gl 0 1 (by decide) (by omega) hp1]at h_x8);(rw [gl 1 2 (by decide) (by omega) hp1]at h_x11);(rw [gl 2 4 (by decide) (by omega) hp1]at h_x14);have hi:=File.vM hp1;(have h0:File.fR w=false:=(by rw [e4,h_x8,h_x11,h_x14]at c1;simp only [File.flags]at c1;rw [hi]at c1;simpa using c1));exact aG h (congrArg (fun l=>Value.tuple (List.toArray l)) (af (congrArg (fun s:Fl=>Value.agg ⟨Fl.cells s⟩) (by rw [File.vL h0,h_s5])) (af (congrArg (Value.int .i64) (by rw [File.vN h0])) rfl))) rfl rfl)) fun c1=>ai trivial fun _=>ai trivial fun _=>fun s5 h_s5 f15=>ai trivial fun _=>(by(have e4:Fl.norm s4= {f with z:=x8,n:=x11,l:=x14}:=by rw [Fl.norm_eq (show Fl.Ok s4 by assumption),h_s4,h_s3,h_s2,h_s,Fl.norm_eq hp0]);(rw [gl 0 1 (by decide) (by omega) hp1]at h_x8);(rw [gl 1 2 (by decide) (by omega) hp1]at h_x11);(rw [gl 2 4 (by decide) (by omega) hp1]at h_x14);have hi:=File.vM hp1;(have h0:File.fR w=true:=(by rw [e4,h_x8,h_x11,h_x14]at c1;simp only [File.flags]at c1;rw [hi]at c1;simpa using c1));have h2:=File.Bz h0;exact aG h (congrArg (fun l=>Value.tuple (List.toArray l)) (af (congrArg (fun s:Fl=>Value.agg ⟨Fl.cells s⟩) (by rw [File.yV h0,h_s5,e4,h_x8,h_x11,h_x14,h2.1,h2.2.1,h2.2.2])) (af (congrArg (Value.int .i64) (by rw [File.yW h0])) rfl))) rfl rfl))
def kE:Ctr Un:=⟨[.one (.sl 0)],[],[.lst 1 false 22],[],fun A c l K=>((∀x∈l,0≤x.v∧x.v<4294967296))∧K ⟨(.tuple #[(.agg ⟨Fl.cells (File.unpack l)⟩),(.int .i64 (File.fh l))]),(some (.t [none,none])),[],[],[]⟩⟩
def CE(A:Option Addr)(c:Nat)(l:List U32)(Q:Ou Un→Prop):Prop:=
 ∀(gv:Nat),
 ∀(s:Fl),s=Fl.zero→
 Fl.Ok s→
 split ((l.length:Int) !=17) (
  True∧
  ∀(s1:Fl),s1=Fl.zero→
  Fl.Ok s1→
  True∧
  Q ⟨(.tuple #[(.agg ⟨Fl.cells s1⟩),(.int .i64 80)]),(some (.t [none,none])),[],[],[]⟩) (
  (0<l.length∧15≤l.length)∧
  (15≤l.length)∧
  (0≤(15:Int)∧(15:Int)<(l.length:Int))∧
  ∀(gv1:Nat),
  ∀(s1:Fl),s1=Fl.zero→
  Fl.Ok s1→
  True∧
  ∀(s2:Fl),s2=(Fl.mk [U32.mk ((l.getD 0 (U32.mk 0)).v),U32.mk ((l.getD 1 (U32.mk 0)).v),U32.mk ((l.getD 2 (U32.mk 0)).v),U32.mk ((l.getD 3 (U32.mk 0)).v),U32.mk ((l.getD 4 (U32.mk 0)).v),U32.mk ((l.getD 5 (U32.mk 0)).v),U32.mk ((l.getD 6 (U32.mk 0)).v),U32.mk ((l.getD 7 (U32.mk 0)).v),U32.mk ((l.getD 8 (U32.mk 0)).v),U32.mk ((l.getD 9 (U32.mk 0)).v),U32.mk ((l.getD 10 (U32.mk 0)).v),U32.mk ((l.getD 11 (U32.mk 0)).v),U32.mk ((l.getD 12 (U32.mk 0)).v),U32.mk ((l.getD 13 (U32.mk 0)).v),U32.mk ((l.getD 14 (U32.mk 0)).v)] ((l.getD (Int.toNat 15) (U32.mk 0)).v) false false false)→
  Fl.Ok s2→
  True∧
  (0≤(16:Int)∧(16:Int)<(l.length:Int))∧
  Fl.Ok (Fl.norm s2)∧
  (0≤((l.getD (Int.toNat 16) (U32.mk 0)).v)∧((l.getD (Int.toNat 16) (U32.mk 0)).v)<4294967296)∧
  True∧
  ∀(s3:Fl),s3=(Fl.norm (File.eu (Fl.norm s2) ((l.getD (Int.toNat 16) (U32.mk 0)).v)))→
  Fl.Ok s3→
  ∃J:Bool→Prop,(
   split ((File.fz ((l.getD (Int.toNat 16) (U32.mk 0)).v))==0) (
    True∧
    J (bh ⟨Fl.cells s3⟩ ⟨Fl.cells Fl.zero⟩)) (
    J false))∧∀(_gv2:Nat→Value)(x31:Bool),J x31→
  split x31 (
   True∧
   ∀(s4:Fl),s4=Fl.zero→
   Fl.Ok s4→
   True∧
   Q ⟨(.tuple #[(.agg ⟨Fl.cells s4⟩),(.int .i64 0)]),(some (.t [none,none])),[],[],[]⟩) (
   True∧
   True∧
   ∀(s4:Fl),s4=(Fl.norm s3)→
   Fl.Ok s4→
   True∧
   Q ⟨(.tuple #[(.agg ⟨Fl.cells s4⟩),(.int .i64 (File.fz ((l.getD (Int.toNat 16) (U32.mk 0)).v)))]),(some (.t [none,none])),[],[],[]⟩))
theorem CF:Vc2 Un Tryz.prog (aV [(137,gZ)]) [] Tryz.f110 (.r' (.r' (.two (.node [] none [] [(2,[0]),(5,[0])] .leaf .leaf) (.two (.node [] none [] [(0,[2]),(3,[0])] .leaf .leaf) (.two (.two (.node [] (some ⟨[(31,(.one .bool))],[],upN 25 7,[]⟩) [] [] .leaf .leaf) .leaf) .leaf))))) [] kE=(∀A c (l:List U32),∀Q,(((∀x∈l,0≤x.v∧x.v<4294967296))∧Q ⟨(.tuple #[(.agg ⟨Fl.cells (File.unpack l)⟩),(.int .i64 (File.fh l))]),(some (.t [none,none])),[],[],[]⟩)→CE A c l Q):=by kernel_rfl
theorem CD:LV Un Tryz.prog 110 kE:=verify Tryz.func110 aa (tb:= [(137,gZ)]) ⟨zQ,trivial⟩ (by kernel_rfl) (CF.mpr fun A c l Q h=>by
 obtain⟨hp0,h⟩:=h
 exact fun gv=>fun s h_s f1=>bt (fun c1=>ai trivial fun _=>fun s1 h_s1 f3=>ai trivial fun _=>(by(have h0:¬l.length=17:=by omega);exact aG h (congrArg (fun l=>Value.tuple (List.toArray l)) (af (congrArg (fun s:Fl=>Value.agg ⟨Fl.cells s⟩) (by rw [(File.o5 h0).1,h_s1])) (af (congrArg (Value.int .i64) (by rw [(File.o5 h0).2])) rfl))) rfl rfl)) fun c1=>ai (by omega) fun s5=>ai (by omega) fun s6=>ai (by omega) fun s7=>fun gv1=>fun s1 h_s1 f8=>ai trivial fun _=>fun s2 h_s2 f10=>ai trivial fun _=>ai (by omega) fun s12=>ai (Fl.FP _) fun s13=>ai (File.yU hp0 _) fun s14=>ai trivial fun _=>fun s3 h_s3 f16=>bH ((((File.fz ((l.getD (Int.toNat 16) (U32.mk 0)).v)):Int)==0) && (bh ⟨Fl.cells s3⟩ ⟨Fl.cells Fl.zero⟩)) (ae (fun c2=>ai trivial fun _=>(by grind)) fun c2=>(by grind))<| bL (fun c3=>ai trivial fun _=>fun s4 h_s4 f19=>ai trivial fun _=>(by(have h0:l.length=17:=by omega);have hu:=File.nL h0;(have e2:Fl.norm s2=File.bare l:=by rw [Fl.norm_eq (show Fl.Ok s2 by assumption),h_s2,File.bare_eq h0]);(have e3:s3=File.eu (File.bare l) (l.getD 16 (U32.mk 0)).v:=by rw [h_s3,e2];exact Fl.norm_eq (File.qc h0 _));(have hz:=Fl.F0 (show Fl.Ok s3 by assumption) c3.2);exact aG h (congrArg (fun l=>Value.tuple (List.toArray l)) (af (congrArg (fun s:Fl=>Value.agg ⟨Fl.cells s⟩) (by rw [hu.1,← e3,hz,h_s4])) (af (congrArg (Value.int .i64) (by(rw [hu.2];simpa using c3.1))) rfl))) rfl rfl)) fun c3=>ai trivial fun _=>ai trivial fun _=>fun s4 h_s4 f23=>ai trivial fun _=>(by(have h0:l.length=17:=by omega);have hu:=File.nL h0;(have e2:Fl.norm s2=File.bare l:=by rw [Fl.norm_eq (show Fl.Ok s2 by assumption),h_s2,File.bare_eq h0]);(have e3:s3=File.eu (File.bare l) (l.getD 16 (U32.mk 0)).v:=by rw [h_s3,e2];exact Fl.norm_eq (File.qc h0 _));exact aG h (congrArg (fun l=>Value.tuple (List.toArray l)) (af (congrArg (fun s:Fl=>Value.agg ⟨Fl.cells s⟩) (by(rw [hu.1,← e3,h_s4];exact(Fl.norm_eq ‹_›).symm))) (af (congrArg (Value.int .i64) (by exact hu.2)) rfl))) rfl rfl))
end Go.Proofs.YtbjlecpmgocoeaaGreatDoor
end
section
set_option maxRecDepth 10000
set_option maxHeartbeats 1000000
namespace Go.Proofs.YtbjlecpmgocoeaaGreatDoor
open Go Go.RowKit V
open Go.IntKind (i64 u32 u64)
theorem I0 {w:World}:
 Calls Tryz.prog 87 #[] w fun e w'=>∃v,e= .returned v∧∃g:Nat,∃L:DgL,v= .pointer (some (Addr.mk g 0 none))∧mJ w' g L Dg.new∧(∀k,L.X g k→w.heap.size≤k)∧Pu w w':=by
 refine zn ?_
 have hp:=Ch.refl (fun _=>False) w
 refine Calls.mono (Dd) ?_
 rintro e wv ⟨_,rfl,rfl,q_wv⟩
 refine⟨_,_,_,_,_,_,_,_,rfl,?_⟩
 refine mkd fun gv wv1 m_gv=>?_
 have b_gv:=m_gv.blk
 have hp:=Ch.made (Ch.pu hp q_wv) m_gv
 exact⟨gv,⟨fun _=>False,none,0,0⟩,rfl,⟨⟨_,b_gv⟩,Rd.nil,fun h=>h⟩,by have:=m_gv.num;have:=q_wv.size;rintro k (rfl | hk);omega;exact hk.elim,hp⟩
theorem I3 {g:Nat} {L:DgL} {D:Dg} {Z:Nat→Prop} {wordsA:Option Addr} {wordsN:Nat} {wordsC:Nat} {l:List U32} {K:List Int} {w:World}(h:mJ w g L D)(hz:Rd w Z wordsA wordsN wordsC l)(hk:fT w 1 K)(ok:D.Ok)(hlen:l.length≤1099511627776)(hzg:¬Z g)(hg1:¬g=1):
 Calls Tryz.prog 89 #[(.pointer (some (Addr.mk g 0 none))),(.slice wordsA wordsN wordsC)] w fun e w'=>∃v,e= .returned v∧∃L':DgL,v= .tuple #[]∧mJ w' g L' (D.add K l)∧(∀k,(L'.X g) k→(L.X g) k∨w.heap.size≤k)∧Ch (L.X g) w w':=by
 refine zp (some (Addr.mk g 0 none)) _ _ _ ?_
 have hn:=ok.n
 have hz0:=hz
 have hg9:=h.lt g (.inl rfl)
 have hp:=Ch.refl (L.X g) w
 have lt_h:=h.lt
 have lt_hz:=hz.lt
 have lt_hk:=hk.lt
 obtain⟨⟨hT,hb⟩,hr,hoff⟩:=h
 have lt_hr:=hr.lt
 refine ak _ rfl ⟨_,hb.at rfl,?_⟩
 refine aB (fun c1=>?_) (fun c1=>?_)
 ·exact⟨L,rfl,by have hc:(l.length:Int)>36028797018963968 - D.n:=(by have:=hz.len;rw [ah (by omega)]at c1;omega);rw [Dg.add,if_pos hc];exact⟨⟨_,hb⟩,hr,hoff⟩,fun k hk=>.inl hk,hp⟩
 ·have hzl:=hz.len
  have hrl:=hr.len
  have hn:=ok.n
  have hwl:=ok.len
  have hcap:=hr.cap
  rw [ah (by omega)]at c1
  refine ak _ rfl ⟨_,hb.at rfl,ak _ rfl (aM hb (by simp) fun wv s_wv=>?_)⟩
  have hb:Blk wv g #[(.int .u32 D.st.a),(.int .u32 D.st.b),(.int .u32 D.st.c),(.int .u32 D.st.d),(.int .u32 D.st.e),(.int .u32 D.st.f),(.int .u32 D.st.g),(.int .u32 D.st.h),(.int .i64 (i64.wrap (D.n+((wordsN:Nat):Int)))),(.slice L.a L.n L.c)] _:=s_wv.blk.cast (by kernel_rfl)
  refine⟨bXU [] [3,7,12] wv.drew (fun _=>False),?_⟩
  have hb:=Blk.drew hb
  refine ak _ rfl ⟨.inl (by decide),_,_,_,hb.at rfl,ak _ rfl ⟨.inl (by decide),_,_,_,hb.at rfl,ak _ rfl ⟨.inl (by decide),_,_,_,hb.at rfl,⟨by omega,⟨by omega,?_⟩⟩⟩⟩⟩
  have hr:=(hr.ch s_wv.ch (fun k hx e=>(hoff) (e▸hx))).pu (Pu.aI _)
  rintro x36A e_x36A x36N e_x36N x36C e_x36C
  have r_x36A:=Rd.all hr e_x36A e_x36N e_x36C (by omega) (by omega)
  have hz:=(hz.ch s_wv.ch (fun k hx e=>(hzg) (e▸hx))).pu (Pu.aI _)
  have hp:=Ch.drew (Ch.call hp s_wv.ch (by exact fun k hk=>.inl (.inl hk)))
  refine HP o8 r_x36A (by omega) hz (by omega) (by omega) fun A_wv1 c_wv1 wv1 o_wv1 q_wv1=>?_
  refine bXU.pT q_wv1 (by decide) ?_
  have hp:=Ch.pu hp q_wv1
  have hz:=hz.pu q_wv1
  have hk:=((hk.ch s_wv.ch (fun k hx e=>(hg1) (e▸hx))).pu (Pu.aI _)).pu q_wv1
  have hb:=Pu.blk q_wv1 hb
  refine⟨fun mz leftA leftN leftC W=>∃Z_ll:Nat→Prop,∃ll:List U32,∃S:S8,∃n2:Int,mz=ll.length∧(bG K S ll=bG K D.st (D.waits++l))∧(¬Z_ll g)∧(ll.length≤1099511627800)∧(n2=D.n+l.length)∧Rd W Z_ll leftA leftN leftC ll∧Ch (L.X g) w W∧Rd W Z wordsA wordsN wordsC l∧fT W 1 K∧Blk W g #[(.int .u32 S.a),(.int .u32 S.b),(.int .u32 S.c),(.int .u32 S.d),(.int .u32 S.e),(.int .u32 S.f),(.int .u32 S.g),(.int .u32 S.h),(.int .i64 n2),(.slice L.a L.n L.c)] hT,⟨_,(fun k=>(L.Y k∨wv.drew.heap.size≤k)∧k<wv1.heap.size),(D.waits++l),D.st,_,rfl,rfl,(by rintro⟨h | h,_⟩;exact hoff h;exact absurd (Nat.lt_of_lt_of_le hg9 (Nat.le_trans s_wv.kept.size h)) (Nat.lt_irrefl _)),(by rw [List.length_append];omega),(by rw [ah (by omega)];omega),o_wv1,hp,hz,hk,hb⟩,?_⟩
  rintro _ _ leftA leftN leftC wv2 ⟨Z_ll,ll,S,n2,rfl,hI,hlz,hlb,hn2,h_ll,hp,hz,hk,hb⟩
  refine aB (fun c2=>?_) (fun c2=>?_)
  ·refine⟨bXU [] [4,7] wv2.drew (fun _=>False),?_⟩
   have hb:=Blk.drew hb
   have h_ll:=h_ll.pu (Pu.aI _)
   refine ak _ rfl ⟨.inl (by decide),_,_,_,_,_,_,_,_,⟨hb.at2 rfl,hb.at2 rfl,hb.at2 rfl,hb.at2 rfl,hb.at2 rfl,hb.at2 rfl,hb.at2 rfl,hb.at2 rfl⟩,⟨by omega,?_⟩⟩
   obtain⟨p3,ha3,hz3,hc3⟩:=h_ll.u32 (by omega)
   refine ak p3 ha3 ⟨.inl (by decide),_,_,_,_,_,_,_,_,_,_,_,_,_,_,_,_,⟨hc3 0 (by omega),hc3 1 (by omega),hc3 2 (by omega),hc3 3 (by omega),hc3 4 (by omega),hc3 5 (by omega),hc3 6 (by omega),hc3 7 (by omega),hc3 8 (by omega),hc3 9 (by omega),hc3 10 (by omega),hc3 11 (by omega),hc3 12 (by omega),hc3 13 (by omega),hc3 14 (by omega),hc3 15 (by omega)⟩,?_⟩
   have hk:=hk.pu (Pu.aI _)
   refine Calls.mono (Hk hk _ _ _ _ _ _ _ _ _ _ _ _ _ _ _ _ _ _ _ _ _ _ _ _) ?_
   rintro e wv3 ⟨_,rfl,rfl,q_wv3⟩
   refine⟨_,_,_,_,_,_,_,_,rfl,?_⟩
   refine bXU.pT q_wv3 (by decide) ?_
   have hb:=Pu.blk q_wv3 hb
   refine ak _ rfl (aM hb (by simp) fun wv4 s_wv4=>?_)
   have hb:Blk wv4 g #[(.int .u32 ((cV K (S8.mk S.a S.b S.c S.d S.e S.f S.g S.h) [((ll.getD 0 ⟨0⟩).v),((ll.getD 1 ⟨0⟩).v),((ll.getD 2 ⟨0⟩).v),((ll.getD 3 ⟨0⟩).v),((ll.getD 4 ⟨0⟩).v),((ll.getD 5 ⟨0⟩).v),((ll.getD 6 ⟨0⟩).v),((ll.getD 7 ⟨0⟩).v),((ll.getD 8 ⟨0⟩).v),((ll.getD 9 ⟨0⟩).v),((ll.getD 10 ⟨0⟩).v),((ll.getD 11 ⟨0⟩).v),((ll.getD 12 ⟨0⟩).v),((ll.getD 13 ⟨0⟩).v),((ll.getD 14 ⟨0⟩).v),((ll.getD 15 ⟨0⟩).v)]).a)),(.int .u32 ((cV K (S8.mk S.a S.b S.c S.d S.e S.f S.g S.h) [((ll.getD 0 ⟨0⟩).v),((ll.getD 1 ⟨0⟩).v),((ll.getD 2 ⟨0⟩).v),((ll.getD 3 ⟨0⟩).v),((ll.getD 4 ⟨0⟩).v),((ll.getD 5 ⟨0⟩).v),((ll.getD 6 ⟨0⟩).v),((ll.getD 7 ⟨0⟩).v),((ll.getD 8 ⟨0⟩).v),((ll.getD 9 ⟨0⟩).v),((ll.getD 10 ⟨0⟩).v),((ll.getD 11 ⟨0⟩).v),((ll.getD 12 ⟨0⟩).v),((ll.getD 13 ⟨0⟩).v),((ll.getD 14 ⟨0⟩).v),((ll.getD 15 ⟨0⟩).v)]).b)),(.int .u32 ((cV K (S8.mk S.a S.b S.c S.d S.e S.f S.g S.h) [((ll.getD 0 ⟨0⟩).v),((ll.getD 1 ⟨0⟩).v),((ll.getD 2 ⟨0⟩).v),((ll.getD 3 ⟨0⟩).v),((ll.getD 4 ⟨0⟩).v),((ll.getD 5 ⟨0⟩).v),((ll.getD 6 ⟨0⟩).v),((ll.getD 7 ⟨0⟩).v),((ll.getD 8 ⟨0⟩).v),((ll.getD 9 ⟨0⟩).v),((ll.getD 10 ⟨0⟩).v),((ll.getD 11 ⟨0⟩).v),((ll.getD 12 ⟨0⟩).v),((ll.getD 13 ⟨0⟩).v),((ll.getD 14 ⟨0⟩).v),((ll.getD 15 ⟨0⟩).v)]).c)),(.int .u32 ((cV K (S8.mk S.a S.b S.c S.d S.e S.f S.g S.h) [((ll.getD 0 ⟨0⟩).v),((ll.getD 1 ⟨0⟩).v),((ll.getD 2 ⟨0⟩).v),((ll.getD 3 ⟨0⟩).v),((ll.getD 4 ⟨0⟩).v),((ll.getD 5 ⟨0⟩).v),((ll.getD 6 ⟨0⟩).v),((ll.getD 7 ⟨0⟩).v),((ll.getD 8 ⟨0⟩).v),((ll.getD 9 ⟨0⟩).v),((ll.getD 10 ⟨0⟩).v),((ll.getD 11 ⟨0⟩).v),((ll.getD 12 ⟨0⟩).v),((ll.getD 13 ⟨0⟩).v),((ll.getD 14 ⟨0⟩).v),((ll.getD 15 ⟨0⟩).v)]).d)),(.int .u32 ((cV K (S8.mk S.a S.b S.c S.d S.e S.f S.g S.h) [((ll.getD 0 ⟨0⟩).v),((ll.getD 1 ⟨0⟩).v),((ll.getD 2 ⟨0⟩).v),((ll.getD 3 ⟨0⟩).v),((ll.getD 4 ⟨0⟩).v),((ll.getD 5 ⟨0⟩).v),((ll.getD 6 ⟨0⟩).v),((ll.getD 7 ⟨0⟩).v),((ll.getD 8 ⟨0⟩).v),((ll.getD 9 ⟨0⟩).v),((ll.getD 10 ⟨0⟩).v),((ll.getD 11 ⟨0⟩).v),((ll.getD 12 ⟨0⟩).v),((ll.getD 13 ⟨0⟩).v),((ll.getD 14 ⟨0⟩).v),((ll.getD 15 ⟨0⟩).v)]).e)),(.int .u32 ((cV K (S8.mk S.a S.b S.c S.d S.e S.f S.g S.h) [((ll.getD 0 ⟨0⟩).v),((ll.getD 1 ⟨0⟩).v),((ll.getD 2 ⟨0⟩).v),((ll.getD 3 ⟨0⟩).v),((ll.getD 4 ⟨0⟩).v),((ll.getD 5 ⟨0⟩).v),((ll.getD 6 ⟨0⟩).v),((ll.getD 7 ⟨0⟩).v),((ll.getD 8 ⟨0⟩).v),((ll.getD 9 ⟨0⟩).v),((ll.getD 10 ⟨0⟩).v),((ll.getD 11 ⟨0⟩).v),((ll.getD 12 ⟨0⟩).v),((ll.getD 13 ⟨0⟩).v),((ll.getD 14 ⟨0⟩).v),((ll.getD 15 ⟨0⟩).v)]).f)),(.int .u32 ((cV K (S8.mk S.a S.b S.c S.d S.e S.f S.g S.h) [((ll.getD 0 ⟨0⟩).v),((ll.getD 1 ⟨0⟩).v),((ll.getD 2 ⟨0⟩).v),((ll.getD 3 ⟨0⟩).v),((ll.getD 4 ⟨0⟩).v),((ll.getD 5 ⟨0⟩).v),((ll.getD 6 ⟨0⟩).v),((ll.getD 7 ⟨0⟩).v),((ll.getD 8 ⟨0⟩).v),((ll.getD 9 ⟨0⟩).v),((ll.getD 10 ⟨0⟩).v),((ll.getD 11 ⟨0⟩).v),((ll.getD 12 ⟨0⟩).v),((ll.getD 13 ⟨0⟩).v),((ll.getD 14 ⟨0⟩).v),((ll.getD 15 ⟨0⟩).v)]).g)),(.int .u32 ((cV K (S8.mk S.a S.b S.c S.d S.e S.f S.g S.h) [((ll.getD 0 ⟨0⟩).v),((ll.getD 1 ⟨0⟩).v),((ll.getD 2 ⟨0⟩).v),((ll.getD 3 ⟨0⟩).v),((ll.getD 4 ⟨0⟩).v),((ll.getD 5 ⟨0⟩).v),((ll.getD 6 ⟨0⟩).v),((ll.getD 7 ⟨0⟩).v),((ll.getD 8 ⟨0⟩).v),((ll.getD 9 ⟨0⟩).v),((ll.getD 10 ⟨0⟩).v),((ll.getD 11 ⟨0⟩).v),((ll.getD 12 ⟨0⟩).v),((ll.getD 13 ⟨0⟩).v),((ll.getD 14 ⟨0⟩).v),((ll.getD 15 ⟨0⟩).v)]).h)),(.int .i64 n2),(.slice L.a L.n L.c)] _:=s_wv4.blk.cast (by kernel_rfl)
   refine bXU.grow s_wv4.ch ?_
   refine⟨by omega,?_⟩
   have h_ll:=(h_ll.pu q_wv3).ch s_wv4.ch (fun k hx e=>(hlz) (e▸hx))
   rintro x43A e_x43A x43N e_x43N x43C e_x43C
   have r_x43A:=Rd.from_ (lo:=16) h_ll e_x43A e_x43N e_x43C (by omega) (by have:=h_ll.cap;omega)
   have hp:=Ch.call (Ch.pu (Ch.drew hp) q_wv3) s_wv4.ch (by exact fun k hk=>.inl (.inl hk))
   have hz:=((hz.pu (Pu.aI _)).pu q_wv3).ch s_wv4.ch (fun k hx e=>(hzg) (e▸hx))
   have hk:=(hk.pu q_wv3).ch s_wv4.ch (fun k hx e=>(hg1) (e▸hx))
   exact⟨_,by rw [List.length_drop];have:=h_ll.len;omega,Z_ll,(ll.drop 16),(cV K S ((ll.take 16).map U32.v)),n2,rfl,(by rw [← hI,← dR (by have:=h_ll.len;omega)]),hlz,(by rw [List.length_drop];omega),hn2,r_x43A,hp,hz,hk,hb.cast (G4 (congrArg (Value.int .u32) (by rw [jd (by have:=h_ll.len;omega)])) (congrArg (Value.int .u32) (by rw [jd (by have:=h_ll.len;omega)])) (congrArg (Value.int .u32) (by rw [jd (by have:=h_ll.len;omega)])) (congrArg (Value.int .u32) (by rw [jd (by have:=h_ll.len;omega)])) (congrArg (Value.int .u32) (by rw [jd (by have:=h_ll.len;omega)])) (congrArg (Value.int .u32) (by rw [jd (by have:=h_ll.len;omega)])) (congrArg (Value.int .u32) (by rw [jd (by have:=h_ll.len;omega)])) (congrArg (Value.int .u32) (by rw [jd (by have:=h_ll.len;omega)])) (rfl) (rfl))⟩
  ·have hsz2:=hp.size
   have hog:¬wv2.heap.size≤g:=by omega
   refine mq o8 h_ll (by omega) (by omega) fun A_wv3 c_wv3 wv3 o_wv3 q_wv3=>?_
   have hb:=Pu.blk q_wv3 hb
   refine ak _ rfl (aM hb (by simp) fun wv4 s_wv4=>?_)
   have hb:Blk wv4 g #[(.int .u32 S.a),(.int .u32 S.b),(.int .u32 S.c),(.int .u32 S.d),(.int .u32 S.e),(.int .u32 S.f),(.int .u32 S.g),(.int .u32 S.h),(.int .i64 n2),(.slice A_wv3 leftN c_wv3)] _:=s_wv4.blk.cast (by kernel_rfl)
   have o_wv3:=o_wv3.ch s_wv4.ch (fun k hx e=>hog (e▸hx.1))
   have hp:=Ch.call (Ch.pu hp q_wv3) s_wv4.ch (by exact fun k hk=>.inl (.inl hk))
   exact⟨⟨fun k=>wv2.heap.size≤k∧k<wv4.heap.size,A_wv3,leftN,c_wv3⟩,rfl,by have hn:=ok.n;have hc:¬(l.length:Int)>36028797018963968 - D.n:=(by have:=hz0.len;omega);have ha:bG K D.st (D.waits++l)=(S,ll):=(by rw [← hI,dm (by have:=h_ll.len;omega)]);rw [Dg.add,if_neg hc,ha];exact⟨⟨_,Blk.cast hb (by rw [← hn2])⟩,(o_wv3).Hq (fun k hk=>⟨hk.1.1,hk.2⟩) (fun k hk=>hk.2),fun h=>absurd h.1 hog⟩,fun k hk=>hk.elim (fun e=>.inl (.inl e)) (fun h=>.inr (Nat.le_trans hsz2 h.1)),hp⟩
theorem Ig {g:Nat} {L:DgL} {D:Dg} {w:World}(h:mJ w g L D)(ok:D.Ok):
 Calls Tryz.prog 91 #[(.pointer (some (Addr.mk g 0 none)))] w fun e w'=>∃v,e= .returned v∧v= .agg (aT D.save)∧Pu w w':=by
 refine xj (some (Addr.mk g 0 none)) ?_
 have hwn:=h.rd.len
 have hwl:=ok.len
 have hp:=Ch.refl (fun _=>False) w
 have lt_h:=h.lt
 obtain⟨⟨hT,hb⟩,hr,hoff⟩:=h
 have lt_hr:=hr.lt
 refine mkd fun gv wv m_gv=>?_
 have lo_gv:=m_gv.lo hp
 have ne_g_gv:=m_gv.ne hb
 have b_gv:Blk wv gv (aT (List.replicate 26 0)) _:=m_gv.blk.cast (eT _ _)
 have hp:=Ch.made hp m_gv
 have hb:=Made.old m_gv hb
 refine mkd fun gv1 wv1 m_gv1=>?_
 have lo_gv1:=m_gv1.lo hp
 have ne_g_gv1:=m_gv1.ne hb
 have ne_gv_gv1:=m_gv1.ne b_gv
 have b_gv1:Blk wv1 gv1 (aT (List.replicate 26 0)) _:=m_gv1.blk.cast (eT _ _)
 refine⟨bXU [] [] wv1.drew (fun _=>False),?_⟩
 refine⟨by omega,?_⟩
 rintro _ rfl _ rfl _ rfl
 refine ak _ rfl ?_
 rintro _ rfl _ rfl _ rfl
 have b_gv1:=Blk.drew b_gv1
 have hb:=Blk.drew (Made.old m_gv1 hb)
 refine mf lS b_gv1 (o:=0) rfl (by(simp;done)) (cN.pre (Z:=fun _=>True) (o:=0) (r:= [D.st.a,D.st.b,D.st.c,D.st.d,D.st.e,D.st.f,D.st.g,D.st.h]) hb trivial rfl (by(simp;done)) (by rfl) (by rfl)) (by(simp;done)) fun wv2 s_wv2=>?_
 have b_gv1:=s_wv2.blk
 refine bXU.pT s_wv2.ch (by decide) ?_
 refine⟨bXU [] [3,10] wv2.drew (fun _=>False),?_⟩
 have hb:=Blk.drew (Ch.blk s_wv2.ch hb (ne_g_gv1))
 have b_gv1:=Blk.drew b_gv1
 refine ak _ rfl ⟨.inl (by decide),_,hb.at rfl,ak _ rfl ⟨.inl (by decide),_,hb.at rfl,⟨by decide,bQ (i:=8) b_gv1 (by(simp;done)) fun wv3 s_wv3=>?_⟩⟩⟩
 have b_gv1:=s_wv3.blk
 refine bXU.pT s_wv3.ch (by decide) ?_
 refine⟨by decide,bQ (i:=9) b_gv1 (by(simp;done)) fun wv4 s_wv4=>?_⟩
 have b_gv1:=s_wv4.blk
 refine bXU.grow s_wv4.ch ?_
 refine⟨bXU [] [4] wv4.drew (fun _=>False),?_⟩
 refine⟨by omega,?_⟩
 rintro _ rfl _ rfl _ rfl
 have hb:=Blk.drew (Ch.blk s_wv4.ch (Ch.blk s_wv3.ch hb (ne_g_gv1)) (ne_g_gv1))
 refine ak _ rfl ⟨.inl (by decide),_,_,_,hb.at rfl,?_⟩
 have b_gv1:=Blk.drew b_gv1
 have hr:=(((((((hr.pu m_gv.pu).pu m_gv1.pu).pu (Pu.aI _)).ch s_wv2.ch (fun k hx e=>(fun hx=>absurd (lt_hr _ hx) (Nat.not_lt.2 lo_gv1)) (e▸hx))).pu (Pu.aI _)).ch s_wv3.ch (fun k hx e=>(fun hx=>absurd (lt_hr _ hx) (Nat.not_lt.2 lo_gv1)) (e▸hx))).ch s_wv4.ch (fun k hx e=>(fun hx=>absurd (lt_hr _ hx) (Nat.not_lt.2 lo_gv1)) (e▸hx))).pu (Pu.aI _)
 refine mf lS b_gv1 (o:=10) rfl (by(simp;done)) (hr).ints (by(simp;omega)) fun wv5 s_wv5=>?_
 have b_gv1:=s_wv5.blk
 refine bXU.pT s_wv5.ch (by decide) ?_
 have b_gv:=Ch.blk s_wv5.ch (Blk.drew (Ch.blk s_wv4.ch (Ch.blk s_wv3.ch (Blk.drew (Ch.blk s_wv2.ch (Blk.drew (Made.old m_gv1 b_gv)) (ne_gv_gv1))) (ne_gv_gv1)) (ne_gv_gv1))) (ne_gv_gv1)
 refine⟨aT (eR (((eR (List.replicate 26 0) 0 ([D.st.a,D.st.b,D.st.c,D.st.d,D.st.e,D.st.f,D.st.g,D.st.h].take (min (8 - 0) ((Int.toNat 8) - 0)))).set 8 (u32.wrap ((u64.wrap D.n:Int).fdiv (2 ^ 32)))).set 9 (u32.wrap D.n)) 10 ((List.map U32.v D.waits).take (min L.n (26 - (Int.toNat 10))))),b_gv1.mV (by(simp;done)),⟨by rw [dY];(simp;done),pB,ki b_gv (by(simp;done)) fun wv6 s_wv6=>?_⟩⟩
 have b_gv:=s_wv6.blk
 refine⟨aT (eR (((eR (List.replicate 26 0) 0 ([D.st.a,D.st.b,D.st.c,D.st.d,D.st.e,D.st.f,D.st.g,D.st.h].take (min (8 - 0) ((Int.toNat 8) - 0)))).set 8 (u32.wrap ((u64.wrap D.n:Int).fdiv (2 ^ 32)))).set 9 (u32.wrap D.n)) 10 ((List.map U32.v D.waits).take (min L.n (26 - (Int.toNat 10))))),b_gv.mV (by(simp;done)),?_⟩
 have hp:=Ch.call (Ch.call (Ch.drew (Ch.call (Ch.call (Ch.drew (Ch.call (Ch.drew (Ch.made hp m_gv1)) s_wv2.ch (by exact fun k e=>.inr (e▸lo_gv1)))) s_wv3.ch (by exact fun k e=>.inr (e▸lo_gv1))) s_wv4.ch (by exact fun k e=>.inr (e▸lo_gv1)))) s_wv5.ch (by exact fun k e=>.inr (e▸lo_gv1))) s_wv6.ch (by exact fun k e=>.inr (e▸lo_gv))
 exact⟨congrArg (fun l=>Value.agg (aT l)) (by exact Dg.save_eq ok (Dg.C5 ok.n) (u32_eq _) hwn),hp⟩
theorem Hs {w:World}:
 Calls Tryz.prog 88 #[] w fun e w'=>∃v,e= .returned v∧v= .agg #[(.int .u32 S8.first.a),(.int .u32 S8.first.b),(.int .u32 S8.first.c),(.int .u32 S8.first.d),(.int .u32 S8.first.e),(.int .u32 S8.first.f),(.int .u32 S8.first.g),(.int .u32 S8.first.h),(.slice none 0 0),(.int .i64 0)]∧Pu w w':=by
 refine uF ?_
 have hp:=Ch.refl (fun _=>False) w
 refine mkd fun gv wv m_gv=>?_
 have lo_gv:=m_gv.lo hp
 have b_gv:=m_gv.blk
 refine Calls.mono (Dm) ?_
 rintro e wv1 ⟨_,rfl,rfl,q_wv1⟩
 have b_gv:=Pu.blk q_wv1 b_gv
 refine⟨_,_,_,_,_,_,_,_,rfl,cq b_gv rfl fun wv2 s_wv2=>?_⟩
 have b_gv:=s_wv2.blk
 refine⟨_,_,_,_,_,_,_,_,_,_,_,_,⟨b_gv.at rfl,b_gv.at rfl,b_gv.at rfl,b_gv.at rfl,b_gv.at rfl,b_gv.at rfl,b_gv.at rfl,b_gv.at rfl,b_gv.at rfl,b_gv.at rfl⟩,?_⟩
 have hp:=Ch.call (Ch.pu (Ch.made hp m_gv) q_wv1) s_wv2.ch (by exact fun k e=>.inr (e▸lo_gv))
 exact⟨rfl,hp⟩
theorem FF {Zd:Nat→Prop} {diA:Option Addr} {diN:Nat} {diC:Nat} {wl:List U32} {w:World}(hd:Rd w Zd diA diN diC wl)(da:Int)(db:Int)(dc:Int)(dd:Int)(de:Int)(df:Int)(dg:Int)(dh:Int)(dj:Int)(ok:(Dg.mk (S8.mk da db dc dd de df dg dh) dj wl).Ok):
 Calls Tryz.prog 92 #[(.agg #[(.int .u32 da),(.int .u32 db),(.int .u32 dc),(.int .u32 dd),(.int .u32 de),(.int .u32 df),(.int .u32 dg),(.int .u32 dh),(.slice diA diN diC),(.int .i64 dj)])] w fun e w'=>∃v,e= .returned v∧v= .agg (aT (Dg.mk (S8.mk da db dc dd de df dg dh) dj wl).save)∧Pu w w':=by
 refine rO _ _ _ _ _ _ _ _ _ _ _ _ ?_
 have hwn:=hd.len
 have hwl:wl.length=(dj % 16).toNat:=ok.len
 have hn:0≤dj∧dj≤36028797018963968:=ok.n
 have hp:=Ch.refl (fun _=>False) w
 have lt_hd:=hd.lt
 refine mkd fun gv wv m_gv=>?_
 have b_gv:=m_gv.blk
 have hp:=Ch.made hp m_gv
 refine mkd fun gv1 wv1 m_gv1=>?_
 have lo_gv1:=m_gv1.lo hp
 have ne_gv_gv1:=m_gv1.ne b_gv
 have b_gv1:Blk wv1 gv1 (aT (List.replicate 26 0)) _:=m_gv1.blk.cast (eT _ _)
 have hp:=Ch.made hp m_gv1
 have b_gv:=Made.old m_gv1 b_gv
 refine mkd fun gv2 wv2 m_gv2=>?_
 have lo_gv2:=m_gv2.lo hp
 have ne_gv_gv2:=m_gv2.ne b_gv
 have ne_gv1_gv2:=m_gv2.ne b_gv1
 have b_gv2:Blk wv2 gv2 (aT (List.replicate 26 0)) _:=m_gv2.blk.cast (eT _ _)
 rintro _ rfl
 have hp:=Ch.made hp m_gv2
 have hd:=((hd.pu m_gv.pu).pu m_gv1.pu).pu m_gv2.pu
 have b_gv:=Made.old m_gv2 b_gv
 have b_gv1:=Made.old m_gv2 b_gv1
 refine⟨fun mz i1 W=>Ch (fun _=>False) w W∧Rd W Zd diA diN diC wl∧(∃T,Blk W gv #[(.int .u32 da),(.int .u32 db),(.int .u32 dc),(.int .u32 dd),(.int .u32 de),(.int .u32 df),(.int .u32 dg),(.int .u32 dh),(.slice diA diN diC),(.int .i64 dj)] T)∧(∃T,Blk W gv1 (aT (List.replicate 26 0)) T)∧((mz=8∧i1=0∧(∃T,Blk W gv2 (aT (List.replicate 26 0)) T))∨(mz=7∧i1=1∧(∃T,Blk W gv2 (aT ((List.replicate 26 0).set 0 da)) T))∨(mz=6∧i1=2∧(∃T,Blk W gv2 (aT (((List.replicate 26 0).set 0 da).set 1 db)) T))∨(mz=5∧i1=3∧(∃T,Blk W gv2 (aT ((((List.replicate 26 0).set 0 da).set 1 db).set 2 dc)) T))∨(mz=4∧i1=4∧(∃T,Blk W gv2 (aT (((((List.replicate 26 0).set 0 da).set 1 db).set 2 dc).set 3 dd)) T))∨(mz=3∧i1=5∧(∃T,Blk W gv2 (aT ((((((List.replicate 26 0).set 0 da).set 1 db).set 2 dc).set 3 dd).set 4 de)) T))∨(mz=2∧i1=6∧(∃T,Blk W gv2 (aT (((((((List.replicate 26 0).set 0 da).set 1 db).set 2 dc).set 3 dd).set 4 de).set 5 df)) T))∨(mz=1∧i1=7∧(∃T,Blk W gv2 (aT ((((((((List.replicate 26 0).set 0 da).set 1 db).set 2 dc).set 3 dd).set 4 de).set 5 df).set 6 dg)) T))∨(mz=0∧i1=8∧(∃T,Blk W gv2 (aT (((((((((List.replicate 26 0).set 0 da).set 1 db).set 2 dc).set 3 dd).set 4 de).set 5 df).set 6 dg).set 7 dh)) T))),⟨_,hp,hd,⟨_,b_gv⟩,⟨_,b_gv1⟩,.inl ⟨rfl,rfl,⟨_,b_gv2⟩⟩⟩,?_⟩
 rintro _ _ i1 wv3 ⟨hp,hd,⟨_,b_gv⟩,⟨_,b_gv1⟩,hU⟩
 rcases hU with⟨rfl,rfl,⟨_,b_gv2⟩⟩ | ⟨rfl,rfl,⟨_,b_gv2⟩⟩ | ⟨rfl,rfl,⟨_,b_gv2⟩⟩ | ⟨rfl,rfl,⟨_,b_gv2⟩⟩ | ⟨rfl,rfl,⟨_,b_gv2⟩⟩ | ⟨rfl,rfl,⟨_,b_gv2⟩⟩ | ⟨rfl,rfl,⟨_,b_gv2⟩⟩ | ⟨rfl,rfl,⟨_,b_gv2⟩⟩ | ⟨rfl,rfl,⟨_,b_gv2⟩⟩
 ·refine bk ⟨by decide,⟨_,b_gv.at2 rfl,⟨by decide,bQ (i:=0) b_gv2 (by(simp;done)) fun wv4 s_wv4=>?_⟩⟩⟩
  have b_gv2:=s_wv4.blk
  rintro _ rfl
  have hp:=Ch.call hp s_wv4.ch (by exact fun k e=>.inr (e▸lo_gv2))
  have hd:=hd.ch s_wv4.ch (fun k hx e=>(fun hx=>absurd (lt_hd _ hx) (Nat.not_lt.2 lo_gv2)) (e▸hx))
  have b_gv:=Ch.blk s_wv4.ch b_gv (ne_gv_gv2)
  have b_gv1:=Ch.blk s_wv4.ch b_gv1 (ne_gv1_gv2)
  exact⟨7,by decide,hp,hd,⟨_,b_gv⟩,⟨_,b_gv1⟩,.inr (.inl ⟨rfl,rfl,⟨_,b_gv2⟩⟩)⟩
 ·refine bk ⟨by decide,⟨_,b_gv.at2 rfl,⟨by decide,bQ (i:=1) b_gv2 (by(simp;done)) fun wv4 s_wv4=>?_⟩⟩⟩
  have b_gv2:=s_wv4.blk
  rintro _ rfl
  have hp:=Ch.call hp s_wv4.ch (by exact fun k e=>.inr (e▸lo_gv2))
  have hd:=hd.ch s_wv4.ch (fun k hx e=>(fun hx=>absurd (lt_hd _ hx) (Nat.not_lt.2 lo_gv2)) (e▸hx))
  have b_gv:=Ch.blk s_wv4.ch b_gv (ne_gv_gv2)
  have b_gv1:=Ch.blk s_wv4.ch b_gv1 (ne_gv1_gv2)
  exact⟨6,by decide,hp,hd,⟨_,b_gv⟩,⟨_,b_gv1⟩,.inr (.inr (.inl ⟨rfl,rfl,⟨_,b_gv2⟩⟩))⟩
 ·refine bk ⟨by decide,⟨_,b_gv.at2 rfl,⟨by decide,bQ (i:=2) b_gv2 (by(simp;done)) fun wv4 s_wv4=>?_⟩⟩⟩
  have b_gv2:=s_wv4.blk
  rintro _ rfl
  have hp:=Ch.call hp s_wv4.ch (by exact fun k e=>.inr (e▸lo_gv2))
  have hd:=hd.ch s_wv4.ch (fun k hx e=>(fun hx=>absurd (lt_hd _ hx) (Nat.not_lt.2 lo_gv2)) (e▸hx))
  have b_gv:=Ch.blk s_wv4.ch b_gv (ne_gv_gv2)
  have b_gv1:=Ch.blk s_wv4.ch b_gv1 (ne_gv1_gv2)
  exact⟨5,by decide,hp,hd,⟨_,b_gv⟩,⟨_,b_gv1⟩,.inr (.inr (.inr (.inl ⟨rfl,rfl,⟨_,b_gv2⟩⟩)))⟩
 ·refine bk ⟨by decide,⟨_,b_gv.at2 rfl,⟨by decide,bQ (i:=3) b_gv2 (by(simp;done)) fun wv4 s_wv4=>?_⟩⟩⟩
  have b_gv2:=s_wv4.blk
  rintro _ rfl
  have hp:=Ch.call hp s_wv4.ch (by exact fun k e=>.inr (e▸lo_gv2))
  have hd:=hd.ch s_wv4.ch (fun k hx e=>(fun hx=>absurd (lt_hd _ hx) (Nat.not_lt.2 lo_gv2)) (e▸hx))
  have b_gv:=Ch.blk s_wv4.ch b_gv (ne_gv_gv2)
  have b_gv1:=Ch.blk s_wv4.ch b_gv1 (ne_gv1_gv2)
  exact⟨4,by decide,hp,hd,⟨_,b_gv⟩,⟨_,b_gv1⟩,.inr (.inr (.inr (.inr (.inl ⟨rfl,rfl,⟨_,b_gv2⟩⟩))))⟩
 ·refine bk ⟨by decide,⟨_,b_gv.at2 rfl,⟨by decide,bQ (i:=4) b_gv2 (by(simp;done)) fun wv4 s_wv4=>?_⟩⟩⟩
  have b_gv2:=s_wv4.blk
  rintro _ rfl
  have hp:=Ch.call hp s_wv4.ch (by exact fun k e=>.inr (e▸lo_gv2))
  have hd:=hd.ch s_wv4.ch (fun k hx e=>(fun hx=>absurd (lt_hd _ hx) (Nat.not_lt.2 lo_gv2)) (e▸hx))
  have b_gv:=Ch.blk s_wv4.ch b_gv (ne_gv_gv2)
  have b_gv1:=Ch.blk s_wv4.ch b_gv1 (ne_gv1_gv2)
  exact⟨3,by decide,hp,hd,⟨_,b_gv⟩,⟨_,b_gv1⟩,.inr (.inr (.inr (.inr (.inr (.inl ⟨rfl,rfl,⟨_,b_gv2⟩⟩)))))⟩
 ·refine bk ⟨by decide,⟨_,b_gv.at2 rfl,⟨by decide,bQ (i:=5) b_gv2 (by(simp;done)) fun wv4 s_wv4=>?_⟩⟩⟩
  have b_gv2:=s_wv4.blk
  rintro _ rfl
  have hp:=Ch.call hp s_wv4.ch (by exact fun k e=>.inr (e▸lo_gv2))
  have hd:=hd.ch s_wv4.ch (fun k hx e=>(fun hx=>absurd (lt_hd _ hx) (Nat.not_lt.2 lo_gv2)) (e▸hx))
  have b_gv:=Ch.blk s_wv4.ch b_gv (ne_gv_gv2)
  have b_gv1:=Ch.blk s_wv4.ch b_gv1 (ne_gv1_gv2)
  exact⟨2,by decide,hp,hd,⟨_,b_gv⟩,⟨_,b_gv1⟩,.inr (.inr (.inr (.inr (.inr (.inr (.inl ⟨rfl,rfl,⟨_,b_gv2⟩⟩))))))⟩
 ·refine bk ⟨by decide,⟨_,b_gv.at2 rfl,⟨by decide,bQ (i:=6) b_gv2 (by(simp;done)) fun wv4 s_wv4=>?_⟩⟩⟩
  have b_gv2:=s_wv4.blk
  rintro _ rfl
  have hp:=Ch.call hp s_wv4.ch (by exact fun k e=>.inr (e▸lo_gv2))
  have hd:=hd.ch s_wv4.ch (fun k hx e=>(fun hx=>absurd (lt_hd _ hx) (Nat.not_lt.2 lo_gv2)) (e▸hx))
  have b_gv:=Ch.blk s_wv4.ch b_gv (ne_gv_gv2)
  have b_gv1:=Ch.blk s_wv4.ch b_gv1 (ne_gv1_gv2)
  exact⟨1,by decide,hp,hd,⟨_,b_gv⟩,⟨_,b_gv1⟩,.inr (.inr (.inr (.inr (.inr (.inr (.inr (.inl ⟨rfl,rfl,⟨_,b_gv2⟩⟩)))))))⟩
 ·refine bk ⟨by decide,⟨_,b_gv.at2 rfl,⟨by decide,bQ (i:=7) b_gv2 (by(simp;done)) fun wv4 s_wv4=>?_⟩⟩⟩
  have b_gv2:=s_wv4.blk
  rintro _ rfl
  have hp:=Ch.call hp s_wv4.ch (by exact fun k e=>.inr (e▸lo_gv2))
  have hd:=hd.ch s_wv4.ch (fun k hx e=>(fun hx=>absurd (lt_hd _ hx) (Nat.not_lt.2 lo_gv2)) (e▸hx))
  have b_gv:=Ch.blk s_wv4.ch b_gv (ne_gv_gv2)
  have b_gv1:=Ch.blk s_wv4.ch b_gv1 (ne_gv1_gv2)
  exact⟨0,by decide,hp,hd,⟨_,b_gv⟩,⟨_,b_gv1⟩,.inr (.inr (.inr (.inr (.inr (.inr (.inr (.inr (⟨rfl,rfl,⟨_,b_gv2⟩⟩))))))))⟩
 ·refine eQ ⟨_,b_gv.at rfl,⟨by decide,bQ (i:=8) b_gv2 (by(simp;done)) fun wv4 s_wv4=>?_⟩⟩
  have b_gv2:=s_wv4.blk
  have b_gv:=Ch.blk s_wv4.ch b_gv (ne_gv_gv2)
  refine⟨_,b_gv.at rfl,⟨by decide,bQ (i:=9) b_gv2 (by(simp;done)) fun wv5 s_wv5=>?_⟩⟩
  have b_gv2:=s_wv5.blk
  rintro _ rfl
  have hp:=Ch.call (Ch.call hp s_wv4.ch (by exact fun k e=>.inr (e▸lo_gv2))) s_wv5.ch (by exact fun k e=>.inr (e▸lo_gv2))
  have hd:=(hd.ch s_wv4.ch (fun k hx e=>(fun hx=>absurd (lt_hd _ hx) (Nat.not_lt.2 lo_gv2)) (e▸hx))).ch s_wv5.ch (fun k hx e=>(fun hx=>absurd (lt_hd _ hx) (Nat.not_lt.2 lo_gv2)) (e▸hx))
  have b_gv:=Ch.blk s_wv5.ch b_gv (ne_gv_gv2)
  have b_gv1:=Ch.blk s_wv5.ch (Ch.blk s_wv4.ch b_gv1 (ne_gv1_gv2)) (ne_gv1_gv2)
  refine⟨fun mz i3 W=>mz=(16 - i3).toNat∧(0≤i3∧i3≤diN)∧Ch (fun _=>False) w W∧Rd W Zd diA diN diC wl∧(∃T,Blk W gv #[(.int .u32 da),(.int .u32 db),(.int .u32 dc),(.int .u32 dd),(.int .u32 de),(.int .u32 df),(.int .u32 dg),(.int .u32 dh),(.slice diA diN diC),(.int .i64 dj)] T)∧(∃T,Blk W gv1 (aT (List.replicate 26 0)) T)∧(∃T,Blk W gv2 (aT (eR (((((((((((List.replicate 26 0).set 0 da).set 1 db).set 2 dc).set 3 dd).set 4 de).set 5 df).set 6 dg).set 7 dh).set 8 (u32.wrap ((u64.wrap dj:Int).fdiv (2 ^ 32)))).set 9 (u32.wrap (u64.wrap dj))) 10 ((wl.map U32.v).take i3.toNat))) T),⟨_,rfl,(by omega),hp,hd,⟨_,b_gv⟩,⟨_,b_gv1⟩,⟨_,b_gv2.cast (congrArg aT (by rfl))⟩⟩,?_⟩
  rintro _ _ i3 wv6 ⟨rfl,h0,hp,hd,⟨_,b_gv⟩,⟨_,b_gv1⟩,⟨_,b_gv2⟩⟩
  refine⟨_,_,_,b_gv.at rfl,?_⟩
  refine aB (fun c1=>?_) (fun c1=>?_)
  ·refine⟨_,_,_,b_gv.at rfl,?_⟩
   obtain⟨p2,x2,ha2,hx2,hz2,hc2⟩:=hd.ld (i:=i3) (by omega) (by omega)
   refine⟨by constructor<;>omega,ak p2 ha2 ⟨_,hc2 0 (by decide),⟨by(simp only [IntKind.wrap_i64];omega),je b_gv2 (by(simp only [vd,List.length_set,List.length_replicate,IntKind.wrap_i64];omega)) fun wv7 s_wv7=>?_⟩⟩⟩
   have b_gv2:=s_wv7.blk
   rintro _ rfl
   have hp:=Ch.call hp s_wv7.ch (by exact fun k e=>.inr (e▸lo_gv2))
   have hd:=hd.ch s_wv7.ch (fun k hx e=>(fun hx=>absurd (lt_hd _ hx) (Nat.not_lt.2 lo_gv2)) (e▸hx))
   have b_gv:=Ch.blk s_wv7.ch b_gv (ne_gv_gv2)
   have b_gv1:=Ch.blk s_wv7.ch b_gv1 (ne_gv1_gv2)
   exact⟨_,by rw [IntKind.wrap_i64];omega,rfl,by rw [IntKind.wrap_i64];omega,hp,hd,⟨_,b_gv⟩,⟨_,b_gv1⟩,⟨_,b_gv2.cast (congrArg aT (by exact Bb (by omega) hx2))⟩⟩
  ·refine⟨aT (eR (((((((((((List.replicate 26 0).set 0 da).set 1 db).set 2 dc).set 3 dd).set 4 de).set 5 df).set 6 dg).set 7 dh).set 8 (u32.wrap ((u64.wrap dj:Int).fdiv (2 ^ 32)))).set 9 (u32.wrap (u64.wrap dj))) 10 ((wl.map U32.v).take i3.toNat)),b_gv2.mV (by(simp;done)),⟨by rw [dY];(simp;done),pB,ki b_gv1 (by(simp;done)) fun wv7 s_wv7=>?_⟩⟩
   have b_gv1:=s_wv7.blk
   refine⟨aT (eR (((((((((((List.replicate 26 0).set 0 da).set 1 db).set 2 dc).set 3 dd).set 4 de).set 5 df).set 6 dg).set 7 dh).set 8 (u32.wrap ((u64.wrap dj:Int).fdiv (2 ^ 32)))).set 9 (u32.wrap (u64.wrap dj))) 10 ((wl.map U32.v).take i3.toNat)),b_gv1.mV (by(simp;done)),?_⟩
   have hp:=Ch.call hp s_wv7.ch (by exact fun k e=>.inr (e▸lo_gv1))
   exact⟨congrArg (fun l=>Value.agg (aT l)) (by have e:=i3;have e2:i3.toNat=min diN 16:=(by omega);rw [e2];refine Dg.save_eq ok (Dg.C5 hn) ?_ hwn;rw [eO (by omega),u32_eq]),hp⟩
theorem Ht {Zd:Nat→Prop} {diA:Option Addr} {diN:Nat} {diC:Nat} {wl:List U32} {Z:Nat→Prop} {wordsA:Option Addr} {wordsN:Nat} {wordsC:Nat} {l:List U32} {K:List Int} {w:World}(hd:Rd w Zd diA diN diC wl)(hz:Rd w Z wordsA wordsN wordsC l)(hk:fT w 2 K)(da:Int)(db:Int)(dc:Int)(dd:Int)(de:Int)(df:Int)(dg:Int)(dh:Int)(dj:Int)(ok:(Dg.mk (S8.mk da db dc dd de df dg dh) dj wl).Ok)(hlen:l.length≤1099511627776):
 Calls Tryz.prog 90 #[(.agg #[(.int .u32 da),(.int .u32 db),(.int .u32 dc),(.int .u32 dd),(.int .u32 de),(.int .u32 df),(.int .u32 dg),(.int .u32 dh),(.slice diA diN diC),(.int .i64 dj)]),(.slice wordsA wordsN wordsC)] w fun e w'=>∃v,e= .returned v∧∃Z':Nat→Prop,∃A':Option Addr,∃N':Nat,∃C':Nat,v= .agg #[(.int .u32 (((Dg.mk (S8.mk da db dc dd de df dg dh) dj wl).add K l).st.a)),(.int .u32 (((Dg.mk (S8.mk da db dc dd de df dg dh) dj wl).add K l).st.b)),(.int .u32 (((Dg.mk (S8.mk da db dc dd de df dg dh) dj wl).add K l).st.c)),(.int .u32 (((Dg.mk (S8.mk da db dc dd de df dg dh) dj wl).add K l).st.d)),(.int .u32 (((Dg.mk (S8.mk da db dc dd de df dg dh) dj wl).add K l).st.e)),(.int .u32 (((Dg.mk (S8.mk da db dc dd de df dg dh) dj wl).add K l).st.f)),(.int .u32 (((Dg.mk (S8.mk da db dc dd de df dg dh) dj wl).add K l).st.g)),(.int .u32 (((Dg.mk (S8.mk da db dc dd de df dg dh) dj wl).add K l).st.h)),(.slice A' N' C'),(.int .i64 (((Dg.mk (S8.mk da db dc dd de df dg dh) dj wl).add K l).n))]∧Rd w' Z' A' N' C' ((Dg.mk (S8.mk da db dc dd de df dg dh) dj wl).add K l).waits∧(∀k,Z' k→Zd k∨w.heap.size≤k)∧((l.length:Int)≤36028797018963968 - dj→Own w' Z' 22 A' N' C' ((Dg.mk (S8.mk da db dc dd de df dg dh) dj wl).add K l).waits∧∀k,Z' k→w.heap.size≤k)∧Pu w w':=by
 refine uG _ _ _ _ _ _ _ _ _ _ _ _ _ _ _ ?_
 have hwn:=hd.len
 have hzn:=hz.len
 have hwl:wl.length=(dj % 16).toNat:=ok.len
 have hn:0≤dj∧dj≤36028797018963968:=ok.n
 have hp:=Ch.refl (fun _=>False) w
 have lt_hd:=hd.lt
 have lt_hz:=hz.lt
 have lt_hk:=hk.lt
 refine mkd fun gv wv m_gv=>?_
 have b_gv:=m_gv.blk
 have hp:=Ch.made hp m_gv
 refine mkd fun gv1 wv1 m_gv1=>?_
 have lo_gv1:=m_gv1.lo hp
 have ne_gv_gv1:=m_gv1.ne b_gv
 have b_gv1:=m_gv1.blk
 have b_gv:=Made.old m_gv1 b_gv
 refine⟨_,b_gv.at rfl,?_⟩
 refine aB (fun c1=>?_) (fun c1=>?_)
 ·rw [ah (by omega)]at c1
  have hr:((Dg.mk (S8.mk da db dc dd de df dg dh) dj wl).add K l)=(Dg.mk (S8.mk da db dc dd de df dg dh) dj wl):=by rw [Dg.add,if_pos (by rw [hzn];exact c1)]
  refine⟨_,_,_,_,_,_,_,_,_,_,_,_,⟨b_gv.at rfl,b_gv.at rfl,b_gv.at rfl,b_gv.at rfl,b_gv.at rfl,b_gv.at rfl,b_gv.at rfl,b_gv.at rfl,b_gv.at rfl,b_gv.at rfl⟩,cq b_gv1 rfl fun wv2 s_wv2=>?_⟩
  have b_gv1:=s_wv2.blk
  refine⟨_,_,_,_,_,_,_,_,_,_,_,_,⟨b_gv1.at rfl,b_gv1.at rfl,b_gv1.at rfl,b_gv1.at rfl,b_gv1.at rfl,b_gv1.at rfl,b_gv1.at rfl,b_gv1.at rfl,b_gv1.at rfl,b_gv1.at rfl⟩,?_⟩
  have hd:=((hd.pu m_gv.pu).pu m_gv1.pu).ch s_wv2.ch (fun k hx e=>(fun hx=>absurd (lt_hd _ hx) (Nat.not_lt.2 lo_gv1)) (e▸hx))
  have hp:=Ch.call (Ch.made hp m_gv1) s_wv2.ch (by exact fun k e=>.inr (e▸lo_gv1))
  exact⟨Zd,_,_,_,by rw [hr],by rw [hr];exact hd,fun k h=>.inl h,fun hh=>by rw [hzn]at hh;omega,hp⟩
 ·rw [ah (by omega)]at c1
  refine⟨_,_,_,b_gv.at rfl,?_⟩
  have hd:=(hd.pu m_gv.pu).pu m_gv1.pu
  have hp:=Ch.made hp m_gv1
  refine mq o8 hd (by omega) (by omega) fun A_wv2 c_wv2 wv2 o_wv2 q_wv2=>?_
  have b_gv:=Pu.blk q_wv2 b_gv
  refine⟨_,_,_,_,_,_,_,_,⟨b_gv.at2 rfl,b_gv.at2 rfl,b_gv.at2 rfl,b_gv.at2 rfl,b_gv.at2 rfl,b_gv.at2 rfl,b_gv.at2 rfl,b_gv.at2 rfl⟩,⟨_,b_gv.at rfl,?_⟩⟩
  have hp:=Ch.pu hp q_wv2
  have b_gv1:=Pu.blk q_wv2 b_gv1
  refine mkd fun gv2 wv3 m_gv2=>?_
  have lo_gv2:=m_gv2.lo hp
  have ne_gv_gv2:=m_gv2.ne b_gv
  have ne_gv1_gv2:=m_gv2.ne b_gv1
  have b_gv2:=m_gv2.blk
  refine cq b_gv2 rfl fun wv4 s_wv4=>?_
  have b_gv2:=s_wv4.blk
  rintro _ rfl
  have o_wv2:=(o_wv2.pu m_gv2.pu).ch s_wv4.ch (fun k hx e=>absurd hx.2 (by have:=m_gv2.num;omega))
  have hp:=Ch.call (Ch.made hp m_gv2) s_wv4.ch (by exact fun k e=>.inr (e▸lo_gv2))
  have hd:=((hd.pu q_wv2).pu m_gv2.pu).ch s_wv4.ch (fun k hx e=>(fun hx=>absurd (lt_hd _ hx) (Nat.not_lt.2 lo_gv2)) (e▸hx))
  have hz:=((((hz.pu m_gv.pu).pu m_gv1.pu).pu q_wv2).pu m_gv2.pu).ch s_wv4.ch (fun k hx e=>(fun hx=>absurd (lt_hz _ hx) (Nat.not_lt.2 lo_gv2)) (e▸hx))
  have hk:=((((hk.pu m_gv.pu).pu m_gv1.pu).pu q_wv2).pu m_gv2.pu).ch s_wv4.ch (fun k hx e=>(fun hx=>absurd (lt_hk _ hx) (Nat.not_lt.2 lo_gv2)) (e▸hx))
  have b_gv1:=Ch.blk s_wv4.ch (Made.old m_gv2 b_gv1) (ne_gv1_gv2)
  refine⟨fun mz waitA waitN waitC i1 W=>∃wl2:List U32,∃S:S8,∃n2:Int,mz=(wordsN - i1).toNat∧(0≤i1∧i1≤wordsN)∧(bG K (S8.mk da db dc dd de df dg dh) (wl++l.take i1.toNat)=(S,wl2))∧(wl2.length<16)∧(n2=dj+l.length)∧Own W (fun k=>w.heap.size≤k∧k≠gv1∧k≠gv2) 22 waitA waitN waitC wl2∧Ch (fun _=>False) w W∧Rd W Zd diA diN diC wl∧Rd W Z wordsA wordsN wordsC l∧fT W 2 K∧Blk W gv1 #[(.int .u32 0),(.int .u32 0),(.int .u32 0),(.int .u32 0),(.int .u32 0),(.int .u32 0),(.int .u32 0),(.int .u32 0),(.slice none 0 0),(.int .i64 0)] 130∧Blk W gv2 #[(.int .u32 S.a),(.int .u32 S.b),(.int .u32 S.c),(.int .u32 S.d),(.int .u32 S.e),(.int .u32 S.f),(.int .u32 S.g),(.int .u32 S.h),(.slice none 0 0),(.int .i64 n2)] 130,⟨_,wl,(S8.mk da db dc dd de df dg dh),_,rfl,(by omega),(by simpa using dm (by omega)),(by omega),(by rw [ah (by omega)];omega),(o_wv2).to (by intro k h1 h2;have e1:=m_gv1.lt;have e2:=m_gv2.num;have e3:=m_gv.kept.size;have e4:=m_gv1.kept.size;refine⟨?_,?_,?_⟩<;>omega),hp,hd,hz,hk,b_gv1,b_gv2⟩,?_⟩
  rintro _ _ waitA waitN waitC i1 wv5 ⟨wl2,S,n2,rfl,h0,hI,hwb,hn2,h_wl2,hp,hd,hz,hk,b_gv1,b_gv2⟩
  refine aB (fun c2=>?_) (fun c2=>?_)
  ·have hwn2:=h_wl2.len
   obtain⟨p3,x3,ha3,hx3,hz3,hc3⟩:=hz.ld (i:=i1) (by omega) (by omega)
   refine⟨by omega,ak p3 ha3 ⟨_,hc3 0 (by decide),?_⟩⟩
   refine mkd fun gv4 wv6 m_gv4=>?_
   have ne_gv2_gv4:=m_gv4.ne b_gv2
   have b_gv4:=m_gv4.blk
   have h_wl2:=h_wl2.pu m_gv4.pu
   have hp:=Ch.made hp m_gv4
   refine h_wl2.app o8 b_gv4 (x:=(⟨x3.v⟩:U32)) (by rfl) (by omega) (by omega) (by have h1:=b_gv1.lt;have h2:=b_gv2.lt;have h3:=m_gv4.kept.size;have h4:=hp.size;refine⟨?_,?_,?_⟩<;>omega) fun A_wv7 c_wv7 wv7 h_wl2 q_wv7=>?_
   refine aK (fun c4=>?_) (fun c4=>?_)
   ·refine⟨bXU [] [1,4] wv7.drew (fun _=>False),?_⟩
    have b_gv2:=Blk.drew (Ch.blk q_wv7 (Made.old m_gv4 b_gv2) (fun h=>h.2.2 rfl))
    have h_wl2:=h_wl2.pu (Pu.aI _)
    refine⟨.inl (by decide),_,_,_,_,_,_,_,_,⟨b_gv2.at2 rfl,b_gv2.at2 rfl,b_gv2.at2 rfl,b_gv2.at2 rfl,b_gv2.at2 rfl,b_gv2.at2 rfl,b_gv2.at2 rfl,b_gv2.at2 rfl⟩,⟨by omega,?_⟩⟩
    obtain⟨p5,ha5,hz5,hc5⟩:=h_wl2.rd.u32 (by omega)
    refine ak p5 ha5 ⟨.inl (by decide),_,_,_,_,_,_,_,_,_,_,_,_,_,_,_,_,⟨hc5 0 (by omega),hc5 1 (by omega),hc5 2 (by omega),hc5 3 (by omega),hc5 4 (by omega),hc5 5 (by omega),hc5 6 (by omega),hc5 7 (by omega),hc5 8 (by omega),hc5 9 (by omega),hc5 10 (by omega),hc5 11 (by omega),hc5 12 (by omega),hc5 13 (by omega),hc5 14 (by omega),hc5 15 (by omega)⟩,?_⟩
    have hk:=((hk.pu m_gv4.pu).ch q_wv7 (fun k hx hy=>by have h1:=lt_hk k hx;omega)).pu (Pu.aI _)
    refine Calls.mono (Dn hk _ _ _ _ _ _ _ _ _ _ _ _ _ _ _ _ _ _ _ _ _ _ _ _) ?_
    rintro e wv8 ⟨_,rfl,rfl,q_wv8⟩
    refine⟨_,_,_,_,_,_,_,_,rfl,?_⟩
    refine bXU.grow q_wv8 ?_
    have b_gv2:=Pu.blk q_wv8 b_gv2
    refine aM b_gv2 (by simp) fun wv9 s_wv9=>?_
    have b_gv2:Blk wv9 gv2 #[(.int .u32 ((cV K (S8.mk S.a S.b S.c S.d S.e S.f S.g S.h) [(((wl2++ [(⟨x3.v⟩:U32)]).getD 0 ⟨0⟩).v),(((wl2++ [(⟨x3.v⟩:U32)]).getD 1 ⟨0⟩).v),(((wl2++ [(⟨x3.v⟩:U32)]).getD 2 ⟨0⟩).v),(((wl2++ [(⟨x3.v⟩:U32)]).getD 3 ⟨0⟩).v),(((wl2++ [(⟨x3.v⟩:U32)]).getD 4 ⟨0⟩).v),(((wl2++ [(⟨x3.v⟩:U32)]).getD 5 ⟨0⟩).v),(((wl2++ [(⟨x3.v⟩:U32)]).getD 6 ⟨0⟩).v),(((wl2++ [(⟨x3.v⟩:U32)]).getD 7 ⟨0⟩).v),(((wl2++ [(⟨x3.v⟩:U32)]).getD 8 ⟨0⟩).v),(((wl2++ [(⟨x3.v⟩:U32)]).getD 9 ⟨0⟩).v),(((wl2++ [(⟨x3.v⟩:U32)]).getD 10 ⟨0⟩).v),(((wl2++ [(⟨x3.v⟩:U32)]).getD 11 ⟨0⟩).v),(((wl2++ [(⟨x3.v⟩:U32)]).getD 12 ⟨0⟩).v),(((wl2++ [(⟨x3.v⟩:U32)]).getD 13 ⟨0⟩).v),(((wl2++ [(⟨x3.v⟩:U32)]).getD 14 ⟨0⟩).v),(((wl2++ [(⟨x3.v⟩:U32)]).getD 15 ⟨0⟩).v)]).a)),(.int .u32 ((cV K (S8.mk S.a S.b S.c S.d S.e S.f S.g S.h) [(((wl2++ [(⟨x3.v⟩:U32)]).getD 0 ⟨0⟩).v),(((wl2++ [(⟨x3.v⟩:U32)]).getD 1 ⟨0⟩).v),(((wl2++ [(⟨x3.v⟩:U32)]).getD 2 ⟨0⟩).v),(((wl2++ [(⟨x3.v⟩:U32)]).getD 3 ⟨0⟩).v),(((wl2++ [(⟨x3.v⟩:U32)]).getD 4 ⟨0⟩).v),(((wl2++ [(⟨x3.v⟩:U32)]).getD 5 ⟨0⟩).v),(((wl2++ [(⟨x3.v⟩:U32)]).getD 6 ⟨0⟩).v),(((wl2++ [(⟨x3.v⟩:U32)]).getD 7 ⟨0⟩).v),(((wl2++ [(⟨x3.v⟩:U32)]).getD 8 ⟨0⟩).v),(((wl2++ [(⟨x3.v⟩:U32)]).getD 9 ⟨0⟩).v),(((wl2++ [(⟨x3.v⟩:U32)]).getD 10 ⟨0⟩).v),(((wl2++ [(⟨x3.v⟩:U32)]).getD 11 ⟨0⟩).v),(((wl2++ [(⟨x3.v⟩:U32)]).getD 12 ⟨0⟩).v),(((wl2++ [(⟨x3.v⟩:U32)]).getD 13 ⟨0⟩).v),(((wl2++ [(⟨x3.v⟩:U32)]).getD 14 ⟨0⟩).v),(((wl2++ [(⟨x3.v⟩:U32)]).getD 15 ⟨0⟩).v)]).b)),(.int .u32 ((cV K (S8.mk S.a S.b S.c S.d S.e S.f S.g S.h) [(((wl2++ [(⟨x3.v⟩:U32)]).getD 0 ⟨0⟩).v),(((wl2++ [(⟨x3.v⟩:U32)]).getD 1 ⟨0⟩).v),(((wl2++ [(⟨x3.v⟩:U32)]).getD 2 ⟨0⟩).v),(((wl2++ [(⟨x3.v⟩:U32)]).getD 3 ⟨0⟩).v),(((wl2++ [(⟨x3.v⟩:U32)]).getD 4 ⟨0⟩).v),(((wl2++ [(⟨x3.v⟩:U32)]).getD 5 ⟨0⟩).v),(((wl2++ [(⟨x3.v⟩:U32)]).getD 6 ⟨0⟩).v),(((wl2++ [(⟨x3.v⟩:U32)]).getD 7 ⟨0⟩).v),(((wl2++ [(⟨x3.v⟩:U32)]).getD 8 ⟨0⟩).v),(((wl2++ [(⟨x3.v⟩:U32)]).getD 9 ⟨0⟩).v),(((wl2++ [(⟨x3.v⟩:U32)]).getD 10 ⟨0⟩).v),(((wl2++ [(⟨x3.v⟩:U32)]).getD 11 ⟨0⟩).v),(((wl2++ [(⟨x3.v⟩:U32)]).getD 12 ⟨0⟩).v),(((wl2++ [(⟨x3.v⟩:U32)]).getD 13 ⟨0⟩).v),(((wl2++ [(⟨x3.v⟩:U32)]).getD 14 ⟨0⟩).v),(((wl2++ [(⟨x3.v⟩:U32)]).getD 15 ⟨0⟩).v)]).c)),(.int .u32 ((cV K (S8.mk S.a S.b S.c S.d S.e S.f S.g S.h) [(((wl2++ [(⟨x3.v⟩:U32)]).getD 0 ⟨0⟩).v),(((wl2++ [(⟨x3.v⟩:U32)]).getD 1 ⟨0⟩).v),(((wl2++ [(⟨x3.v⟩:U32)]).getD 2 ⟨0⟩).v),(((wl2++ [(⟨x3.v⟩:U32)]).getD 3 ⟨0⟩).v),(((wl2++ [(⟨x3.v⟩:U32)]).getD 4 ⟨0⟩).v),(((wl2++ [(⟨x3.v⟩:U32)]).getD 5 ⟨0⟩).v),(((wl2++ [(⟨x3.v⟩:U32)]).getD 6 ⟨0⟩).v),(((wl2++ [(⟨x3.v⟩:U32)]).getD 7 ⟨0⟩).v),(((wl2++ [(⟨x3.v⟩:U32)]).getD 8 ⟨0⟩).v),(((wl2++ [(⟨x3.v⟩:U32)]).getD 9 ⟨0⟩).v),(((wl2++ [(⟨x3.v⟩:U32)]).getD 10 ⟨0⟩).v),(((wl2++ [(⟨x3.v⟩:U32)]).getD 11 ⟨0⟩).v),(((wl2++ [(⟨x3.v⟩:U32)]).getD 12 ⟨0⟩).v),(((wl2++ [(⟨x3.v⟩:U32)]).getD 13 ⟨0⟩).v),(((wl2++ [(⟨x3.v⟩:U32)]).getD 14 ⟨0⟩).v),(((wl2++ [(⟨x3.v⟩:U32)]).getD 15 ⟨0⟩).v)]).d)),(.int .u32 ((cV K (S8.mk S.a S.b S.c S.d S.e S.f S.g S.h) [(((wl2++ [(⟨x3.v⟩:U32)]).getD 0 ⟨0⟩).v),(((wl2++ [(⟨x3.v⟩:U32)]).getD 1 ⟨0⟩).v),(((wl2++ [(⟨x3.v⟩:U32)]).getD 2 ⟨0⟩).v),(((wl2++ [(⟨x3.v⟩:U32)]).getD 3 ⟨0⟩).v),(((wl2++ [(⟨x3.v⟩:U32)]).getD 4 ⟨0⟩).v),(((wl2++ [(⟨x3.v⟩:U32)]).getD 5 ⟨0⟩).v),(((wl2++ [(⟨x3.v⟩:U32)]).getD 6 ⟨0⟩).v),(((wl2++ [(⟨x3.v⟩:U32)]).getD 7 ⟨0⟩).v),(((wl2++ [(⟨x3.v⟩:U32)]).getD 8 ⟨0⟩).v),(((wl2++ [(⟨x3.v⟩:U32)]).getD 9 ⟨0⟩).v),(((wl2++ [(⟨x3.v⟩:U32)]).getD 10 ⟨0⟩).v),(((wl2++ [(⟨x3.v⟩:U32)]).getD 11 ⟨0⟩).v),(((wl2++ [(⟨x3.v⟩:U32)]).getD 12 ⟨0⟩).v),(((wl2++ [(⟨x3.v⟩:U32)]).getD 13 ⟨0⟩).v),(((wl2++ [(⟨x3.v⟩:U32)]).getD 14 ⟨0⟩).v),(((wl2++ [(⟨x3.v⟩:U32)]).getD 15 ⟨0⟩).v)]).e)),(.int .u32 ((cV K (S8.mk S.a S.b S.c S.d S.e S.f S.g S.h) [(((wl2++ [(⟨x3.v⟩:U32)]).getD 0 ⟨0⟩).v),(((wl2++ [(⟨x3.v⟩:U32)]).getD 1 ⟨0⟩).v),(((wl2++ [(⟨x3.v⟩:U32)]).getD 2 ⟨0⟩).v),(((wl2++ [(⟨x3.v⟩:U32)]).getD 3 ⟨0⟩).v),(((wl2++ [(⟨x3.v⟩:U32)]).getD 4 ⟨0⟩).v),(((wl2++ [(⟨x3.v⟩:U32)]).getD 5 ⟨0⟩).v),(((wl2++ [(⟨x3.v⟩:U32)]).getD 6 ⟨0⟩).v),(((wl2++ [(⟨x3.v⟩:U32)]).getD 7 ⟨0⟩).v),(((wl2++ [(⟨x3.v⟩:U32)]).getD 8 ⟨0⟩).v),(((wl2++ [(⟨x3.v⟩:U32)]).getD 9 ⟨0⟩).v),(((wl2++ [(⟨x3.v⟩:U32)]).getD 10 ⟨0⟩).v),(((wl2++ [(⟨x3.v⟩:U32)]).getD 11 ⟨0⟩).v),(((wl2++ [(⟨x3.v⟩:U32)]).getD 12 ⟨0⟩).v),(((wl2++ [(⟨x3.v⟩:U32)]).getD 13 ⟨0⟩).v),(((wl2++ [(⟨x3.v⟩:U32)]).getD 14 ⟨0⟩).v),(((wl2++ [(⟨x3.v⟩:U32)]).getD 15 ⟨0⟩).v)]).f)),(.int .u32 ((cV K (S8.mk S.a S.b S.c S.d S.e S.f S.g S.h) [(((wl2++ [(⟨x3.v⟩:U32)]).getD 0 ⟨0⟩).v),(((wl2++ [(⟨x3.v⟩:U32)]).getD 1 ⟨0⟩).v),(((wl2++ [(⟨x3.v⟩:U32)]).getD 2 ⟨0⟩).v),(((wl2++ [(⟨x3.v⟩:U32)]).getD 3 ⟨0⟩).v),(((wl2++ [(⟨x3.v⟩:U32)]).getD 4 ⟨0⟩).v),(((wl2++ [(⟨x3.v⟩:U32)]).getD 5 ⟨0⟩).v),(((wl2++ [(⟨x3.v⟩:U32)]).getD 6 ⟨0⟩).v),(((wl2++ [(⟨x3.v⟩:U32)]).getD 7 ⟨0⟩).v),(((wl2++ [(⟨x3.v⟩:U32)]).getD 8 ⟨0⟩).v),(((wl2++ [(⟨x3.v⟩:U32)]).getD 9 ⟨0⟩).v),(((wl2++ [(⟨x3.v⟩:U32)]).getD 10 ⟨0⟩).v),(((wl2++ [(⟨x3.v⟩:U32)]).getD 11 ⟨0⟩).v),(((wl2++ [(⟨x3.v⟩:U32)]).getD 12 ⟨0⟩).v),(((wl2++ [(⟨x3.v⟩:U32)]).getD 13 ⟨0⟩).v),(((wl2++ [(⟨x3.v⟩:U32)]).getD 14 ⟨0⟩).v),(((wl2++ [(⟨x3.v⟩:U32)]).getD 15 ⟨0⟩).v)]).g)),(.int .u32 ((cV K (S8.mk S.a S.b S.c S.d S.e S.f S.g S.h) [(((wl2++ [(⟨x3.v⟩:U32)]).getD 0 ⟨0⟩).v),(((wl2++ [(⟨x3.v⟩:U32)]).getD 1 ⟨0⟩).v),(((wl2++ [(⟨x3.v⟩:U32)]).getD 2 ⟨0⟩).v),(((wl2++ [(⟨x3.v⟩:U32)]).getD 3 ⟨0⟩).v),(((wl2++ [(⟨x3.v⟩:U32)]).getD 4 ⟨0⟩).v),(((wl2++ [(⟨x3.v⟩:U32)]).getD 5 ⟨0⟩).v),(((wl2++ [(⟨x3.v⟩:U32)]).getD 6 ⟨0⟩).v),(((wl2++ [(⟨x3.v⟩:U32)]).getD 7 ⟨0⟩).v),(((wl2++ [(⟨x3.v⟩:U32)]).getD 8 ⟨0⟩).v),(((wl2++ [(⟨x3.v⟩:U32)]).getD 9 ⟨0⟩).v),(((wl2++ [(⟨x3.v⟩:U32)]).getD 10 ⟨0⟩).v),(((wl2++ [(⟨x3.v⟩:U32)]).getD 11 ⟨0⟩).v),(((wl2++ [(⟨x3.v⟩:U32)]).getD 12 ⟨0⟩).v),(((wl2++ [(⟨x3.v⟩:U32)]).getD 13 ⟨0⟩).v),(((wl2++ [(⟨x3.v⟩:U32)]).getD 14 ⟨0⟩).v),(((wl2++ [(⟨x3.v⟩:U32)]).getD 15 ⟨0⟩).v)]).h)),(.slice none 0 0),(.int .i64 n2)] _:=s_wv9.blk.cast (by kernel_rfl)
    refine bXU.grow s_wv9.ch ?_
    rintro _ rfl
    have hp:=Ch.call (Ch.pu (Ch.drew (Ch.call hp q_wv7 (by intro k hk;exact .inr hk.1))) q_wv8) s_wv9.ch (by exact fun k e=>.inr (e▸lo_gv2))
    have hd:=((((hd.pu m_gv4.pu).ch q_wv7 (fun k hx hy=>by have h1:=lt_hd k hx;omega)).pu (Pu.aI _)).pu q_wv8).ch s_wv9.ch (fun k hx e=>(fun hx=>absurd (lt_hd _ hx) (Nat.not_lt.2 lo_gv2)) (e▸hx))
    have hz:=((((hz.pu m_gv4.pu).ch q_wv7 (fun k hx hy=>by have h1:=lt_hz k hx;omega)).pu (Pu.aI _)).pu q_wv8).ch s_wv9.ch (fun k hx e=>(fun hx=>absurd (lt_hz _ hx) (Nat.not_lt.2 lo_gv2)) (e▸hx))
    have hk:=(hk.pu q_wv8).ch s_wv9.ch (fun k hx e=>(fun hx=>absurd (lt_hk _ hx) (Nat.not_lt.2 lo_gv2)) (e▸hx))
    have b_gv1:=Ch.blk s_wv9.ch (Pu.blk q_wv8 (Blk.drew (Ch.blk q_wv7 (Made.old m_gv4 b_gv1) (fun h=>h.2.1 rfl)))) (ne_gv1_gv2)
    exact⟨_,by rw [IntKind.wrap_i64];omega,([]),(cV K S ((wl2++ [x3]).map U32.v)),n2,rfl,by rw [IntKind.wrap_i64];omega,by rw [n8 hI (by omega) hx3,if_pos (by omega)],by simp,hn2,Own.nil,hp,hd,hz,hk,b_gv1,b_gv2.cast (G4 (congrArg (Value.int .u32) (by rw [n7 (by simp;omega)])) (congrArg (Value.int .u32) (by rw [n7 (by simp;omega)])) (congrArg (Value.int .u32) (by rw [n7 (by simp;omega)])) (congrArg (Value.int .u32) (by rw [n7 (by simp;omega)])) (congrArg (Value.int .u32) (by rw [n7 (by simp;omega)])) (congrArg (Value.int .u32) (by rw [n7 (by simp;omega)])) (congrArg (Value.int .u32) (by rw [n7 (by simp;omega)])) (congrArg (Value.int .u32) (by rw [n7 (by simp;omega)])) (rfl) (rfl))⟩
   ·rintro _ rfl
    have hp:=Ch.call hp q_wv7 (by intro k hk;exact .inr hk.1)
    have hd:=(hd.pu m_gv4.pu).ch q_wv7 (fun k hx hy=>by have h1:=lt_hd k hx;omega)
    have hz:=(hz.pu m_gv4.pu).ch q_wv7 (fun k hx hy=>by have h1:=lt_hz k hx;omega)
    have hk:=(hk.pu m_gv4.pu).ch q_wv7 (fun k hx hy=>by have h1:=lt_hk k hx;omega)
    have b_gv1:=Ch.blk q_wv7 (Made.old m_gv4 b_gv1) (fun h=>h.2.1 rfl)
    have b_gv2:=Ch.blk q_wv7 (Made.old m_gv4 b_gv2) (fun h=>h.2.2 rfl)
    exact⟨_,by rw [IntKind.wrap_i64];omega,(wl2++ [(⟨x3.v⟩:U32)]),S,n2,rfl,by rw [IntKind.wrap_i64];omega,by rw [n8 hI (by omega) hx3,if_neg (by omega)],by simp;omega,hn2,h_wl2,hp,hd,hz,hk,b_gv1,b_gv2⟩
  ·have hi:i1.toNat=l.length:=by omega
   have hr:((Dg.mk (S8.mk da db dc dd de df dg dh) dj wl).add K l)=⟨S,n2,wl2⟩:=by rw [hi,List.take_of_length_le (Nat.le_refl _)]at hI;rw [Dg.add,if_neg (by rw [hzn];exact c1),hI,hn2]
   have hlt:=h_wl2.len
   refine aM b_gv2 (by simp) fun wv6 s_wv6=>?_
   have b_gv2:Blk wv6 gv2 #[(.int .u32 S.a),(.int .u32 S.b),(.int .u32 S.c),(.int .u32 S.d),(.int .u32 S.e),(.int .u32 S.f),(.int .u32 S.g),(.int .u32 S.h),(.slice waitA waitN waitC),(.int .i64 n2)] _:=s_wv6.blk.cast (by kernel_rfl)
   have b_gv1:=Ch.blk s_wv6.ch b_gv1 (ne_gv1_gv2)
   refine⟨_,_,_,_,_,_,_,_,_,_,_,_,⟨b_gv2.at rfl,b_gv2.at rfl,b_gv2.at rfl,b_gv2.at rfl,b_gv2.at rfl,b_gv2.at rfl,b_gv2.at rfl,b_gv2.at rfl,b_gv2.at rfl,b_gv2.at rfl⟩,cq b_gv1 rfl fun wv7 s_wv7=>?_⟩
   have b_gv1:=s_wv7.blk
   refine⟨_,_,_,_,_,_,_,_,_,_,_,_,⟨b_gv1.at rfl,b_gv1.at rfl,b_gv1.at rfl,b_gv1.at rfl,b_gv1.at rfl,b_gv1.at rfl,b_gv1.at rfl,b_gv1.at rfl,b_gv1.at rfl,b_gv1.at rfl⟩,?_⟩
   have h_wl2:=(h_wl2.ch s_wv6.ch (fun k hx e=>hx.2.2 e)).ch s_wv7.ch (fun k hx e=>hx.2.1 e)
   have hp:=Ch.call (Ch.call hp s_wv6.ch (by exact fun k e=>.inr (e▸lo_gv2))) s_wv7.ch (by exact fun k e=>.inr (e▸lo_gv1))
   exact⟨_,_,_,_,by rw [hr],by rw [hr];exact(h_wl2).rd,by intro k h;exact .inr h.1.1,fun _=>⟨by rw [hr];exact(h_wl2).within,by intro k h;exact h.1.1⟩,hp⟩
theorem Ih {Z:Nat→Prop} {wordsA:Option Addr} {wordsN:Nat} {wordsC:Nat} {l:List U32} {w:World}(hz:Rd w Z wordsA wordsN wordsC l)(hw:∀x∈l,0≤x.v∧x.v<4294967296):
 Calls Tryz.prog 103 #[(.slice wordsA wordsN wordsC)] w fun e w'=>∃v,e= .returned v∧∃p:Option Addr,v= .tuple #[(.pointer p),(.int .i64 (Dg.aE l))]∧(Dg.aE l=0→∃g L,p=some (Addr.mk g 0 none)∧mJ w' g L (Dg.load l)∧∀k,L.X g k→w.heap.size≤k)∧Pu w w':=by
 refine xl _ _ _ ?_
 have hl:=hz.len
 have hcap:=hz.cap
 have hp:=Ch.refl (fun _=>False) w
 have lt_hz:=hz.lt
 refine bt (fun c1=>?_) (fun c1=>?_)
 ·exact⟨none,congrArg Value.tuple (rz (rfl) (congrArg (Value.int .i64) (by rw [Dg.l5 (by omega)]))),fun h=>absurd h (by rw [Dg.l5 (by omega)];omega),hp⟩
 ·have hl26:l.length=26:=by omega
  have hnO:=Dg.nOf_eq hw hl26
  refine⟨by omega,?_⟩
  obtain⟨p2,ha2,hz2,hc2⟩:=hz.u32 (by omega)
  refine ak p2 ha2 ?_
  have hz:=hz.pu (Pu.aI _)
  refine⟨_,hc2 8 (by omega),⟨by omega,?_⟩⟩
  obtain⟨p3,ha3,hz3,hc3⟩:=hz.u32 (by omega)
  refine ak p3 ha3 ⟨_,hc3 9 (by omega),?_⟩
  rintro n e_n
  obtain rfl:n=Dg.nOf l:=e_n.trans (by exact hnO.1)
  refine⟨by omega,⟨by omega,?_⟩⟩
  rintro x23A e_x23A x23N e_x23N x23C e_x23C
  have r_x23A:=Rd.cut (lo:=0) (hi:=(Int.toNat 8)) hz e_x23A e_x23N e_x23C (by omega) (by omega) (by omega)
  refine⟨by omega,?_⟩
  obtain⟨p4,ha4,hz4,hc4⟩:=r_x23A.u32 (by omega)
  refine ak p4 ha4 ⟨_,_,_,_,_,_,_,_,⟨hc4 0 (by omega),hc4 1 (by omega),hc4 2 (by omega),hc4 3 (by omega),hc4 4 (by omega),hc4 5 (by omega),hc4 6 (by omega),hc4 7 (by omega)⟩,?_⟩
  have hp:=Ch.drew hp
  refine mkd fun gv wv m_gv=>?_
  have lo_gv:=m_gv.lo hp
  have b_gv:=m_gv.blk
  refine⟨_,?_,fun _ x43 wv1 h=>h⟩
  refine⟨bXU [9] [] wv.drew (fun _=>False),?_⟩
  refine aB (fun c5=>?_) (fun c5=>?_)
  ·refine bk ?_
   have hp:=Ch.drew (Ch.made hp m_gv)
   exact⟨none,congrArg Value.tuple (rz (rfl) (congrArg (Value.int .i64) (by rw [Dg.gj hl26 (.inl c5)]))),fun h=>absurd h (by rw [Dg.gj hl26 (.inl c5)];omega),hp⟩
  ·refine aB (fun c6=>?_) (fun c6=>?_)
   ·have b_gv:=Blk.drew b_gv
    refine⟨.inr ⟨by decide,bX.ld b_gv (fun h=>h) _⟩,_,_,_,_,_,_,_,_,⟨b_gv.at2 rfl,b_gv.at2 rfl,b_gv.at2 rfl,b_gv.at2 rfl,b_gv.at2 rfl,b_gv.at2 rfl,b_gv.at2 rfl,b_gv.at2 rfl⟩,?_⟩
    refine Calls.mono (Dd) ?_
    rintro e wv1 ⟨_,rfl,rfl,q_wv1⟩
    refine⟨_,_,_,_,_,_,_,_,rfl,?_⟩
    refine bXU.cF q_wv1 (by decide) ?_
    refine bn (fun c7=>?_) (fun c7=>?_)
    ·have hst:Dg.kW l≠S8.first:=by intro h;simp [Dg.kW,S8.first]at h;simp [bh,eqL,kI,S8.first,h]at c7
     have hp:=Ch.pu (Ch.drew (Ch.made hp m_gv)) q_wv1
     exact⟨none,congrArg Value.tuple (rz (rfl) (congrArg (Value.int .i64) (by rw [Dg.gj hl26 (.inr ⟨c6,hst⟩)]))),fun h=>absurd h (by rw [Dg.gj hl26 (.inr ⟨c6,hst⟩)];omega),hp⟩
    ·have hst:Dg.kW l=S8.first:=by simp [bh,eqL,kI,S8.first]at c7;simp [Dg.kW,S8.first,c7]
     have hg:¬(Dg.nOf l>36028797018963968∨(Dg.nOf l<16∧Dg.kW l≠S8.first)):=by rintro(h | h);exact c5 h;exact h.2 hst
     rintro waits e_waits
     obtain rfl:waits=Dg.nOf l % 16:=e_waits.trans (by rw [Int.tmod_eq_emod_of_nonneg hnO.2.1,ah (by omega)])
     refine⟨by(simp only [IntKind.wrap_i64];omega),?_⟩
     have hz:=((hz.pu m_gv.pu).pu (Pu.aI _)).pu q_wv1
     rintro x50A e_x50A x50N e_x50N x50C e_x50C
     have r_x50A:=Rd.from_ (lo:=(Int.toNat (i64.wrap (10+(Dg.nOf l % 16))))) hz e_x50A e_x50N e_x50C (by(rw [Dg.lo_eq];omega)) (by have:=hz.cap;omega)
     have hp:=Ch.pu (Ch.drew (Ch.made hp m_gv)) q_wv1
     have b_gv:=Pu.blk q_wv1 b_gv
     refine⟨fun mz x52 W=>mz=(x50N - x52).toNat∧(0≤x52∧x52≤x50N)∧(∀(i:Nat)(x:U32),i<x52.toNat→(l.drop (10+(Dg.nOf l % 16).toNat))[i]? =some x→x.v=0)∧Ch (fun _=>False) w W∧Rd W Z wordsA wordsN wordsC l∧Blk W gv #[(.int .u32 ((((l.drop 0).take ((Int.toNat 8) - 0)).getD 0 ⟨0⟩).v)),(.int .u32 ((((l.drop 0).take ((Int.toNat 8) - 0)).getD 1 ⟨0⟩).v)),(.int .u32 ((((l.drop 0).take ((Int.toNat 8) - 0)).getD 2 ⟨0⟩).v)),(.int .u32 ((((l.drop 0).take ((Int.toNat 8) - 0)).getD 3 ⟨0⟩).v)),(.int .u32 ((((l.drop 0).take ((Int.toNat 8) - 0)).getD 4 ⟨0⟩).v)),(.int .u32 ((((l.drop 0).take ((Int.toNat 8) - 0)).getD 5 ⟨0⟩).v)),(.int .u32 ((((l.drop 0).take ((Int.toNat 8) - 0)).getD 6 ⟨0⟩).v)),(.int .u32 ((((l.drop 0).take ((Int.toNat 8) - 0)).getD 7 ⟨0⟩).v)),(.int .i64 (i64.wrap (Dg.nOf l))),(.slice none 0 0)] 178∧Rd W Z x50A x50N x50C (l.drop (Int.toNat (i64.wrap (10+(Dg.nOf l % 16))))),⟨_,rfl,(by omega),(by intro i x h;omega),hp,hz,b_gv,r_x50A⟩,?_⟩
     rintro _ _ x52 wv2 ⟨rfl,h0,hq,hp,hz,b_gv,r_x50A⟩
     refine aB (fun c8=>?_) (fun c8=>?_)
     ·obtain⟨p9,x9,ha9,hx9,hz9,hc9⟩:=r_x50A.ld (i:=x52) (by omega) (by omega)
      refine⟨by constructor<;>omega,ak p9 ha9 ⟨_,hc9 0 (by decide),?_⟩⟩
      refine bt (fun c10=>?_) (fun c10=>?_)
      ·exact⟨none,congrArg Value.tuple (rz (rfl) (congrArg (Value.int .i64) (by rw [Dg.lo_eq]at hx9;rw [Dg.cZ hl26 hg hx9 c10]))),fun h=>absurd h (by rw [Dg.cZ hl26 hg (Dg.lo_eq▸hx9) c10];omega),hp⟩
      ·exact⟨_,by rw [IntKind.wrap_i64];omega,rfl,by rw [IntKind.wrap_i64];omega,by rw [ah (by omega)];intro i x hi hx;by_cases he:i=x52.toNat;(subst he;(rw [Dg.lo_eq]at hx9;rw [hx]at hx9;injection hx9 with e;rw [e];simpa using c10));exact hq i x (by omega) hx,hp,hz,b_gv,r_x50A⟩
     ·have hz9:=hp
      have hgw:gv<wv2.heap.size:=b_gv.lt
      refine⟨by(simp only [IntKind.wrap_i64];omega),⟨by(simp only [IntKind.wrap_i64];omega),⟨by(simp only [IntKind.wrap_i64];omega),?_⟩⟩⟩
      rintro x65A e_x65A x65N e_x65N x65C e_x65C
      have r_x65A:=Rd.cut (lo:=10) (hi:=(Int.toNat (i64.wrap (10+(Dg.nOf l % 16))))) hz e_x65A e_x65N e_x65C (by(rw [Dg.lo_eq];omega)) (by(rw [Dg.lo_eq];omega)) (by omega)
      refine mq o8 r_x65A (by have:= @Dg.lo_eq l;omega) (by have:= @Dg.lo_eq l;omega) fun A_wv3 c_wv3 wv3 o_wv3 q_wv3=>?_
      have b_gv:=Pu.blk q_wv3 b_gv
      refine aM b_gv (by simp) fun wv4 s_wv4=>?_
      have b_gv:Blk wv4 gv #[(.int .u32 ((((l.drop 0).take ((Int.toNat 8) - 0)).getD 0 ⟨0⟩).v)),(.int .u32 ((((l.drop 0).take ((Int.toNat 8) - 0)).getD 1 ⟨0⟩).v)),(.int .u32 ((((l.drop 0).take ((Int.toNat 8) - 0)).getD 2 ⟨0⟩).v)),(.int .u32 ((((l.drop 0).take ((Int.toNat 8) - 0)).getD 3 ⟨0⟩).v)),(.int .u32 ((((l.drop 0).take ((Int.toNat 8) - 0)).getD 4 ⟨0⟩).v)),(.int .u32 ((((l.drop 0).take ((Int.toNat 8) - 0)).getD 5 ⟨0⟩).v)),(.int .u32 ((((l.drop 0).take ((Int.toNat 8) - 0)).getD 6 ⟨0⟩).v)),(.int .u32 ((((l.drop 0).take ((Int.toNat 8) - 0)).getD 7 ⟨0⟩).v)),(.int .i64 (i64.wrap (Dg.nOf l))),(.slice A_wv3 x65N c_wv3)] _:=s_wv4.blk.cast (by kernel_rfl)
      have o_wv3:=o_wv3.ch s_wv4.ch (fun k hx e=>absurd hx.1 (by omega))
      have hp:=Ch.call (Ch.pu hp q_wv3) s_wv4.ch (by exact fun k e=>.inr (e▸lo_gv))
      exact⟨_,congrArg Value.tuple (rz (rfl) (congrArg (Value.int .i64) (by rw [(Dg.pX hl26 hg (fun i x hx=>hq i x (by have:=(List.getElem?_eq_some_iff.1 hx).1;rw [List.length_drop]at this;have:= @Dg.lo_eq l;omega) hx))]))),fun _=>⟨gv,⟨fun k=>(wv2.heap.size≤k∧k<wv3.heap.size)∧k<wv4.heap.size,A_wv3,x65N,c_wv3⟩,rfl,⟨⟨_,Blk.cast b_gv (by simp [Dg.load,Dg.kW];have:=hnO.2;exact(ah (x:=Dg.nOf l) (by omega)).symm)⟩,by have h9:=(o_wv3).rd;have h8:= @Dg.lo_eq l;have e:Dg.load l=⟨Dg.kW l,Dg.nOf l,(l.drop 10).take (Int.toNat (i64.wrap (10+Dg.nOf l % 16)) - 10)⟩:=(by rw [h8,Nat.add_sub_cancel_left];rfl);rw [e];exact h9,by intro h;exact absurd h.1.1 (by have:=m_gv.num;have:=hz9.size;omega)⟩,fun k hk=>hk.elim (fun e=>by rw [e];exact lo_gv) (fun h=>by have:=hz9.size;have:=h.1.1;omega)⟩,hp⟩
   ·have hg:¬(Dg.nOf l>36028797018963968∨(Dg.nOf l<16∧Dg.kW l≠S8.first)):=by rintro(h | h);exact c5 h;exact c6 h.1
    refine eQ ?_
    rintro waits e_waits
    obtain rfl:waits=Dg.nOf l % 16:=e_waits.trans (by rw [Int.tmod_eq_emod_of_nonneg hnO.2.1,ah (by omega)])
    refine⟨by(simp only [IntKind.wrap_i64];omega),?_⟩
    have hz:=(hz.pu m_gv.pu).pu (Pu.aI _)
    rintro x50A e_x50A x50N e_x50N x50C e_x50C
    have r_x50A:=Rd.from_ (lo:=(Int.toNat (i64.wrap (10+(Dg.nOf l % 16))))) hz e_x50A e_x50N e_x50C (by(rw [Dg.lo_eq];omega)) (by have:=hz.cap;omega)
    have hp:=Ch.drew (Ch.made hp m_gv)
    have b_gv:=Blk.drew b_gv
    refine⟨fun mz x52 W=>mz=(x50N - x52).toNat∧(0≤x52∧x52≤x50N)∧(∀(i:Nat)(x:U32),i<x52.toNat→(l.drop (10+(Dg.nOf l % 16).toNat))[i]? =some x→x.v=0)∧Ch (fun _=>False) w W∧Rd W Z wordsA wordsN wordsC l∧Blk W gv #[(.int .u32 ((((l.drop 0).take ((Int.toNat 8) - 0)).getD 0 ⟨0⟩).v)),(.int .u32 ((((l.drop 0).take ((Int.toNat 8) - 0)).getD 1 ⟨0⟩).v)),(.int .u32 ((((l.drop 0).take ((Int.toNat 8) - 0)).getD 2 ⟨0⟩).v)),(.int .u32 ((((l.drop 0).take ((Int.toNat 8) - 0)).getD 3 ⟨0⟩).v)),(.int .u32 ((((l.drop 0).take ((Int.toNat 8) - 0)).getD 4 ⟨0⟩).v)),(.int .u32 ((((l.drop 0).take ((Int.toNat 8) - 0)).getD 5 ⟨0⟩).v)),(.int .u32 ((((l.drop 0).take ((Int.toNat 8) - 0)).getD 6 ⟨0⟩).v)),(.int .u32 ((((l.drop 0).take ((Int.toNat 8) - 0)).getD 7 ⟨0⟩).v)),(.int .i64 (i64.wrap (Dg.nOf l))),(.slice none 0 0)] 178∧Rd W Z x50A x50N x50C (l.drop (Int.toNat (i64.wrap (10+(Dg.nOf l % 16))))),⟨_,rfl,(by omega),(by intro i x h;omega),hp,hz,b_gv,r_x50A⟩,?_⟩
    rintro _ _ x52 wv2 ⟨rfl,h0,hq,hp,hz,b_gv,r_x50A⟩
    refine aB (fun c11=>?_) (fun c11=>?_)
    ·obtain⟨p12,x12,ha12,hx12,hz12,hc12⟩:=r_x50A.ld (i:=x52) (by omega) (by omega)
     refine⟨by constructor<;>omega,ak p12 ha12 ⟨_,hc12 0 (by decide),?_⟩⟩
     refine bt (fun c13=>?_) (fun c13=>?_)
     ·exact⟨none,congrArg Value.tuple (rz (rfl) (congrArg (Value.int .i64) (by rw [Dg.lo_eq]at hx12;rw [Dg.cZ hl26 hg hx12 c13]))),fun h=>absurd h (by rw [Dg.cZ hl26 hg (Dg.lo_eq▸hx12) c13];omega),hp⟩
     ·exact⟨_,by rw [IntKind.wrap_i64];omega,rfl,by rw [IntKind.wrap_i64];omega,by rw [ah (by omega)];intro i x hi hx;by_cases he:i=x52.toNat;(subst he;(rw [Dg.lo_eq]at hx12;rw [hx]at hx12;injection hx12 with e;rw [e];simpa using c13));exact hq i x (by omega) hx,hp,hz,b_gv,r_x50A⟩
    ·have hz9:=hp
     have hgw:gv<wv2.heap.size:=b_gv.lt
     refine⟨by(simp only [IntKind.wrap_i64];omega),⟨by(simp only [IntKind.wrap_i64];omega),⟨by(simp only [IntKind.wrap_i64];omega),?_⟩⟩⟩
     rintro x65A e_x65A x65N e_x65N x65C e_x65C
     have r_x65A:=Rd.cut (lo:=10) (hi:=(Int.toNat (i64.wrap (10+(Dg.nOf l % 16))))) hz e_x65A e_x65N e_x65C (by(rw [Dg.lo_eq];omega)) (by(rw [Dg.lo_eq];omega)) (by omega)
     refine mq o8 r_x65A (by have:= @Dg.lo_eq l;omega) (by have:= @Dg.lo_eq l;omega) fun A_wv3 c_wv3 wv3 o_wv3 q_wv3=>?_
     have b_gv:=Pu.blk q_wv3 b_gv
     refine aM b_gv (by simp) fun wv4 s_wv4=>?_
     have b_gv:Blk wv4 gv #[(.int .u32 ((((l.drop 0).take ((Int.toNat 8) - 0)).getD 0 ⟨0⟩).v)),(.int .u32 ((((l.drop 0).take ((Int.toNat 8) - 0)).getD 1 ⟨0⟩).v)),(.int .u32 ((((l.drop 0).take ((Int.toNat 8) - 0)).getD 2 ⟨0⟩).v)),(.int .u32 ((((l.drop 0).take ((Int.toNat 8) - 0)).getD 3 ⟨0⟩).v)),(.int .u32 ((((l.drop 0).take ((Int.toNat 8) - 0)).getD 4 ⟨0⟩).v)),(.int .u32 ((((l.drop 0).take ((Int.toNat 8) - 0)).getD 5 ⟨0⟩).v)),(.int .u32 ((((l.drop 0).take ((Int.toNat 8) - 0)).getD 6 ⟨0⟩).v)),(.int .u32 ((((l.drop 0).take ((Int.toNat 8) - 0)).getD 7 ⟨0⟩).v)),(.int .i64 (i64.wrap (Dg.nOf l))),(.slice A_wv3 x65N c_wv3)] _:=s_wv4.blk.cast (by kernel_rfl)
     have o_wv3:=o_wv3.ch s_wv4.ch (fun k hx e=>absurd hx.1 (by omega))
     have hp:=Ch.call (Ch.pu hp q_wv3) s_wv4.ch (by exact fun k e=>.inr (e▸lo_gv))
     exact⟨_,congrArg Value.tuple (rz (rfl) (congrArg (Value.int .i64) (by rw [(Dg.pX hl26 hg (fun i x hx=>hq i x (by have:=(List.getElem?_eq_some_iff.1 hx).1;rw [List.length_drop]at this;have:= @Dg.lo_eq l;omega) hx))]))),fun _=>⟨gv,⟨fun k=>(wv2.heap.size≤k∧k<wv3.heap.size)∧k<wv4.heap.size,A_wv3,x65N,c_wv3⟩,rfl,⟨⟨_,Blk.cast b_gv (by simp [Dg.load,Dg.kW];have:=hnO.2;exact(ah (x:=Dg.nOf l) (by omega)).symm)⟩,by have h9:=(o_wv3).rd;have h8:= @Dg.lo_eq l;have e:Dg.load l=⟨Dg.kW l,Dg.nOf l,(l.drop 10).take (Int.toNat (i64.wrap (10+Dg.nOf l % 16)) - 10)⟩:=(by rw [h8,Nat.add_sub_cancel_left];rfl);rw [e];exact h9,by intro h;exact absurd h.1.1 (by have:=m_gv.num;have:=hz9.size;omega)⟩,fun k hk=>hk.elim (fun e=>by rw [e];exact lo_gv) (fun h=>by have:=hz9.size;have:=h.1.1;omega)⟩,hp⟩
end Go.Proofs.YtbjlecpmgocoeaaGreatDoor
end
section
set_option maxRecDepth 100000
set_option maxHeartbeats 1000000
namespace Go.Proofs.YtbjlecpmgocoeaaGreatDoor
open Go Go.RowKit V
open Go.IntKind (i64 u32 u64)
open Go.Proofs (Tryz.prog)
attribute [local grind=] Pd.cI Pd.bJ Pd.jk Pd.jE Pd.cX Pd.cu Pd.eE Pd.gg Pd.lQ
attribute [local grind .] Pd.Ok.ent
attribute [local grind→] Pd.Ok.dC
section
attribute [local grind=] DB.word
end
section
attribute [local grind=] DB.zero
end
section
attribute [local grind=] DB.is
end
section
attribute [local grind=] DB.of DB.is
end
section
attribute [local grind=] DB.alive DB.is
end
theorem gw {E:Pd} {m:Mem}(h:m.Wf)(p o:Int):0≤(E.on m).word p o∧(E.on m).word p o<4294967296:=by
 show 0≤m.jR true p o∧m.jR true p o<_
 unfold Mem.jR
 split
 ·exact h.1 _ _ _
 ·omega
section
attribute [local grind=] DB.fY Pd.mY
end
section
attribute [local grind=] DB.mN
end
theorem tO(D:DB)(p:Int) {n:Int}(h:0≤n):D.jn p (n+1)=D.jn p n+(if D.of n 4 (D.at_ p).owner then cr (D.fD p n) 1024 else 0):=by
 unfold DB.jn
 rw [show(n+1).toNat=n.toNat+1 by omega,List.range_succ,List.map_append,List.sum_append]
 simp only [List.map_cons,List.map_nil,List.sum_cons,List.sum_nil,Int.add_zero,show((n.toNat:Nat):Int)=n by omega]
structure yj(D:DB)(p:Int)(l:List I64)(n:Int):Prop where
 len:l.length=D.S
 val:∀q:Int,0≤q→q<(D.S:Int)→(l.getD q.toNat (I64.mk 0)).v=D.named p n q
theorem gG(D:DB)(p q:Int) {n:Int}(h:0≤n):D.named p (n+1) q=D.named p n q+(if D.word p n !=0 && aR (D.word p n)==q then 1 else 0):=dA h
theorem yj.zero(D:DB)(p:Int)(n:Nat)(h:n=D.S):yj D p (List.replicate n (I64.mk 0)) 0:=
 ⟨by simp [h],fun q h1 h2=>by rw [List.getD_eq_getElem?_getD,List.getElem?_replicate,if_pos (by omega)];rfl⟩
theorem yj.skip {D:DB} {p n:Int} {l:List I64}(h:yj D p l n)(h0:0≤n)(hw:D.word p n=0):yj D p l (n+1):=
 ⟨h.len,fun q h1 h2=>by rw [h.val q h1 h2,gG D p q h0,hw];simp⟩
theorem yj.put {D:DB} {p n:Int} {l:List I64}(h:yj D p l n)(h0:0≤n∧n<256)(hw:¬D.word p n=0)(hp:0≤aR (D.word p n)∧aR (D.word p n)<(D.S:Int)):
 yj D p (l.set (aR (D.word p n)).toNat (I64.mk (i64.wrap ((l.getD (aR (D.word p n)).toNat (I64.mk 0)).v+1)))) (n+1):=by
 refine⟨by simp [h.len],fun q h1 h2=>?_⟩
 have hr:=mh (f:=fun i=>D.word p i !=0 && aR (D.word p i)==aR (D.word p n)) h0.1
 have hr2:=gk (f:=fun i=>D.word p i !=0 && aR (D.word p i)==aR (D.word p n)) (n:=n)
 have hv:=h.val _ hp.1 hp.2
 rw [gG D p q h0.1,List.getD_eq_getElem?_getD,List.getElem?_set]
 by_cases hq:aR (D.word p n)=q
 ·subst hq
  rw [if_pos rfl,if_pos (by rw [h.len];omega)]
  show i64.wrap _=_
  rw [hv]
  unfold DB.named at *
  rw [ah (by omega)]
  simp [hw]
 ·rw [if_neg (by omega),← List.getD_eq_getElem?_getD,h.val q h1 h2]
  simp [hq]
section
attribute [local grind=] DB.of DB.is
end
theorem u9 {E:Pd} {m:Mem}(h:m.Wf)(p lo:Int)(n:Nat):∀x∈(E.on m).some_ p lo n,0≤x.v∧x.v<4294967296:=by
 intro x hx
 obtain⟨i,_,rfl⟩:=List.mem_map.1 hx
 exact gw h p _
section
attribute [local grind=] DB.kU DB.u5
end
section
attribute [local grind=] DB.jc DB.is
end
end Go.Proofs.YtbjlecpmgocoeaaGreatDoor
end
section
namespace Go.Proofs.YtbjlecpmgocoeaaGreatDoor
open Go Go.RowKit V
open Go.IntKind (i64 u32 u64)
theorem z9(w:Int):0≤(bB w).aq∧(bB w).aq<64:=by
 unfold bB
 split
 ·rename_i h
  have h:=h.2
  unfold tJ Mp.err at h
  simp only [decide_eq_true_eq]at h
  have h:=h.1
  split at h
  ·assumption
  ·omega
 ·exact⟨by decide,by decide⟩
theorem oI {w:Int}(hw:0≤w):0≤aR w∧aR w<64:=by
 unfold aR
 split
 ·rename_i h
  unfold Bp at h
  simp only [decide_eq_true_eq]at h
  omega
 ·omega
theorem eqF(a b:Bool)(x y:Int):bh #[.bool a,.int .i64 x] #[.bool b,.int .i64 y]=((a==b) && (x==y)):=by
 simp [bh,eqL,kI]
theorem BF {f:Int→Bool} {a b:Int}(h:a≤b):cr f a≤cr f b:=by
 by_cases h0:a<0
 ·have e:cr f a=0:=by unfold cr;rw [show a.toNat=0 by omega];rfl
  rw [e];exact gk
 obtain⟨k,rfl⟩:∃k:Nat,b=a+k:=⟨(b - a).toNat,by omega⟩
 clear h
 induction k with
 | zero=>simp
 | succ k ih=>
  have:=dA (f:=f) (n:=a+(k:Int)) (by omega)
  rw [show a+((k+1:Nat):Int)=a+k+1 by omega,this]
  split<;>omega
theorem gu {f:Int→Bool} {n:Int}(h:∀x,0≤x→x<n→f x=false):cr f n=0:=by
 unfold cr
 have:(List.range n.toNat).countP (fun(i:Nat)=>f (i:Int))=0:=by
  rw [List.countP_eq_zero]
  intro i hi
  have:=List.mem_range.1 hi
  rw [h _ (by omega) (by omega)];simp
 omega
theorem wc {f g:Int→Bool} {q:Int}:∀ {n:Nat},0≤q→f q=false→g q=true→(∀x,0≤x→x<(n:Int)→x≠q→g x=f x)→cr g n=cr f n+(if q<(n:Int)then 1 else 0)
 | 0,h0,_,_,_=>by rw [if_neg (by omega)];rfl
 | n+1,h0,hf,hg,h=>by
  have ih:=wc (n:=n) h0 hf hg fun x a b c=>h x a (by omega) c
  have e1:=dA (f:=f) (n:=(n:Int)) (by omega)
  have e2:=dA (f:=g) (n:=(n:Int)) (by omega)
  rw [show((n+1:Nat):Int)=(n:Int)+1 by omega,e1,e2,ih]
  by_cases hq:q=(n:Int)
  ·subst hq
   have a:¬(n:Int)<n:=by omega
   have b:(n:Int)<n+1:=by omega
   simp [hf,hg,b]
  ·rw [h _ (by omega) (by omega) (fun e=>hq e.symm)]
   by_cases h1:q<(n:Int)
   ·rw [if_pos h1,if_pos (show q<(n:Int)+1 by omega)];omega
   ·rw [if_neg h1,if_neg (show ¬q<(n:Int)+1 by omega)];omega
theorem AX {E:Pd} {i:Int}(h:0≤i∧i<(E.n:Int)):E.aj.take i.toNat++ [E.ent i.toNat]=E.aj.take (i+1).toNat:=by
 rw [show(i+1).toNat=i.toNat+1 by omega,List.take_add_one,Pd.qe (by omega)];rfl
structure kP(D:DB)(p lo:Int)(n:Nat)(x:Int)(l:List U32):Prop where
 len:l.length=n
 val:∀i:Nat,(i:Int)<x→i<n→l[i]? =some ⟨D.word p (lo+(i:Int))⟩
theorem kP.init(D:DB)(p lo:Int)(n:Nat):kP D p lo n 0 (List.replicate n (U32.mk 0)):=⟨by simp,fun i h=>by omega⟩
theorem kP.next {D:DB} {p lo x:Int} {n:Nat} {l:List U32}(h:kP D p lo n x l)(h0:0≤x)(hx:x<(n:Int))(hl:0≤lo∧lo<1024∧n<1024):kP D p lo n (i64.wrap (x+1)) (l.set x.toNat ⟨D.word p (i64.wrap (lo+x))⟩):=by
 rw [ah (by omega),ah (by omega)]
 refine⟨by simp [h.len],fun i hi hn=>?_⟩
 rw [List.getElem?_set]
 by_cases hix:x.toNat=i
 ·rw [if_pos hix,if_pos (by rw [h.len];omega),show(i:Int)=x by omega]
 ·rw [if_neg hix];exact h.val i (by omega) hn
theorem kP.done {D:DB} {p lo x:Int} {n:Nat} {l:List U32}(h:kP D p lo n x l)(hx:(n:Int)≤x):D.some_ p lo n=l:=by
 apply List.ext_getElem?
 intro i
 by_cases hi:i<n
 ·rw [h.val i (by omega) hi]
  simp [DB.some_,hi]
 ·rw [List.getElem?_eq_none (by simp [DB.some_];omega),List.getElem?_eq_none (by rw [h.len];omega)]
namespace DB
def bW(D:DB)(p:Int):Int:=if D.is (D.at_ p).owner 1 then(D.at_ p).owner else -1
def pgs(D:DB)(t o:Int)(n:Nat):List I64:=((List.range n).filter fun(q:Nat)=>(D.at_ (q:Int)).typ==t && (D.at_ (q:Int)).owner==o).map fun(q:Nat)=>⟨(q:Int)⟩
theorem vt(D:DB)(t o:Int) {i:Int}(h:0≤i∧i<9000000000000000000):D.pgs t o (i64.wrap (i+1)).toNat=if((D.at_ i).typ==t && (D.at_ i).owner==o)=true then D.pgs t o i.toNat++ [⟨i⟩]else D.pgs t o i.toNat:=by
 rw [ah (by omega),show(i+1).toNat=i.toNat+1 by omega]
 unfold pgs
 rw [List.range_succ,List.filter_append,List.map_append]
 have e:((i.toNat:Nat):Int)=i:=by omega
 split<;>rename_i hc<;>simp [e,hc]
theorem jj(D:DB)(t o:Int)(n:Nat):(D.pgs t o n).length≤n:=by
 unfold pgs
 rw [List.length_map]
 have:=List.length_filter_le (fun(q:Nat)=>(D.at_ (q:Int)).typ==t && (D.at_ (q:Int)).owner==o) (List.range n)
 rwa [List.length_range]at this
theorem yH {D:DB} {t o:Int} {x:I64}:x∈D.pgs t o D.S↔D.of x.v t o=true:=by
 unfold pgs of is has
 rw [List.mem_map]
 constructor
 ·rintro⟨q,hq,rfl⟩
  rw [List.mem_filter,List.mem_range]at hq
  have h2:=hq.2
  simp only [Bool.and_eq_true]at h2 ⊢
  exact⟨⟨by simp;exact hq.1,h2.1⟩,h2.2⟩
 ·intro h
  simp only [Bool.and_eq_true,decide_eq_true_eq]at h
  refine⟨x.v.toNat,?_,?_⟩
  ·rw [List.mem_filter,List.mem_range,show((x.v.toNat:Nat):Int)=x.v by omega]
   exact⟨by omega,by rw [Bool.and_eq_true];exact⟨h.1.2,h.2⟩⟩
  ·rw [show((x.v.toNat:Nat):Int)=x.v by omega]
theorem tK(D:DB)(t o:Int):((D.pgs t o D.S).length:Int)=cr (fun q=>D.of q t o) D.S:=by
 unfold pgs cr
 rw [List.length_map,← List.countP_eq_length_filter,Int.toNat_natCast]
 congr 1
 apply List.countP_congr
 intro q hq
 have:=List.mem_range.1 hq
 simp only [of,is,has]
 rw [show decide (0≤(q:Int)∧(q:Int)<(D.S:Int))=true by simp;omega,Bool.true_and]
theorem FH {D:DB} {t o:Int}(h:((D.pgs t o D.S).length:Int)=1)(x:Int):D.of x t o=(x==((D.pgs t o D.S).getD (Int.toNat 0) (I64.mk 0)).v):=by
 have hx:=yH (D:=D) (t:=t) (o:=o) (x:=⟨x⟩)
 obtain⟨y,hy⟩:=List.length_eq_one_iff.1 (show(D.pgs t o D.S).length=1 by omega)
 rw [hy]at hx ⊢
 rw [List.mem_singleton]at hx
 rw [Bool.eq_iff_iff,← hx,beq_iff_eq]
 show I64.mk x=y↔x=y.v
 cases y
 simp
theorem first_eq {D:DB} {p:Int}(hS:D.S≤64):(((((D.pgs 3 p D.S).length:Nat):Int)==1) && (D.word p 0==u32.wrap ((D.pgs 3 p D.S).getD (Int.toNat 0) (I64.mk 0)).v))=(cr (fun q=>D.of q 3 p) D.S==1 && D.of (D.word p 0) 3 p):=by
 rw [tK]
 by_cases h:cr (fun q=>D.of q 3 p) D.S=1
 ·have h1:((D.pgs 3 p D.S).length:Int)=1:=by rw [tK];exact h
  have h2:=FH h1
  have h3:=h2 ((D.pgs 3 p D.S).getD (Int.toNat 0) (I64.mk 0)).v
  rw [beq_self_eq_true]at h3
  unfold of is has at h3
  simp only [Bool.and_eq_true,decide_eq_true_eq]at h3
  rw [h2,bE (by omega)]
 ·rw [show(cr (fun q=>D.of q 3 p) D.S==1)=false by simpa using h];rfl
theorem FO {D:DB} {t o q:Int} {l:List I64}(hl:l=D.pgs t o D.S)(h:∀j:Nat,(j:Int)<(l.length:Int)→¬(l.getD j (I64.mk 0)).v=q):D.of q t o=false:=by
 cases hc:D.of q t o
 ·rfl
 ·exfalso
  have hm:=yH (x:=⟨q⟩).2 hc
  rw [← hl]at hm
  obtain⟨j,hj,he⟩:=List.mem_iff_getElem.1 hm
  exact h j (by omega) (by rw [List.getD_eq_getElem?_getD,List.getElem?_eq_getElem hj,he];rfl)
theorem HD {D:DB} {t o q x:Int} {l:List I64}(hl:l=D.pgs t o D.S)(hx:0≤x∧x<(l.length:Int))(h:(l.getD x.toNat (I64.mk 0)).v=q):D.of q t o=true:=by
 have hi:x.toNat<l.length:=by omega
 rw [List.getD_eq_getElem?_getD,List.getElem?_eq_getElem hi]at h
 have hm:l[x.toNat]∈l:=List.getElem_mem hi
 have hm2:l[x.toNat]∈D.pgs t o D.S:=hl▸hm
 rw [← h]
 exact yH.1 hm2
theorem wg(D:DB)(p:Int):D.clause 1 p=((D.at_ p).typ !=1 || (D.at_ p).owner==p):=rfl
theorem mj(D:DB)(p:Int):D.clause 2 p=((D.at_ p).typ !=0 || D.zero p 0 1024):=rfl
theorem we(D:DB)(p:Int):D.clause 3 p=((D.at_ p).typ==1 || ((D.at_ p).typ==0 || D.is (D.at_ p).owner 1)):=rfl
theorem qn(D:DB)(p:Int):D.clause 4 p=((D.at_ p).typ !=1 || (D.at_ p).refs==((D.dJ p D.S).length:Int)):=rfl
theorem gP(D:DB)(p:Int):D.clause 5 p=((D.at_ p).typ !=1 || D.fY p):=rfl
theorem j1(D:DB)(p:Int):D.clause 6 p=((D.at_ p).typ !=1 || D.kU p):=rfl
theorem mi(D:DB)(p:Int):D.clause 7 p=((D.at_ p).typ !=1 || D.mN p):=rfl
theorem dP(D:DB)(p:Int):D.clause 8 p=((D.at_ p).typ !=3 || (!D.alive p || D.fg p)):=rfl
theorem eh(D:DB)(p:Int):D.clause 9 p=((D.at_ p).typ !=4 || (!D.alive p || D.kJ p)):=rfl
theorem eJ(D:DB)(p:Int):D.clause 10 p=((D.at_ p).typ !=5 || (!D.alive p || D.o0 p)):=rfl
theorem iR(D:DB)(p:Int):D.clause 11 p=((D.at_ p).typ !=2 || D.jc p):=rfl
theorem kx(D:DB)(p:Int):D.clause 12 p=((D.at_ p).typ !=6 || D.zero p 0 1024):=rfl
structure Nms(D:DB)(p x count:Int)(l:List Bl):Prop where
 len:l.length=64
 ok:ia (D.gH p) 0 x=true
 once:∀q:Int,0≤q→q<64→D.named p x q≤1∧(l.getD q.toNat (Bl.mk false)).v=(D.named p x q==1)
 cnt:count=cr (fun q=>D.named p x q==1) D.S
theorem Nms.init(D:DB)(p:Int):Nms D p 0 0 (List.replicate (Int.toNat 64) (Bl.mk false)):=by
 refine⟨by simp,iS (Int.le_refl _),fun q h1 h2=>⟨by show(0:Int)≤1;omega,?_⟩,?_⟩
 ·rw [List.getD_eq_getElem?_getD,List.getElem?_replicate,if_pos (by omega)];rfl
 ·exact(gu (f:=fun q=>D.named p 0 q==1) fun x _ _=>rfl).symm
theorem vC {D:DB} {p x q:Int}(hx:0≤x)(hw:D.word p x=0):D.named p (x+1) q=D.named p x q:=by
 rw [gG D p q hx,hw];simp
theorem Nms.skip {D:DB} {p x c:Int} {l:List Bl}(h:Nms D p x c l)(hx:0≤x)(hw:D.word p x=0):Nms D p (x+1) c l:=by
 refine⟨h.len,fm h.ok (by unfold gH;rw [hw];rfl) rfl,fun q h1 h2=>by rw [vC hx hw];exact h.once q h1 h2,?_⟩
 rw [h.cnt]
 exact qm fun q _ _=>by rw [vC hx hw]
theorem Nms.put {D:DB} {p x c:Int} {l:List Bl}(h:Nms D p x c l)(hx:0≤x)(hw0:0≤D.word p x)(hw:¬D.word p x=0)(he:pE (D.word p x)=0)(hl:(l.getD (aR (D.word p x)).toNat (Bl.mk false)).v=false)(ho:D.of (aR (D.word p x)) 4 (D.at_ p).owner=true):
 Nms D p (x+1) (c+1) (l.set (aR (D.word p x)).toNat (Bl.mk true)):=by
 have hp:=oI hw0
 have ho2:0≤aR (D.word p x)∧aR (D.word p x)<(D.S:Int):=by
  unfold of is has at ho
  simp only [Bool.and_eq_true,decide_eq_true_eq]at ho
  exact ho.1.1
 have step:∀q,D.named p (x+1) q=D.named p x q+(if aR (D.word p x)=q then 1 else 0):=fun q=>by
  rw [gG D p q hx]
  by_cases hq:aR (D.word p x)=q<;>simp [hq,hw]
 have h1:=h.once _ hp.1 hp.2
 rw [hl]at h1
 have h0:D.named p x (aR (D.word p x))=0:=by
  have hge:0≤D.named p x (aR (D.word p x)):=gk
  have h2:=h1.2
  have:¬D.named p x (aR (D.word p x))=1:=by simpa using h2.symm
  omega
 refine⟨by simp [h.len],fm h.ok (by unfold gH;rw [he,ho];simp) rfl,fun q a b=>?_,?_⟩
 ·rw [step,List.getD_eq_getElem?_getD,List.getElem?_set]
  by_cases hq:aR (D.word p x)=q
  ·subst hq
   rw [if_pos rfl,if_pos rfl,if_pos (by rw [h.len];omega),h0]
   exact⟨by omega,rfl⟩
  ·rw [if_neg hq,if_neg (by omega),← List.getD_eq_getElem?_getD,Int.add_zero]
   exact h.once q a b
 ·rw [wc (f:=fun q=>D.named p x q==1) (q:=aR (D.word p x)) ho2.1 (by rw [h0];rfl) (by rw [step,h0,if_pos rfl];rfl) (fun y _ _ hy=>by rw [step,if_neg (fun e=>hy e.symm),Int.add_zero]),if_pos ho2.2,← h.cnt]
theorem Nms.bad {D:DB} {p x c:Int} {l:List Bl}(h:Nms D p x c l)(hx:0≤x∧x<256)(hw0:0≤D.word p x)(hw:¬D.word p x=0)(hb:pE (D.word p x)=0→D.of (aR (D.word p x)) 4 (D.at_ p).owner=true→(l.getD (aR (D.word p x)).toNat (Bl.mk false)).v=true):D.fg p=false:=by
 unfold fg
 by_cases hn:D.gH p x=true
 ·unfold gH at hn
  simp only [Bool.or_eq_true,beq_iff_eq,hw,false_or,Bool.and_eq_true]at hn
  have hp:=oI hw0
  have h1:=h.once _ hp.1 hp.2
  rw [hb hn.1 hn.2]at h1
  have h1:D.named p x (aR (D.word p x))=1:=by simpa using h1.2.symm
  have h2:D.named p (x+1) (aR (D.word p x))=2:=by
   rw [gG D p _ hx.1,h1];simp [hw]
  have h3:D.named p (x+1) (aR (D.word p x))≤D.named p 256 (aR (D.word p x)):=BF (by omega)
  have ho:=hn.2
  unfold of is has at ho
  simp only [Bool.and_eq_true,decide_eq_true_eq]at ho
  rw [cj (f:=fun q=>!(decide (D.named p 256 q>1) || (D.of q 4 (D.at_ p).owner && D.named p 256 q==0))) ho.1.1.1 ho.1.1.2 (by simp;omega)]
  simp
 ·rw [cj (f:=D.gH p) hx.1 hx.2 (by simpa using hn)]
  simp
theorem Nms.done {D:DB} {p c:Int} {l:List Bl}(hS:D.S≤64)(h:Nms D p 256 c l)(hz:D.zero p 256 1024=true):D.fg p=(c==((D.pgs 4 (D.at_ p).owner D.S).length:Int)):=by
 have hsub:=v9 (f:=fun q=>D.named p 256 q==1) (g:=fun q=>D.of q 4 (D.at_ p).owner) (n:=(D.S:Int)) (by omega) fun q h1 h2 hq=>by
  have hq:D.named p 256 q=1:=by simpa using hq
  have:∃i,0≤i∧i<256∧(D.word p i !=0 && aR (D.word p i)==q)=true:=by
   apply Classical.byContradiction
   intro hn
   have:=gu (f:=fun i=>D.word p i !=0 && aR (D.word p i)==q) (n:=256) fun i a b=>by
    cases hc:(D.word p i !=0 && aR (D.word p i)==q)
    ·rfl
    ·exact absurd ⟨i,a,b,hc⟩ hn
   unfold named at hq
   omega
  obtain⟨i,a,b,hi⟩:=this
  have hk:=bV.1 h.ok i a b
  simp only [Bool.and_eq_true,bne_iff_ne,ne_eq,beq_iff_eq]at hi
  unfold gH at hk
  simp only [Bool.or_eq_true,beq_iff_eq,hi.1,false_or,Bool.and_eq_true]at hk
  rw [← hi.2];exact hk.2
 unfold fg
 rw [hz,h.ok,Bool.true_and,Bool.true_and,tK,h.cnt,Bool.eq_iff_iff,bV,beq_iff_eq]
 constructor
 ·intro hA
  refine Int.le_antisymm hsub.1 ?_
  refine(v9 (by omega) fun q a b hq=>?_).1
  have:=hA q a b
  simp only [hq,Bool.true_and,Bool.not_eq_true',Bool.or_eq_false_iff,decide_eq_false_iff_not,beq_eq_false_iff_ne]at this
  have hge:0≤D.named p 256 q:=gk
  simp only [beq_iff_eq]
  omega
 ·intro he q a b
  have h1:=(h.once q a (by omega)).1
  cases ho:D.of q 4 (D.at_ p).owner
  ·simp;omega
  ·have:=hsub.2 he q a b ho
   have:D.named p 256 q=1:=by simpa using this
   simp [this]
def iH(D:DB)(p:Int)(l:List I64)(x:Int):Int:=((l.take x.toNat).map fun q=>cr (D.fD p q.v) 1024).sum
theorem o6 {D:DB} {p:Int} {l:List I64} {x:Int}(h:0≤x∧x<(l.length:Int)):D.iH p l (x+1)=D.iH p l x+cr (D.fD p (l.getD x.toNat (I64.mk 0)).v) 1024:=by
 unfold iH
 have hx:x.toNat<l.length:=by omega
 rw [show(x+1).toNat=x.toNat+1 by omega,List.take_add_one,List.getElem?_eq_getElem hx,List.map_append,List.sum_append,List.getD_eq_getElem?_getD,List.getElem?_eq_getElem hx]
 simp
theorem r7 {D:DB} {p:Int} {l:List I64} {x:Int}(hx:0≤x):0≤D.iH p l x∧D.iH p l x≤1024*x:=by
 obtain⟨n,rfl⟩:=Int.eq_ofNat_of_zero_le hx
 induction n with
 | zero=>simp [iH]
 | succ n ih=>
  by_cases hn:n<l.length
  ·have h1:=o6 (D:=D) (p:=p) (l:=l) (x:=(n:Int)) ⟨by omega,by omega⟩
   have h2:=ih (by omega)
   have h3:=gk (f:=D.fD p (l.getD n (I64.mk 0)).v) (n:=1024)
   have h4:=mh (f:=D.fD p (l.getD n (I64.mk 0)).v) (n:=1024) (by omega)
   rw [Int.toNat_natCast]at h1
   rw [show((n+1:Nat):Int)=(n:Int)+1 by omega,h1]
   omega
  ·have e:D.iH p l ((n+1:Nat):Int)=D.iH p l (n:Int):=by
    unfold iH
    rw [List.take_of_length_le (by omega),List.take_of_length_le (by omega)]
   rw [e]
   have:=ih (by omega)
   omega
theorem sa {D:DB} {p:Int}:∀ {n:Nat},n≤D.S→D.jn p (n:Int)=((D.pgs 4 (D.at_ p).owner n).map fun q=>cr (D.fD p q.v) 1024).sum
 | 0,_=>rfl
 | n+1,h=>by
  have h1:=tO D p (n:=(n:Int)) (by omega)
  have h2:D.pgs 4 (D.at_ p).owner (n+1)=if((D.at_ (n:Int)).typ==4 && (D.at_ (n:Int)).owner==(D.at_ p).owner)=true then D.pgs 4 (D.at_ p).owner n++ [⟨(n:Int)⟩]else D.pgs 4 (D.at_ p).owner n:=by
   unfold pgs
   rw [List.range_succ,List.filter_append,List.map_append]
   split<;>rename_i hc<;>simp [hc]
  have h3:D.of (n:Int) 4 (D.at_ p).owner=((D.at_ (n:Int)).typ==4 && (D.at_ (n:Int)).owner==(D.at_ p).owner):=by
   unfold of is has
   rw [show decide (0≤(n:Int)∧(n:Int)<(D.S:Int))=true by simp;omega,Bool.true_and]
  rw [show((n+1:Nat):Int)=(n:Int)+1 by omega,h1,sa (by omega),h2,h3]
  split
  ·simp
  ·simp
theorem once_eq {D:DB} {p n x:Int}(hx:x=((D.pgs 4 (D.at_ p).owner D.S).length:Int))(h:n=D.iH p (D.pgs 4 (D.at_ p).owner D.S) x):D.o0 p=(n==1):=by
 unfold o0
 rw [sa (Nat.le_refl _),h,hx]
 unfold iH
 rw [Int.toNat_natCast,List.take_length]
end DB
end Go.Proofs.YtbjlecpmgocoeaaGreatDoor
end
section
namespace Go.Proofs.YtbjlecpmgocoeaaGreatDoor
open Go Go.RowKit V
open Go.IntKind (i64 u32 u64)
namespace DB
theorem Fk(D:DB)(p o v q x:Int):(D.wr p o v).word q x=if(q=p∧x=o)∧D.has p=true∧Mem.cY o=true then v else D.word q x:=by
 show(D.mem.write true p o v).jR true q x=_
 unfold Mem.write
 by_cases h:D.mem.has true p && Mem.cY o
 ·rw [if_pos h]
  simp only [Bool.and_eq_true]at h
  have hp:=Mem.cH h.1
  have ho:=Mem.gp h.2
  show(if(((D.mem.put true p.toNat o.toNat v).tick 1).has true q && Mem.cY x)=true then _ else _)=_
  rw [show((D.mem.put true p.toNat o.toNat v).tick 1).has true q=D.mem.has true q from rfl]
  by_cases hq:D.mem.has true q && Mem.cY x
  ·rw [if_pos hq]
   simp only [Bool.and_eq_true]at hq
   have hq1:=Mem.cH hq.1
   have hx1:=Mem.gp hq.2
   have hw:D.word q x=D.mem.pg true q.toNat x.toNat:=by show D.mem.jR true q x=_;unfold Mem.jR;rw [if_pos (by simp [hq])]
   rw [hw]
   show(if(true=true∧q.toNat=p.toNat)then(if x.toNat=o.toNat then v else D.mem.pg true p.toNat x.toNat)else D.mem.pg true q.toNat x.toNat)=_
   have hh:D.has p=true:=h.1
   by_cases h1:q=p
   ·subst h1
    by_cases h2:x=o
    ·subst h2;rw [if_pos ⟨rfl,rfl⟩,if_pos rfl,if_pos ⟨⟨rfl,rfl⟩,hh,h.2⟩]
    ·rw [if_pos ⟨rfl,rfl⟩,if_neg (by omega),if_neg (fun h=>h2 h.1.2)]
   ·rw [if_neg (by omega),if_neg (fun h=>h1 h.1.1)]
  ·rw [if_neg hq]
   have hw:D.word q x=0:=by show D.mem.jR true q x=_;unfold Mem.jR;rw [if_neg hq]
   rw [hw,if_neg]
   rintro⟨⟨rfl,rfl⟩,h3,h4⟩
   exact hq (by simp [h])
 ·rw [if_neg h,if_neg]
  ·rfl
  ·rintro⟨_,h3,h4⟩
   exact h (by rw [show D.mem.has true p=D.has p from rfl,h3,h4];rfl)
theorem mo {D:DB} {c:Int}(h1:1≤c)(h2:c≤13)(h:∀c',1≤c'→c'<c→D.bT c'=true):D.eZ (13 - c).toNat c=D.broken:=by
 obtain⟨n,rfl⟩:∃n:Nat,c=1+(n:Int):=⟨(c - 1).toNat,by omega⟩
 induction n with
 | zero=>rfl
 | succ n ih=>
  rw [← ih (by omega) (by omega) (fun c' a b=>h c' a (by omega)),show(13 - (1+(n:Int))).toNat=(13 - (1+((n+1:Nat):Int))).toNat+1 by omega]
  show _=if D.bT (1+(n:Int))then _ else _
  rw [if_pos (h _ (by omega) (by omega)),show 1+(n:Int)+1=1+((n+1:Nat):Int)by omega]
theorem sN {D:DB}(h:∀c,1≤c→c≤12→D.bT c=true):D.broken=(0,0):=by
 rw [← mo (c:=13) (by omega) (by omega) fun c a b=>h c a (by omega)];rfl
theorem BK {D:DB} {c p:Int}(hc:1≤c∧c≤12)(h:∀c',1≤c'→c'<c→D.bT c'=true)(hp:0≤p∧p<(D.S:Int))(hz:∀q,0≤q→q<p→D.clause c q=true)(hf:D.clause c p=false):D.broken=(c,p):=by
 have hz:ia (D.clause c) 0 p=true:=bV.2 hz
 rw [← mo (c:=c) hc.1 (by omega) h,show(13 - c).toNat=(12 - c).toNat+1 by omega,eZ,bT,cj hp.1 hp.2 hf,leastN_eq hz hf hp.1 (by omega)]
 rfl
theorem uU(m:Mem):∀(k:Nat),k≤m.S→∀(p o:Nat),p<k→(m.bu k).pg true p o=0
 | 0,_,p,o,h=>by omega
 | k+1,hk,p,o,h=>by
  show((m.bu k).zero true k).pg true p o=0
  unfold Mem.zero
  rw [if_pos (by unfold Mem.has Mem.cnt;simp;omega)]
  show(if true=true∧p=(k:Int).toNat then 0 else(m.bu k).pg true p o)=0
  by_cases h1:p=k
  ·rw [if_pos (by simp [h1])]
  ·rw [if_neg (by simp;omega)]
   exact uU m k (by omega) p o (by omega)
theorem Dv(m:Mem)(p o:Int):(DB.new m).word p o=0:=by
 show(m.bu m.S).jR true p o=0
 unfold Mem.jR
 split
 ·rename_i h
  simp only [Bool.and_eq_true]at h
  refine uU m m.S (Nat.le_refl _) _ _ ?_
  have:=Mem.dF h.1
  have e:(m.bu m.S).cnt true=m.S:=Mem.ja m m.S
  omega
 ·rfl
theorem CZ {D:DB} {p lo hi:Int}:D.zero p lo hi=true↔∀o,lo≤o→o<hi→D.word p o=0:=by
 unfold zero
 rw [bV]
 exact⟨fun h o a b=>by simpa using h o a b,fun h o a b=>by simpa using h o a b⟩
end DB
end Go.Proofs.YtbjlecpmgocoeaaGreatDoor
end
section
namespace Go.Proofs.YtbjlecpmgocoeaaGreatDoor
open Go Go.RowKit V
open Go.IntKind (i64 u32 u64)
def gR:List dx:= [dx.mk 1 0 1 0 0 none 0 0,dx.mk 8 0 0 0 3 none 0 0,dx.mk 2 2 4 0 0 none 0 0,dx.mk 7 1 3 0 513 none 0 0,dx.mk 2 3 5 0 0 none 0 0,dx.mk 7 2 5 0 775 none 0 0,dx.mk 2 4 5 0 0 none 0 0,dx.mk 7 2 6 0 1035 none 0 0,dx.mk 7 2 7 0 261 none 0 0,dx.mk 2 5 2 0 0 none 0 0,dx.mk 7 5 0 0 4096 none 0 0,dx.mk 2 6 6 0 0 none 0 0]
def y3:List Int:=(dgN [] 3).save
theorem oO {f:Int→Bool} {a:Int}:∀(m:Nat),0≤a→a<(m:Int)→f a=true→cr f m=cr (fun x=>f x && x !=a) m+1
 | 0,h0,h1,_=>by omega
 | m+1,h0,h1,hf=>by
  have e:((m+1:Nat):Int)=(m:Int)+1:=by omega
  rw [e,dA (by omega),dA (by omega)]
  by_cases ha:a=m
  ·have h2:cr (fun x=>f x && x !=a) m=cr f m:=qm fun x _ h3=>by rw [show(x !=a)=true by rw [bne_iff_ne];omega,Bool.and_true]
   rw [h2,← ha,hf]
   simp
  ·rw [oO m h0 (by omega) hf,show((m:Int) !=a)=true by rw [bne_iff_ne];omega,Bool.and_true]
   omega
theorem ql {f:Int→Bool} {n a:Int}(ha:0≤a∧a<n)(hf:f a=true)(h:∀x,0≤x→x<n→x≠a→f x=false):cr f n=1:=by
 obtain⟨m,rfl⟩:=Int.eq_ofNat_of_zero_le (show 0≤n by omega)
 rw [oO m ha.1 ha.2 hf,gu]
 ·rfl
 ·intro x h1 h2
  by_cases hx:x=a
  ·simp [hx]
  ·rw [h x h1 h2 hx];rfl
theorem v8 {f:Int→Bool} {n a b:Int}(ha:0≤a∧a<n)(hb:0≤b∧b<n)(hab:a≠b)(hf:f a=true)(hg:f b=true):cr f n>1:=by
 obtain⟨m,rfl⟩:=Int.eq_ofNat_of_zero_le (show 0≤n by omega)
 rw [oO m ha.1 ha.2 hf,oO (f:=fun x=>f x && x !=a) (a:=b) m hb.1 hb.2 (by simp [hg,Ne.symm hab])]
 have:=gk (f:=fun x=>(f x && x !=a) && x !=b) (n:=(m:Int))
 omega
theorem uk {i:Int}(h:0≤i∧i<12):0≤(gR.getD i.toNat ⟨0,0,0,0,0,none,0,0⟩).v∧(gR.getD i.toNat ⟨0,0,0,0,0,none,0,0⟩).v<4294967296:=by
 rcases(show i=0∨i=1∨i=2∨i=3∨i=4∨i=5∨i=6∨i=7∨i=8∨i=9∨i=10∨i=11 by omega)with rfl | rfl | rfl | rfl | rfl | rfl | rfl | rfl | rfl | rfl | rfl | rfl<;>simp [gR]
namespace DB
def eY(kk:List Int)(n:Nat):DB:=(gR.take n).foldl (fun D x=>D.act kk x.k x.a x.b x.c x.v) (DB.begun 7 1)
def final(kk:List Int)(D:DB):DB:=((D.wrs 0 11 (List.replicate 26 0)).wr 0 3 4660).act kk 5 0 2 0 0
def built(kk:List Int)(st:Int):DB:=
 if st>1 then((eY kk 12).final kk).act kk 5 0 3 0 0 else if st>0 then(eY kk 12).final kk else eY kk 12
theorem wk(kk:List Int) {i:Int}(h:0≤i∧i<12):eY kk (i64.wrap (i+1)).toNat=(eY kk i.toNat).act kk (gR.getD i.toNat ⟨0,0,0,0,0,none,0,0⟩).k (gR.getD i.toNat ⟨0,0,0,0,0,none,0,0⟩).a (gR.getD i.toNat ⟨0,0,0,0,0,none,0,0⟩).b (gR.getD i.toNat ⟨0,0,0,0,0,none,0,0⟩).c (gR.getD i.toNat ⟨0,0,0,0,0,none,0,0⟩).v:=by
 have hl:i.toNat<gR.length:=by show i.toNat<12;omega
 rw [ah (x:=i+1) (by omega),show(i+1).toNat=i.toNat+1 by omega]
 unfold eY
 rw [List.take_add_one,List.getElem?_eq_getElem hl,List.foldl_append,List.getD_eq_getElem?_getD,List.getElem?_eq_getElem hl]
 rfl
theorem yk {D:DB} {i:Int}(h:11≤i∧i<37):D.wrs 0 11 (List.replicate (i64.wrap (i+1) - 11).toNat 0)=(D.wrs 0 11 (List.replicate (i - 11).toNat 0)).wr 0 i 0:=by
 rw [ah (x:=i+1) (by omega),show(i+1 - 11).toNat=(i - 11).toNat+1 by omega,List.replicate_succ',oT,List.length_replicate]
 congr 1;omega
def Bw(D:DB)(f:Int→Int→Int):Prop:=D.mem.S=8∧∀p o,0≤p→p<8→0≤o→o<1024→D.word p o=f p o
def upd(f:Int→Int→Int)(p o v q x:Int):Int:=if q=p∧x=o then v else f q x
theorem Bw.mem {D D':DB} {f:Int→Int→Int}(h:Bw D f)(e:D'.mem=D.mem):Bw D' f:=by
 unfold Bw word at *
 rw [e];exact h
theorem Bw.wr {D:DB} {f:Int→Int→Int}(h:Bw D f) {p o v:Int}(hp:0≤p∧p<8)(ho:0≤o∧o<1024):Bw (D.wr p o v) (upd f p o v):=by
 refine⟨?_,fun q x a b c d=>?_⟩
 ·show(D.mem.write true p o v).S=8
  rw [Mem.jy];exact h.1
 ·rw [Fk,upd]
  have hh:D.has p=true:=by unfold has S;rw [h.1];simp;omega
  have hk:Mem.cY o=true:=by unfold Mem.cY;simp;omega
  by_cases hq:q=p∧x=o
  ·rw [if_pos ⟨hq,hh,hk⟩,if_pos hq]
  ·rw [if_neg (fun e=>hq e.1),if_neg hq];exact h.2 q x a b c d
theorem Bw.wrs {p:Int}(hp:0≤p∧p<8):∀(l:List Int) {D:DB} {f:Int→Int→Int} {o:Int},Bw D f→0≤o→o+l.length≤1024→Bw (D.wrs p o l) fun q x=>if q=p∧(o≤x∧x<o+l.length)then l.getD (x - o).toNat 0 else f q x
 | [],D,f,o,h,_,_=>by
  have e:(fun q x=>if q=p∧(o≤x∧x<o+(([]:List Int).length:Int))then([]:List Int).getD (x - o).toNat 0 else f q x)=f:=by
   funext q x;rw [if_neg];intro h;simp at h;omega
  rw [e];exact h
 | y::l,D,f,o,h,h0,hl=>by
  simp only [List.length_cons]at hl
  have:=Bw.wrs hp l (h.wr (v:=y) hp (o:=o) (by omega)) (o:=o+1) (by omega) (by omega)
  refine⟨this.1,fun q x a b c d=>(this.2 q x a b c d).trans ?_⟩
  simp only [upd,List.length_cons]
  by_cases hq:q=p
  ·by_cases hx:x=o
   ·rw [if_neg (by omega),if_pos ⟨hq,hx⟩,if_pos ⟨hq,by omega,by omega⟩,hx,show(o - o).toNat=0 by omega];rfl
   ·by_cases h2:o+1≤x∧x<o+1+l.length
    ·rw [if_pos ⟨hq,h2⟩,if_pos ⟨hq,by omega,by omega⟩,show(x - o).toNat=(x - (o+1)).toNat+1 by omega];rfl
    ·rw [if_neg (fun e=>h2 e.2),if_neg (fun e=>hx e.2),if_neg (by omega)]
  ·rw [if_neg (fun e=>hq e.1),if_neg (fun e=>hq e.1),if_neg (fun e=>hq e.1)]
theorem jS(D:DB)(p t s:Int):(D.take p t s).mem=D.mem:=by unfold take;split<;>rfl
theorem jl(D:DB)(p s:Int):(D.setState p s).mem=D.mem:=by unfold setState;split<;>rfl
def W0(p o:Int):Int:=
 if p=0 then(if o=0 then 1 else if 11≤o∧o<37 then y3.getD (o - 11).toNat 0 else 0)else if p=1 then(if o=3 then 513 else 0)
 else if p=2 then(if o=5 then 775 else if o=6 then 1035 else if o=7 then 261 else 0)else if p=5 then(if o=0 then 4096 else 0)else 0
def W1(p o:Int):Int:=if p=0 then(if o=0 then 1 else if o=3 then 4660 else 0)else W0 p o
theorem Bw.to {D:DB} {f g:Int→Int→Int}(h:Bw D f)(e:∀p o,f p o=g p o):Bw D g:=⟨h.1,fun p o a b c d=>(h.2 p o a b c d).trans (e p o)⟩
theorem dig_eq(kk:List Int):(dgN kk 3).save=y3:=by kernel_rfl
theorem ud:(y3.length:Int)=26:=by kernel_rfl
theorem Ea:Bw (begun 7 1) fun _ _=>0:=⟨rfl,fun p o _ _ _ _=>Dv _ _ _⟩
theorem builtN_eq(kk:List Int):eY kk 12=((((((((((((begun 7 1).aH 0 1).ew kk 0 3).take 2 4 0).wr 1 3 513).take 3 5 0).wr 2 5 775).take 4 5 0).wr 2 6 1035).wr 2 7 261).take 5 2 0).wr 5 0 4096).take 6 6 0:=by kernel_rfl
theorem final_eq(kk:List Int)(D:DB):D.final kk=((D.wrs 0 11 (List.replicate 26 0)).wr 0 3 4660).setState 0 2:=by kernel_rfl
theorem Jc(kk:List Int)(D:DB)(b:Int):D.act kk 5 0 b 0 0=D.setState 0 b:=by kernel_rfl
theorem D9:((begun 7 1).aH 0 1).mem=((((begun 7 1).wr 0 0 1).wr 0 1 0).wr 0 2 0).mem:=by kernel_rfl
theorem sM(kk:List Int):Bw (eY kk 12) W0:=by
 have h1:Bw ((begun 7 1).aH 0 1) _:=((((Ea.wr (p:=0) (o:=0) (v:=1) (by omega) (by omega)).wr (p:=0) (o:=1) (v:=0) (by omega) (by omega)).wr (p:=0) (o:=2) (v:=0) (by omega) (by omega))).mem D9
 have h2:=Bw.wrs (p:=0) (by omega) y3 (o:=11) h1 (by omega) (by rw [ud];decide)
 rw [← dig_eq kk]at h2
 have h3:=(((((h2.mem (D':=(((begun 7 1).aH 0 1).ew kk 0 3).take 2 4 0) (jS _ 2 4 0)).wr (p:=1) (o:=3) (v:=513) (by omega) (by omega)).mem (jS _ 3 5 0)).wr (p:=2) (o:=5) (v:=775) (by omega) (by omega)).mem (jS _ 4 5 0)).wr (p:=2) (o:=6) (v:=1035) (by omega) (by omega)
 have h4:=(((h3.wr (p:=2) (o:=7) (v:=261) (by omega) (by omega)).mem (jS _ 5 2 0)).wr (p:=5) (o:=0) (v:=4096) (by omega) (by omega)).mem (jS _ 6 6 0)
 rw [builtN_eq]
 refine Bw.to h4 fun p o=>?_
 rw [dig_eq]
 simp only [upd,W0,ud]
 grind
theorem DR {kk:List Int} {D:DB}(h:Bw D W0):Bw (D.final kk) W1:=by
 have h2:=(Bw.wrs (p:=0) (by omega) (List.replicate 26 0) (o:=11) h (by omega) (by simp)).wr (p:=0) (o:=3) (v:=4660) (by omega) (by omega)
 rw [final_eq]
 refine Bw.to (h2.mem (jl _ 0 2)) fun p o=>?_
 have hl:((List.replicate 26 (0:Int)).length:Int)=26:=by simp
 have hg:∀i,(List.replicate 26 (0:Int)).getD i 0=0:=fun i=>by rw [List.getD_eq_getElem?_getD,List.getElem?_replicate];split<;>rfl
 simp only [upd,W1,W0,hl,hg]
 grind
def jJ(st:Int)(p:Int):Ent:=
 if p=0 then⟨1,0,6,st,false⟩else if p=1 then⟨3,0,0,0,false⟩else if p=2 then⟨4,0,0,0,false⟩else if p=3 then⟨5,0,0,0,false⟩else if p=4 then⟨5,0,0,0,false⟩else if p=5 then⟨2,0,0,0,false⟩else if p=6 then⟨6,0,0,0,false⟩else .free
structure Bd(st:Int)(D:DB)(f:Int→Int→Int):Prop where
 bw:Bw D f
 I:D.mem.I=2
 b:D.aw=1
 e:∀p,0≤p→p<8→D.at_ p=jJ st p
theorem eight {P:Int→Prop}(h:P 0∧P 1∧P 2∧P 3∧P 4∧P 5∧P 6∧P 7)(p:Int)(h0:0≤p)(h1:p<8):P p:=by
 obtain⟨a,b,c,d,e,f,g,i⟩:=h
 rcases(show p=0∨p=1∨p=2∨p=3∨p=4∨p=5∨p=6∨p=7 by omega)with rfl | rfl | rfl | rfl | rfl | rfl | rfl | rfl<;>assumption
theorem built0_eq(kk:List Int):built kk 0=eY kk 12:=by unfold built;rw [if_neg (by decide),if_neg (by decide)]
theorem D5(kk:List Int):Bd 1 (eY kk 12) W0:=⟨sM kk,by kernel_rfl,by kernel_rfl,eight ⟨by kernel_rfl,by kernel_rfl,by kernel_rfl,by kernel_rfl,by kernel_rfl,by kernel_rfl,by kernel_rfl,by kernel_rfl⟩⟩
theorem Bd.wr {st:Int} {D:DB} {f:Int→Int→Int}(h:Bd st D f) {p o v:Int}(hp:0≤p∧p<8)(ho:0≤o∧o<1024):Bd st (D.wr p o v) (upd f p o v):=
 ⟨h.bw.wr hp ho,by show(D.mem.write true p o v).I=2;unfold Mem.write;split<;>exact h.I,h.b,h.e⟩
theorem Bd.set {st s:Int} {D:DB} {f:Int→Int→Int}(h:Bd st D f)(hs:s=3∨(st=1∧s=2)):Bd s (D.setState 0 s) f:=by
 have h0:D.has 0=true:=by unfold has S;rw [h.bw.1];decide
 have e0:D.at_ 0=⟨1,0,6,st,false⟩:=h.e 0 (by omega) (by omega)
 have he:D.aZ 0 s=0:=by
  unfold aZ
  rw [h0,e0]
  rcases hs with rfl | ⟨rfl,rfl⟩<;>simp
 refine⟨h.bw.mem (jl _ _ _),by rw [jl];exact h.I,?_,fun p a b=>?_⟩
 ·rw [setState,if_pos he];exact h.b
 ·rw [setState,if_pos he,Eb (by omega) a,e0,h.e p a b]
  unfold jJ
  by_cases hp:p=0
  ·simp [hp]
  ·simp [hp]
theorem C3(p:Int):∀(l:List Int)(D:DB)(o:Int),(D.wrs p o l).mem.I=D.mem.I
 | [],_,_=>rfl
 | x::l,D,o=>by
  show((D.wr p o x).wrs p (o+1) l).mem.I=_
  rw [C3 p l]
  show(D.mem.write true p o x).I=_
  unfold Mem.write;split<;>rfl
theorem Bd.wrs {st:Int} {D:DB} {f g:Int→Int→Int}(h:Bd st D f) {p o:Int} {l:List Int}(hb:Bw (D.wrs p o l) g):Bd st (D.wrs p o l) g:=by
 have e:=yl p l D o
 refine⟨hb,(C3 p l D o).trans h.I,(show(D.wrs p o l).pd.aw=1 by rw [e];exact h.b),fun q a b=>(show(D.wrs p o l).pd.ent q.toNat=_ by rw [e];exact h.e q a b)⟩
theorem cK(kk:List Int):Bd 2 (built kk 1) W1:=by
 have e:built kk 1=(eY kk 12).final kk:=by unfold built;rw [if_neg (by decide),if_pos (by decide)]
 have h0:Bd 1 (eY kk 12) W0:=D5 kk
 have hb:=DR (kk:=kk) (sM kk)
 have h:=(((h0.wrs (Bw.wrs (p:=0) (by omega) (List.replicate 26 0) (o:=11) h0.bw (by omega) (by simp))).wr (p:=0) (o:=3) (v:=4660) (by omega) (by omega)).set (s:=2) (.inr ⟨rfl,rfl⟩))
 rw [e,final_eq]
 rw [final_eq]at hb
 exact⟨hb,h.I,h.b,h.e⟩
theorem qo(kk:List Int):Bd 3 (built kk 2) W1:=by
 have e:built kk 2=(built kk 1).setState 0 3:=by
  unfold built;rw [if_pos (by decide),if_neg (by decide),if_pos (by decide),Jc]
 rw [e];exact(cK kk).set (.inl rfl)
end DB
end Go.Proofs.YtbjlecpmgocoeaaGreatDoor
end
section
namespace Go.Proofs.YtbjlecpmgocoeaaGreatDoor
open Go Go.RowKit V
open Go.IntKind (i64 u32 u64)
namespace DB
section
variable {st:Int} {D:DB} {f:Int→Int→Int}
theorem Bd.S(h:Bd st D f):D.S=8:=h.bw.1
theorem Bd.hs(h:Bd st D f)(p:Int):D.has p=decide (0≤p∧p<8):=by unfold has;rw [h.S];rfl
theorem Bd.w(h:Bd st D f) {p o:Int}(hp:0≤p∧p<8)(ho:0≤o∧o<1024):D.word p o=f p o:=h.bw.2 p o hp.1 hp.2 ho.1 ho.2
theorem Bd.at8(h:Bd st D f):D.at_ 0=⟨1,0,6,st,false⟩∧D.at_ 1=⟨3,0,0,0,false⟩∧D.at_ 2=⟨4,0,0,0,false⟩∧D.at_ 3=⟨5,0,0,0,false⟩∧D.at_ 4=⟨5,0,0,0,false⟩∧D.at_ 5=⟨2,0,0,0,false⟩∧D.at_ 6=⟨6,0,0,0,false⟩∧D.at_ 7= .free:=
 ⟨h.e 0 (by omega) (by omega),h.e 1 (by omega) (by omega),h.e 2 (by omega) (by omega),h.e 3 (by omega) (by omega),h.e 4 (by omega) (by omega),h.e 5 (by omega) (by omega),h.e 6 (by omega) (by omega),h.e 7 (by omega) (by omega)⟩
def ofB(p t:Int):Bool:=decide (0≤p∧p<8) && (jJ 1 p).typ==t
theorem Bd.of(h:Bd st D f)(p t:Int)(ht:t≠0):D.of p t 0=ofB p t:=by
 unfold DB.of DB.is ofB
 rw [h.hs p]
 by_cases hp:0≤p∧p<8
 ·rw [h.e p hp.1 hp.2]
  have e1:(jJ st p).typ=(jJ 1 p).typ:=by unfold jJ;(repeat' split)<;>rfl
  have e2:(jJ st p).owner=0:=by unfold jJ;(repeat' split)<;>rfl
  rw [e1,e2];simp
 ·simp [hp]
theorem Bd.sp(h:Bd st D f):D.is 0 1=true:=by unfold DB.is;rw [h.hs 0,h.at8.1];rfl
theorem Bd.alive(h:Bd st D f) {p:Int}(hp:0≤p∧p<8):D.alive p=(st !=3):=by
 unfold DB.alive
 have e2:(D.at_ p).owner=0:=by rw [h.e p hp.1 hp.2];unfold jJ;(repeat' split)<;>rfl
 rw [e2,h.sp,h.at8.1];rfl
theorem Bd.all(h:Bd st D f) {c:Int}(g:D.clause c 0=true∧D.clause c 1=true∧D.clause c 2=true∧D.clause c 3=true∧D.clause c 4=true∧D.clause c 5=true∧D.clause c 6=true∧D.clause c 7=true):D.bT c=true:=by
 unfold bT
 rw [h.S]
 exact bV.2 (eight g)
theorem Bd.zero(h:Bd st D f) {p lo hi:Int}(hp:0≤p∧p<8)(h0:0≤lo)(h1:hi≤1024)(g:∀o,lo≤o→o<hi→f p o=0):D.zero p lo hi=true:=
 CZ.2 fun o a b=>by rw [h.w hp (by omega)];exact g o a b
theorem Bd.bu(h:Bd st D f) {p lo hi o:Int}(hp:0≤p∧p<8)(h0:0≤lo)(h1:hi≤1024)(ho:lo≤o∧o<hi)(g:f p o≠0):D.zero p lo hi=false:=
 cj ho.1 ho.2 (by rw [h.w hp (by omega)];simpa using g)
def G2(f:Int→Int→Int):Prop:=∀o,0≤o→o<1024→f 7 o=0
def G5(f:Int→Int→Int):Prop:=f 0 1=0∧f 0 2=0
def G6(st:Int)(f:Int→Int→Int):Prop:=(∀o,37≤o→o<1024→f 0 o=0)∧if st=1 then(∀o,11≤o→o<37→f 0 o=y3.getD (o - 11).toNat 0)∧∀o,3≤o→o<11→f 0 o=0 else ∀o,11≤o→o<37→f 0 o=0
def G8(f:Int→Int→Int):Prop:=∀o,0≤o→o<1024→f 1 o=if o=3 then 513 else 0
def G9(f:Int→Int→Int):Prop:=∀o,0≤o→o<1024→f 2 o=0∨f 2 o=775∨f 2 o=1035∨f 2 o=261
def G10(f:Int→Int→Int):Prop:=∀o,0≤o→o<1024→f 2 o=if o=5 then 775 else if o=6 then 1035 else if o=7 then 261 else 0
def G11(f:Int→Int→Int):Prop:=∀o,1≤o→o<1024→f 5 o=0
def G12(f:Int→Int→Int):Prop:=∀o,0≤o→o<1024→f 6 o=0
theorem Bd.c1(h:Bd st D f):D.bT 1=true:=by
 obtain⟨e0,e1,e2,e3,e4,e5,e6,e7⟩:=h.at8
 refine h.all ⟨?_,?_,?_,?_,?_,?_,?_,?_⟩<;>simp [wg,e0,e1,e2,e3,e4,e5,e6,e7]
theorem Bd.p2(h:Bd st D f) {p:Int}(hp:0≤p∧p<7):D.clause 2 p=true:=by
 rw [mj,h.e p hp.1 (by omega)]
 have:(jJ st p).typ≠0:=by unfold jJ;(repeat' split)<;>first | (exfalso;omega) | (simp;done)
 simp [this]
theorem Bd.c2(h:Bd st D f)(g:G2 f):D.bT 2=true:=by
 refine h.all ⟨h.p2 (by omega),h.p2 (by omega),h.p2 (by omega),h.p2 (by omega),h.p2 (by omega),h.p2 (by omega),h.p2 (by omega),?_⟩
 rw [mj,h.zero (by omega) (by omega) (by omega) g,Bool.or_true]
theorem Bd.c3(h:Bd st D f):D.bT 3=true:=by
 obtain⟨e0,e1,e2,e3,e4,e5,e6,e7⟩:=h.at8
 refine h.all ⟨?_,?_,?_,?_,?_,?_,?_,?_⟩<;>simp [we,e0,e1,e2,e3,e4,e5,e6,e7,h.sp]
theorem Bd.c4(h:Bd st D f):D.bT 4=true:=by
 obtain⟨e0,e1,e2,e3,e4,e5,e6,e7⟩:=h.at8
 have ho:(D.dJ 0 8).length=6:=by
  unfold dJ fw
  unfold at_ at e0 e1 e2 e3 e4 e5 e6 e7
  simp only [List.length_map]
  simp [List.range_succ,show D.ent 0=_ from e0,show D.ent 1=_ from e1,show D.ent 2=_ from e2,show D.ent 3=_ from e3,show D.ent 4=_ from e4,show D.ent 5=_ from e5,show D.ent 6=_ from e6,show D.ent 7=_ from e7]
 refine h.all ⟨?_,?_,?_,?_,?_,?_,?_,?_⟩
 ·rw [qn,h.S,ho,e0];rfl
 all_goals simp [qn,e1,e2,e3,e4,e5,e6,e7]
theorem Bd.r5(h:Bd st D f) {p:Int}(hp:1≤p∧p<8):D.clause 5 p=true∧D.clause 6 p=true∧D.clause 7 p=true:=by
 have:((D.at_ p).typ !=1)=true:=by rw [h.e p (by omega) hp.2];unfold jJ;(repeat' split)<;>first | (exfalso;omega) | (simp;done)
 rw [gP,j1,mi,this];exact⟨rfl,rfl,rfl⟩
theorem Bd.of0(h:Bd st D f) {c:Int}(hc:c=5∨c=6∨c=7)(g:D.clause c 0=true):D.bT c=true:=by
 have r:∀p,1≤p∧p<8→D.clause c p=true:=fun p hp=>by
  have:=h.r5 hp
  rcases hc with rfl | rfl | rfl
  ·exact this.1
  ·exact this.2.1
  ·exact this.2.2
 exact h.all ⟨g,r 1 (by omega),r 2 (by omega),r 3 (by omega),r 4 (by omega),r 5 (by omega),r 6 (by omega),r 7 (by omega)⟩
theorem Bd.c5(h:Bd st D f)(g:G5 f):D.bT 5=true:=by
 refine h.of0 (.inl rfl) ?_
 rw [gP,fY,h.b,h.w (p:=0) (o:=1) (by omega) (by omega),h.w (p:=0) (o:=2) (by omega) (by omega),g.1,g.2,iS (Int.le_refl _)]
 simp
theorem Bd.c6(h:Bd st D f)(hst:st=1∨st=2∨st=3)(g:G6 st f):D.bT 6=true:=by
 refine h.of0 (.inr (.inl rfl)) ?_
 rw [j1,kU,h.zero (by omega) (by omega) (by omega) g.1,h.at8.1]
 simp only [Bool.true_and]
 have g2:=g.2
 rcases hst with rfl | rfl | rfl
 ·rw [if_pos rfl]at g2 ⊢
  have e:D.some_ 0 11 26=y3.map U32.mk:=by
   unfold some_
   apply List.ext_getElem
   ·rw [List.length_map,List.length_map,List.length_range];have:=ud;omega
   ·intro i h1 h2
    have h3:i<26:=by simpa using h1
    simp only [List.getElem_map,List.getElem_range]
    rw [h.w (by omega) (by omega),g2.1 _ (by omega) (by omega),show(11+(i:Int) - 11).toNat=i by omega,List.getD_eq_getElem?_getD,List.getElem?_eq_getElem (by simpa using h2)]
    rfl
  rw [u5,h.zero (by omega) (by omega) (by omega) g2.2,e,show Dg.aE (y3.map U32.mk)=0 by kernel_rfl];rfl
 ·rw [if_neg (by decide),if_pos rfl]
  rw [if_neg (by decide)]at g2
  rw [h.zero (by omega) (by omega) (by omega) g2,Bool.or_true]
 ·rw [if_neg (by decide),if_neg (by decide)]
  rw [if_neg (by decide)]at g2
  rw [h.zero (by omega) (by omega) (by omega) g2,Bool.or_true,Bool.or_true]
theorem Bd.c7(h:Bd st D f)(g:st=3∨f 0 0=1):D.bT 7=true:=by
 refine h.of0 (.inr (.inr rfl)) ?_
 rw [mi,mN,h.at8.1]
 rcases g with rfl | g
 ·rfl
 ·have e:cr (fun q=>D.of q 3 0) D.S=1:=by
   rw [h.S]
   refine ql (a:=1) (by omega) (by rw [h.of _ _ (by decide)];rfl) fun x a b c=>?_
   rw [h.of _ _ (by decide)]
   revert c
   exact eight (P:=fun x=>x≠1→ofB x 3=false) ⟨fun _=>rfl,fun c=>absurd rfl c,fun _=>rfl,fun _=>rfl,fun _=>rfl,fun _=>rfl,fun _=>rfl,fun _=>rfl⟩ x a b
  rw [e,h.w (p:=0) (o:=0) (by omega) (by omega),g,h.of _ _ (by decide)]
  simp [show ofB 1 3=true from rfl]
theorem Bd.r8(h:Bd st D f) {p:Int}(hp:0≤p∧p<8)(hn:p≠1):D.clause 8 p=true:=by
 have:((D.at_ p).typ !=3)=true:=by rw [h.e p hp.1 hp.2];unfold jJ;(repeat' split)<;>(simp;done)
 rw [dP,this];rfl
theorem Bd.c8(h:Bd st D f)(g:st=3∨G8 f):D.bT 8=true:=by
 refine h.all ⟨h.r8 (by omega) (by omega),?_,h.r8 (by omega) (by omega),h.r8 (by omega) (by omega),h.r8 (by omega) (by omega),h.r8 (by omega) (by omega),h.r8 (by omega) (by omega),h.r8 (by omega) (by omega)⟩
 rw [dP,h.alive (by omega),h.at8.2.1]
 rcases g with rfl | g
 ·rfl
 ·have hw:∀o,0≤o→o<1024→D.word 1 o=if o=3 then 513 else 0:=fun o a b=>by rw [h.w (by omega) ⟨a,b⟩,g o a b]
  have h1:D.fg 1=true:=by
   unfold fg
   rw [h.zero (by omega) (by omega) (by omega) fun o a b=>by rw [g o (by omega) b,if_neg (by omega)],h.at8.2.1,Bool.true_and,Bool.and_eq_true]
   refine⟨bV.2 fun o a b=>?_,bV.2 fun q a b=>?_⟩
   ·unfold gH
    rw [hw o a (by omega),h.at8.2.1]
    by_cases ho:o=3
    ·rw [if_pos ho,h.of _ _ (by decide)];rfl
    ·rw [if_neg ho];rfl
   ·have hn:D.named 1 256 q=if q=2 then 1 else 0:=by
     unfold named
     by_cases hq:q=2
     ·rw [if_pos hq]
      refine ql (a:=3) (by omega) (by rw [hw 3 (by omega) (by omega),hq];rfl) fun x a b c=>?_
      rw [hw x a (by omega),if_neg c];rfl
     ·rw [if_neg hq]
      refine gu fun x a b=>?_
      rw [hw x a (by omega)]
      by_cases hx:x=3
      ·rw [if_pos hx,show aR 513=2 from by decide,show((2:Int)==q)=false by simpa using Ne.symm hq,Bool.and_false]
      ·rw [if_neg hx];rfl
    rw [hn,h.of _ _ (by decide)]
    rw [h.S]at b
    revert a b
    refine fun a b=>eight (P:=fun q=>(!(decide ((if q=2 then(1:Int)else 0)>1) || ofB q 4 && (if q=2 then(1:Int)else 0)==0))=true) ⟨by rfl,by rfl,by rfl,by rfl,by rfl,by rfl,by rfl,by rfl⟩ q a b
  rw [h1];simp
theorem Bd.r9(h:Bd st D f) {p:Int}(hp:0≤p∧p<8)(hn:p≠2):D.clause 9 p=true:=by
 have:((D.at_ p).typ !=4)=true:=by rw [h.e p hp.1 hp.2];unfold jJ;(repeat' split)<;>(simp;done)
 rw [eh,this];rfl
theorem Bd.c9(h:Bd st D f)(g:st=3∨G9 f):D.bT 9=true:=by
 refine h.all ⟨h.r9 (by omega) (by omega),h.r9 (by omega) (by omega),?_,h.r9 (by omega) (by omega),h.r9 (by omega) (by omega),h.r9 (by omega) (by omega),h.r9 (by omega) (by omega),h.r9 (by omega) (by omega)⟩
 rw [eh,h.alive (by omega),h.at8.2.2.1]
 rcases g with rfl | g
 ·rfl
 ·have h1:D.kJ 2=true:=bV.2 fun o a b=>by
   unfold fC
   rw [h.w (by omega) ⟨a,b⟩,h.at8.2.2.1]
   rcases g o a b with e | e | e | e<;>rw [e]
   ·rfl
   ·rw [show(bB 775).aY=true from rfl,show(bB 775).aq=3 from rfl,h.of _ _ (by decide)];rfl
   ·rw [show(bB 1035).aY=true from rfl,show(bB 1035).aq=4 from rfl,h.of _ _ (by decide)];rfl
   ·rw [show(bB 261).aY=false from rfl,show(bB 261).aq=1 from rfl,h.I];rfl
  rw [h1];simp
theorem Bd.mapped(h:Bd st D f) {p:Int}(hp:0≤p∧p<8):D.jn p D.S=cr (D.fD p 2) 1024:=by
 have e2:(D.at_ p).owner=0:=by rw [h.e p hp.1 hp.2];unfold jJ;(repeat' split)<;>rfl
 unfold jn
 rw [h.S,e2]
 have e:∀q,D.of q 4 0=ofB q 4:=fun q=>h.of q 4 (by decide)
 simp [List.range_succ,e,show ofB 0 4=false from rfl,show ofB 1 4=false from rfl,show ofB 2 4=true from rfl,show ofB 3 4=false from rfl,show ofB 4 4=false from rfl,show ofB 5 4=false from rfl,show ofB 6 4=false from rfl,show ofB 7 4=false from rfl]
theorem Bd.r10(h:Bd st D f) {p:Int}(hp:0≤p∧p<8)(hn:p≠3∧p≠4):D.clause 10 p=true:=by
 have:((D.at_ p).typ !=5)=true:=by rw [h.e p hp.1 hp.2];unfold jJ;(repeat' split)<;>first | (exfalso;omega) | (simp;done)
 rw [eJ,this];rfl
theorem Bd.once(h:Bd st D f) {p j:Int}(hp:p=3∨p=4)(hj:0≤j∧j<1024)(g:∀o,0≤o→o<1024→(jQ (f 2 o)==0 && ((bB (f 2 o)).aY && (bB (f 2 o)).aq==p))=decide (o=j)):D.clause 10 p=true:=by
 rw [eJ,o0,h.mapped (by omega),ql (f:=D.fD p 2) (a:=j) hj]
 ·simp
 ·unfold fD;rw [h.w (by omega) hj,g j hj.1 hj.2];simp
 ·intro x a b c;unfold fD;rw [h.w (by omega) ⟨a,b⟩,g x a b];simp [c]
theorem Bd.c10(h:Bd st D f)(g:st=3∨G10 f):D.bT 10=true:=by
 have k:D.clause 10 3=true∧D.clause 10 4=true:=by
  rcases g with rfl | g
  ·rw [eJ,eJ,h.alive (by omega),h.alive (by omega)];simp
  ·have aux:∀p j,(p=3∧j=5)∨(p=4∧j=6)→∀o,0≤o→o<1024→(jQ (f 2 o)==0 && ((bB (f 2 o)).aY && (bB (f 2 o)).aq==p))=decide (o=j):=fun p j hpj o a b=>by
    rw [g o a b]
    by_cases h5:o=5
    ·subst h5;rcases hpj with⟨rfl,rfl⟩ | ⟨rfl,rfl⟩<;>rfl
    by_cases h6:o=6
    ·subst h6;rcases hpj with⟨rfl,rfl⟩ | ⟨rfl,rfl⟩<;>rfl
    by_cases h7:o=7
    ·subst h7;rcases hpj with⟨rfl,rfl⟩ | ⟨rfl,rfl⟩<;>rfl
    rw [if_neg h5,if_neg h6,if_neg h7,show decide (o=j)=false by simp;omega];rfl
   exact⟨h.once (j:=5) (.inl rfl) (by omega) (aux 3 5 (.inl ⟨rfl,rfl⟩)),h.once (j:=6) (.inr rfl) (by omega) (aux 4 6 (.inr ⟨rfl,rfl⟩))⟩
 exact h.all ⟨h.r10 (by omega) (by omega),h.r10 (by omega) (by omega),h.r10 (by omega) (by omega),k.1,k.2,h.r10 (by omega) (by omega),h.r10 (by omega) (by omega),h.r10 (by omega) (by omega)⟩
theorem Bd.r11(h:Bd st D f) {p:Int}(hp:0≤p∧p<8)(hn:p≠5):D.clause 11 p=true:=by
 have:((D.at_ p).typ !=2)=true:=by rw [h.e p hp.1 hp.2];unfold jJ;(repeat' split)<;>(simp;done)
 rw [iR,this];rfl
theorem Bd.c11(h:Bd st D f)(g:G11 f):D.bT 11=true:=by
 refine h.all ⟨h.r11 (by omega) (by omega),h.r11 (by omega) (by omega),h.r11 (by omega) (by omega),h.r11 (by omega) (by omega),h.r11 (by omega) (by omega),?_,h.r11 (by omega) (by omega),h.r11 (by omega) (by omega)⟩
 rw [iR,jc,h.at8.2.2.2.2.2.1,h.zero (by omega) (by omega) (by omega) (fun o a b=>g o (by omega) (by omega)),h.zero (by omega) (by omega) (by omega) (fun o a b=>g o (by omega) (by omega))];rfl
theorem Bd.r12(h:Bd st D f) {p:Int}(hp:0≤p∧p<8)(hn:p≠6):D.clause 12 p=true:=by
 have:((D.at_ p).typ !=6)=true:=by rw [h.e p hp.1 hp.2];unfold jJ;(repeat' split)<;>(simp;done)
 rw [kx,this];rfl
theorem Bd.c12(h:Bd st D f)(g:G12 f):D.bT 12=true:=by
 refine h.all ⟨h.r12 (by omega) (by omega),h.r12 (by omega) (by omega),h.r12 (by omega) (by omega),h.r12 (by omega) (by omega),h.r12 (by omega) (by omega),h.r12 (by omega) (by omega),?_,h.r12 (by omega) (by omega)⟩
 rw [kx,h.zero (by omega) (by omega) (by omega) g,Bool.or_true]
theorem Bd.low(h:Bd st D f)(hst:st=1∨st=2∨st=3)(c:Int)(g2:c≤2∨G2 f)(g5:c≤5∨G5 f)(g6:c≤6∨G6 st f)(g7:c≤7∨st=3∨f 0 0=1)(g8:c≤8∨st=3∨G8 f)(g9:c≤9∨st=3∨G9 f)(g10:c≤10∨st=3∨G10 f)(g11:c≤11∨G11 f)(g12:c≤12∨G12 f):
 ∀c',1≤c'→c'<c→c'≤12→D.bT c'=true:=by
 intro c' h1 h2 h3
 rcases(show c'=1∨c'=2∨c'=3∨c'=4∨c'=5∨c'=6∨c'=7∨c'=8∨c'=9∨c'=10∨c'=11∨c'=12 by omega)with rfl | rfl | rfl | rfl | rfl | rfl | rfl | rfl | rfl | rfl | rfl | rfl
 ·exact h.c1
 ·exact h.c2 (g2.resolve_left (by omega))
 ·exact h.c3
 ·exact h.c4
 ·exact h.c5 (g5.resolve_left (by omega))
 ·exact h.c6 hst (g6.resolve_left (by omega))
 ·exact h.c7 (g7.resolve_left (by omega))
 ·exact h.c8 (g8.resolve_left (by omega))
 ·exact h.c9 (g9.resolve_left (by omega))
 ·exact h.c10 (g10.resolve_left (by omega))
 ·exact h.c11 (g11.resolve_left (by omega))
 ·exact h.c12 (g12.resolve_left (by omega))
end
theorem D4(kk:List Int) {st:Int}(h:0≤st∧st<3):(built kk st).broken=(0,0):=by
 have k:∀st f,Bd (st+1) (built kk st) f→(st=0∨st=1∨st=2)→(st=0∧f=W0∨f=W1∧st≠0)→(built kk st).broken=(0,0):=fun st f h hst hf=>by
  have hW:∀p o,1≤p→f p o=W0 p o:=fun p o hp=>by
   rcases hf with⟨_,rfl⟩ | ⟨rfl,_⟩
   ·rfl
   ·unfold W1;rw [if_neg (by omega)]
  refine sN fun c a b=>h.low (by omega) 13 (.inr ?_) (.inr ?_) (.inr ?_) (.inr (.inr ?_)) (.inr (.inr ?_)) (.inr (.inr ?_)) (.inr (.inr ?_)) (.inr ?_) (.inr ?_) c a (by omega) b
  ·intro o _ _;rw [hW _ _ (by omega)];simp [W0]
  ·rcases hf with⟨_,rfl⟩ | ⟨rfl,_⟩<;>exact⟨rfl,rfl⟩
  ·rcases hf with⟨rfl,rfl⟩ | ⟨rfl,hn⟩
   ·refine⟨fun o _ _=>?_,?_⟩
    ·simp [W0];omega
    ·rw [if_pos (by decide)]
     exact⟨fun o _ _=>by simp [W0];omega,fun o _ _=>by simp [W0];omega⟩
   ·refine⟨fun o _ _=>?_,?_⟩
    ·simp [W1];omega
    ·rw [if_neg (by omega)]
     intro o _ _;simp [W1];omega
  ·rcases hf with⟨_,rfl⟩ | ⟨rfl,_⟩<;>rfl
  ·intro o _ _;rw [hW _ _ (by omega)];simp [W0]
  ·intro o _ _;rw [hW _ _ (by omega)];simp [W0];omega
  ·intro o _ _;rw [hW _ _ (by omega)];simp [W0]
  ·intro o _ _;rw [hW _ _ (by omega)];simp [W0];omega
  ·intro o _ _;rw [hW _ _ (by omega)];simp [W0]
 rcases(show st=0∨st=1∨st=2 by omega)with rfl | rfl | rfl
 ·exact k 0 W0 (by rw [built0_eq];exact D5 kk) (.inl rfl) (.inl ⟨rfl,rfl⟩)
 ·exact k 1 W1 (cK kk) (.inr (.inl rfl)) (.inr ⟨rfl,by decide⟩)
 ·exact k 2 W1 (qo kk) (.inr (.inr rfl)) (.inr ⟨rfl,by decide⟩)
end DB
end Go.Proofs.YtbjlecpmgocoeaaGreatDoor
end
section
namespace Go.Proofs.YtbjlecpmgocoeaaGreatDoor
open Go Go.RowKit V
open Go.IntKind (i64 u32 u64)
def spL(o one v:Int):List LSp:= [LSp.mk 7 o one 2 7,LSp.mk 6 o one 12 6,LSp.mk 5 (i64.wrap (18+o)) one 11 5,LSp.mk 5 (i64.wrap (1+(Int.tmod o 17))) one 11 5,LSp.mk 0 (i64.wrap (37+o)) one 6 0,LSp.mk 0 (i64.wrap (11+(Int.tmod o 26))) one 6 0,LSp.mk 0 1 (u32.wrap (1+(Int.tmod v 1000))) 5 0,LSp.mk 0 2 (u32.wrap (4097+(Int.tmod v 1000))) 5 0,LSp.mk 0 0 (u32.wrap (2+(Int.tmod v 1000))) 7 0,LSp.mk 1 (i64.wrap (256+(Int.tmod o 768))) one 8 1,LSp.mk 1 (i64.wrap (4+(Int.tmod o 200))) 513 8 1,LSp.mk 1 3 0 8 1,LSp.mk 1 (i64.wrap (4+(Int.tmod o 200))) 769 8 1,LSp.mk 2 (i64.wrap (100+o)) 775 10 3,LSp.mk 2 5 0 10 3,LSp.mk 2 (i64.wrap (100+o)) 515 9 2,LSp.mk 2 (i64.wrap (100+o)) 513 9 2,LSp.mk 2 (i64.wrap (100+o)) 9 9 2,LSp.mk 2 (i64.wrap (100+o)) 1795 9 2]
namespace DB
theorem dB {f:Int→Int→Int} {p o v q x:Int}(h:q≠p):upd f p o v q x=f q x:=if_neg fun e=>h e.1
theorem dq {f:Int→Int→Int} {p o v:Int}:upd f p o v p o=v:=if_pos ⟨rfl,rfl⟩
theorem oH {f:Int→Int→Int} {p o v q x:Int}(h:x≠o):upd f p o v q x=f q x:=if_neg fun e=>h e.2
section
variable {f:Int→Int→Int} {p o v:Int}
theorem G2.upd(h:p≠7)(g:G2 f):G2 (upd f p o v):=fun x a b=>by rw [dB (Ne.symm h)];exact g x a b
theorem G5.upd(h:p≠0∨(o≠1∧o≠2))(g:G5 f):G5 (upd f p o v):=by
 unfold G5 DB.upd
 rw [if_neg (by omega),if_neg (by omega)];exact g
theorem G6.upd(h:p≠0∨o<3)(g:G6 2 f):G6 2 (upd f p o v):=by
 unfold G6 at *
 rw [if_neg (by decide)]at *
 exact⟨fun x a b=>by unfold DB.upd;rw [if_neg (by omega)];exact g.1 x a b,fun x a b=>by unfold DB.upd;rw [if_neg (by omega)];exact g.2 x a b⟩
theorem G6.Fq(h:p≠0∨o<3)(g:G6 3 f):G6 3 (DB.upd f p o v):=by
 unfold G6 at *
 rw [if_neg (by decide)]at *
 exact⟨fun x a b=>by unfold DB.upd;rw [if_neg (by omega)];exact g.1 x a b,fun x a b=>by unfold DB.upd;rw [if_neg (by omega)];exact g.2 x a b⟩
theorem G8.upd(h:p≠1)(g:G8 f):G8 (upd f p o v):=fun x a b=>by rw [dB (Ne.symm h)];exact g x a b
theorem G9.upd(h:p≠2∨v=0∨v=775)(g:G9 f):G9 (upd f p o v):=fun x a b=>by
 unfold DB.upd
 split
 ·omega
 ·exact g x a b
theorem G10.upd(h:p≠2)(g:G10 f):G10 (upd f p o v):=fun x a b=>by rw [dB (Ne.symm h)];exact g x a b
theorem G11.upd(h:p≠5)(g:G11 f):G11 (upd f p o v):=fun x a b=>by rw [dB (Ne.symm h)];exact g x a b
theorem G12.upd(h:p≠6)(g:G12 f):G12 (upd f p o v):=fun x a b=>by rw [dB (Ne.symm h)];exact g x a b
end
theorem g2:G2 W1:=fun o _ _=>by simp [W1,W0]
theorem g5:G5 W1:=⟨rfl,rfl⟩
theorem g6 {st:Int}(h:st≠1):G6 st W1:=⟨fun o _ _=>by simp [W1];omega,by rw [if_neg h];intro o _ _;simp [W1];omega⟩
theorem g8:G8 W1:=fun o _ _=>by simp [W1,W0]
theorem g9:G9 W1:=fun o _ _=>by simp [W1,W0];omega
theorem g10:G10 W1:=fun o _ _=>by simp [W1,W0]
theorem g11:G11 W1:=fun o _ _=>by simp [W1,W0];omega
theorem g12:G12 W1:=fun o _ _=>by simp [W1,W0]
theorem FN {p t:Int}(h:8≤p):ofB p t=false:=by unfold ofB;rw [show decide (0≤p∧p<8)=false by simp;omega];rfl
theorem I6 {p:Int}(h:2≤p):ofB p 3=false:=by
 by_cases h8:8≤p
 ·exact FN h8
 ·rcases(show p=2∨p=3∨p=4∨p=5∨p=6∨p=7 by omega)with rfl | rfl | rfl | rfl | rfl | rfl<;>rfl
theorem A5(kk:List Int) {o one v i:Int}(ho:0≤o∧o<900)(h1:one≠0)(hv:0≤v)(hi:0≤i∧i<19):
 ((built kk 1).wr ((spL o one v).getD i.toNat ⟨0,0,0,0,0⟩).p ((spL o one v).getD i.toNat ⟨0,0,0,0,0⟩).off ((spL o one v).getD i.toNat ⟨0,0,0,0,0⟩).v).broken=(((spL o one v).getD i.toNat ⟨0,0,0,0,0⟩).clause,((spL o one v).getD i.toNat ⟨0,0,0,0,0⟩).aq):=by
 have t17:=Int.tmod_lt_of_pos o (show(0:Int)<17 by decide)
 have t17':=Int.tmod_nonneg 17 ho.1
 have t26:=Int.tmod_lt_of_pos o (show(0:Int)<26 by decide)
 have t26':=Int.tmod_nonneg 26 ho.1
 have t768:=Int.tmod_lt_of_pos o (show(0:Int)<768 by decide)
 have t768':=Int.tmod_nonneg 768 ho.1
 have t200:=Int.tmod_lt_of_pos o (show(0:Int)<200 by decide)
 have t200':=Int.tmod_nonneg 200 ho.1
 have tv:=Int.tmod_lt_of_pos v (show(0:Int)<1000 by decide)
 have tv':=Int.tmod_nonneg 1000 hv
 have hst:(2:Int)=1∨(2:Int)=2∨(2:Int)=3:= .inr (.inl rfl)
 have go:∀ {D:DB} {f:Int→Int→Int} {c q:Int},Bd 2 D f→1≤c∧c≤12→0≤q∧q<8→(∀c',1≤c'→c'<c→c'≤12→D.bT c'=true)→(∀q',0≤q'→q'<q→D.clause c q'=true)→D.clause c q=false→D.broken=(c,q):=fun {D f c q} h hc hq hl hz hf=>BK hc (fun c' a b=>hl c' a b (by omega)) (by rw [h.S];omega) hz hf
 rcases(show i=0∨i=1∨i=2∨i=3∨i=4∨i=5∨i=6∨i=7∨i=8∨i=9∨i=10∨i=11∨i=12∨i=13∨i=14∨i=15∨i=16∨i=17∨i=18 by omega)with rfl | rfl | rfl | rfl | rfl | rfl | rfl | rfl | rfl | rfl | rfl | rfl | rfl | rfl | rfl | rfl | rfl | rfl | rfl
 ·show((built kk 1).wr 7 o one).broken=(2,7)
  have h:=(cK kk).wr (p:=7) (o:=o) (v:=one) (by omega) (by omega)
  refine go h (by omega) (by omega) (h.low hst 2 (.inl (by omega)) (.inl (by omega)) (.inl (by omega)) (.inl (by omega)) (.inl (by omega)) (.inl (by omega)) (.inl (by omega)) (.inl (by omega)) (.inl (by omega))) (fun q a b=>h.p2 ⟨a,b⟩) ?_
  rw [mj,h.at8.2.2.2.2.2.2.2,h.bu (o:=o) (by omega) (by omega) (by omega) (by omega) (by rw [dq];exact h1)];rfl
 ·show((built kk 1).wr 6 o one).broken=(12,6)
  have h:=(cK kk).wr (p:=6) (o:=o) (v:=one) (by omega) (by omega)
  refine go h (by omega) (by omega) (h.low hst 12 (.inr (g2.upd (by omega))) (.inr (g5.upd (by omega))) (.inr ((g6 (by omega)).upd (by omega))) (.inr (.inr (dB (by omega)))) (.inr (.inr (g8.upd (by omega)))) (.inr (.inr (g9.upd (by omega)))) (.inr (.inr (g10.upd (by omega)))) (.inr (g11.upd (by omega))) (.inl (by omega))) (fun q a b=>h.r12 (by omega) (by omega)) ?_
  rw [kx,h.at8.2.2.2.2.2.2.1,h.bu (o:=o) (by omega) (by omega) (by omega) (by omega) (by rw [dq];exact h1)];rfl
 ·show((built kk 1).wr 5 (i64.wrap (18+o)) one).broken=(11,5)
  rw [ah (x:=18+o) (by omega)]
  have h:=(cK kk).wr (p:=5) (o:=18+o) (v:=one) (by omega) (by omega)
  refine go h (by omega) (by omega) (h.low hst 11 (.inr (g2.upd (by omega))) (.inr (g5.upd (by omega))) (.inr ((g6 (by omega)).upd (by omega))) (.inr (.inr (dB (by omega)))) (.inr (.inr (g8.upd (by omega)))) (.inr (.inr (g9.upd (by omega)))) (.inr (.inr (g10.upd (by omega)))) (.inl (by omega)) (.inl (by omega))) (fun q a b=>h.r11 (by omega) (by omega)) ?_
  rw [iR,jc,h.at8.2.2.2.2.2.1,h.bu (o:=18+o) (by omega) (by omega) (by omega) (by omega) (by rw [dq];exact h1)];rfl
 ·show((built kk 1).wr 5 (i64.wrap (1+(Int.tmod o 17))) one).broken=(11,5)
  rw [ah (x:=1+(Int.tmod o 17)) (by omega)]
  have h:=(cK kk).wr (p:=5) (o:=1+(Int.tmod o 17)) (v:=one) (by omega) (by omega)
  refine go h (by omega) (by omega) (h.low hst 11 (.inr (g2.upd (by omega))) (.inr (g5.upd (by omega))) (.inr ((g6 (by omega)).upd (by omega))) (.inr (.inr (dB (by omega)))) (.inr (.inr (g8.upd (by omega)))) (.inr (.inr (g9.upd (by omega)))) (.inr (.inr (g10.upd (by omega)))) (.inl (by omega)) (.inl (by omega))) (fun q a b=>h.r11 (by omega) (by omega)) ?_
  rw [iR,jc,h.at8.2.2.2.2.2.1,h.bu (lo:=1) (hi:=18) (o:=1+(Int.tmod o 17)) (by omega) (by omega) (by omega) (by omega) (by rw [dq];exact h1)];simp
 ·show((built kk 1).wr 0 (i64.wrap (37+o)) one).broken=(6,0)
  rw [ah (x:=37+o) (by omega)]
  have h:=(cK kk).wr (p:=0) (o:=37+o) (v:=one) (by omega) (by omega)
  refine go h (by omega) (by omega) (h.low hst 6 (.inr (g2.upd (by omega))) (.inr (g5.upd (by omega))) (.inl (by omega)) (.inl (by omega)) (.inl (by omega)) (.inl (by omega)) (.inl (by omega)) (.inl (by omega)) (.inl (by omega))) (fun q a b=>by omega) ?_
  rw [j1,kU,h.at8.1,h.bu (o:=37+o) (by omega) (by omega) (by omega) (by omega) (by rw [dq];exact h1)];rfl
 ·show((built kk 1).wr 0 (i64.wrap (11+(Int.tmod o 26))) one).broken=(6,0)
  rw [ah (x:=11+(Int.tmod o 26)) (by omega)]
  have h:=(cK kk).wr (p:=0) (o:=11+(Int.tmod o 26)) (v:=one) (by omega) (by omega)
  refine go h (by omega) (by omega) (h.low hst 6 (.inr (g2.upd (by omega))) (.inr (g5.upd (by omega))) (.inl (by omega)) (.inl (by omega)) (.inl (by omega)) (.inl (by omega)) (.inl (by omega)) (.inl (by omega)) (.inl (by omega))) (fun q a b=>by omega) ?_
  rw [j1,kU,h.at8.1,h.bu (lo:=11) (hi:=37) (o:=11+(Int.tmod o 26)) (by omega) (by omega) (by omega) (by omega) (by rw [dq];exact h1)];simp
 ·show((built kk 1).wr 0 1 (u32.wrap (1+(Int.tmod v 1000)))).broken=(5,0)
  rw [bE (x:=1+(Int.tmod v 1000)) (by omega)]
  have h:=(cK kk).wr (p:=0) (o:=1) (v:=1+(Int.tmod v 1000)) (by omega) (by omega)
  refine go h (by omega) (by omega) (h.low hst 5 (.inr (g2.upd (by omega))) (.inl (by omega)) (.inl (by omega)) (.inl (by omega)) (.inl (by omega)) (.inl (by omega)) (.inl (by omega)) (.inl (by omega)) (.inl (by omega))) (fun q a b=>by omega) ?_
  rw [gP,fY,h.at8.1,h.b,h.w (p:=0) (o:=1) (by omega) (by omega),dq,show decide (1+(Int.tmod v 1000)<1)=false by simp;omega];rfl
 ·show((built kk 1).wr 0 2 (u32.wrap (4097+(Int.tmod v 1000)))).broken=(5,0)
  rw [bE (x:=4097+(Int.tmod v 1000)) (by omega)]
  have h:=(cK kk).wr (p:=0) (o:=2) (v:=4097+(Int.tmod v 1000)) (by omega) (by omega)
  refine go h (by omega) (by omega) (h.low hst 5 (.inr (g2.upd (by omega))) (.inl (by omega)) (.inl (by omega)) (.inl (by omega)) (.inl (by omega)) (.inl (by omega)) (.inl (by omega)) (.inl (by omega)) (.inl (by omega))) (fun q a b=>by omega) ?_
  rw [gP,fY,h.at8.1,h.w (p:=0) (o:=2) (by omega) (by omega),dq,show decide (4097+(Int.tmod v 1000)≤4096)=false by simp;omega];simp
 ·show((built kk 1).wr 0 0 (u32.wrap (2+(Int.tmod v 1000)))).broken=(7,0)
  rw [bE (x:=2+(Int.tmod v 1000)) (by omega)]
  have h:=(cK kk).wr (p:=0) (o:=0) (v:=2+(Int.tmod v 1000)) (by omega) (by omega)
  refine go h (by omega) (by omega) (h.low hst 7 (.inr (g2.upd (by omega))) (.inr (g5.upd (by omega))) (.inr ((g6 (by omega)).upd (by omega))) (.inl (by omega)) (.inl (by omega)) (.inl (by omega)) (.inl (by omega)) (.inl (by omega)) (.inl (by omega))) (fun q a b=>by omega) ?_
  rw [mi,mN,h.at8.1,h.w (p:=0) (o:=0) (by omega) (by omega),dq,h.of (2+(Int.tmod v 1000)) 3 (by decide),I6 (by omega)];simp
 ·show((built kk 1).wr 1 (i64.wrap (256+(Int.tmod o 768))) one).broken=(8,1)
  rw [ah (x:=256+(Int.tmod o 768)) (by omega)]
  have h:=(cK kk).wr (p:=1) (o:=256+(Int.tmod o 768)) (v:=one) (by omega) (by omega)
  refine go h (by omega) (by omega) (h.low hst 8 (.inr (g2.upd (by omega))) (.inr (g5.upd (by omega))) (.inr ((g6 (by omega)).upd (by omega))) (.inr (.inr (dB (by omega)))) (.inl (by omega)) (.inl (by omega)) (.inl (by omega)) (.inl (by omega)) (.inl (by omega))) (fun q a b=>h.r8 (by omega) (by omega)) ?_
  rw [dP,h.alive (by omega),h.at8.2.1,fg,h.bu (o:=256+(Int.tmod o 768)) (by omega) (by omega) (by omega) (by omega) (by rw [dq];exact h1)];rfl
 ·show((built kk 1).wr 1 (i64.wrap (4+(Int.tmod o 200))) 513).broken=(8,1)
  rw [ah (x:=4+(Int.tmod o 200)) (by omega)]
  have h:=(cK kk).wr (p:=1) (o:=4+(Int.tmod o 200)) (v:=513) (by omega) (by omega)
  refine go h (by omega) (by omega) (h.low hst 8 (.inr (g2.upd (by omega))) (.inr (g5.upd (by omega))) (.inr ((g6 (by omega)).upd (by omega))) (.inr (.inr (dB (by omega)))) (.inl (by omega)) (.inl (by omega)) (.inl (by omega)) (.inl (by omega)) (.inl (by omega))) (fun q a b=>h.r8 (by omega) (by omega)) ?_
  have hn:((built kk 1).wr 1 (4+(Int.tmod o 200)) 513).named 1 256 2>1:=v8 (a:=3) (b:=4+(Int.tmod o 200)) (by omega) (by omega) (by omega) (by rw [h.w (by omega) (by omega),oH (by omega)];rfl) (by rw [h.w (by omega) (by omega),dq];rfl)
  rw [dP,h.alive (by omega),h.at8.2.1,fg,cj (f:=fun q=>!(decide (((built kk 1).wr 1 (4+(Int.tmod o 200)) 513).named 1 256 q>1) || _)) (x:=2) (by omega) (by rw [h.S];omega) (by rw [decide_eq_true hn];rfl)];simp
 ·show((built kk 1).wr 1 3 0).broken=(8,1)
  have h:=(cK kk).wr (p:=1) (o:=3) (v:=0) (by omega) (by omega)
  refine go h (by omega) (by omega) (h.low hst 8 (.inr (g2.upd (by omega))) (.inr (g5.upd (by omega))) (.inr ((g6 (by omega)).upd (by omega))) (.inr (.inr (dB (by omega)))) (.inl (by omega)) (.inl (by omega)) (.inl (by omega)) (.inl (by omega)) (.inl (by omega))) (fun q a b=>h.r8 (by omega) (by omega)) ?_
  have hn:((built kk 1).wr 1 3 0).named 1 256 2=0:=gu fun x a b=>by
   rw [h.w (by omega) (by omega)]
   by_cases hx:x=3
   ·rw [hx,dq];rfl
   ·rw [oH hx,g8 x a (by omega),if_neg hx];rfl
  rw [dP,h.alive (by omega),h.at8.2.1,fg,cj (f:=fun q=>!(decide (((built kk 1).wr 1 3 0).named 1 256 q>1) || _)) (x:=2) (by omega) (by rw [h.S];omega) (by rw [hn,h.at8.2.1,h.of 2 4 (by decide)];rfl)];simp
 ·show((built kk 1).wr 1 (i64.wrap (4+(Int.tmod o 200))) 769).broken=(8,1)
  rw [ah (x:=4+(Int.tmod o 200)) (by omega)]
  have h:=(cK kk).wr (p:=1) (o:=4+(Int.tmod o 200)) (v:=769) (by omega) (by omega)
  refine go h (by omega) (by omega) (h.low hst 8 (.inr (g2.upd (by omega))) (.inr (g5.upd (by omega))) (.inr ((g6 (by omega)).upd (by omega))) (.inr (.inr (dB (by omega)))) (.inl (by omega)) (.inl (by omega)) (.inl (by omega)) (.inl (by omega)) (.inl (by omega))) (fun q a b=>h.r8 (by omega) (by omega)) ?_
  rw [dP,h.alive (by omega),h.at8.2.1,fg,cj (f:=gH _ 1) (x:=4+(Int.tmod o 200)) (by omega) (by omega) (by rw [gH,h.w (by omega) (by omega),dq,h.at8.2.1,show aR 769=3 from rfl,h.of 3 4 (by decide)];rfl)];simp
 ·show((built kk 1).wr 2 (i64.wrap (100+o)) 775).broken=(10,3)
  rw [ah (x:=100+o) (by omega)]
  have h:=(cK kk).wr (p:=2) (o:=100+o) (v:=775) (by omega) (by omega)
  refine go h (by omega) (by omega) (h.low hst 10 (.inr (g2.upd (by omega))) (.inr (g5.upd (by omega))) (.inr ((g6 (by omega)).upd (by omega))) (.inr (.inr (dB (by omega)))) (.inr (.inr (g8.upd (by omega)))) (.inr (.inr (g9.upd (by omega)))) (.inl (by omega)) (.inl (by omega)) (.inl (by omega))) (fun q a b=>h.r10 (by omega) (by omega)) ?_
  have hn:cr (((built kk 1).wr 2 (100+o) 775).fD 3 2) 1024>1:=v8 (a:=5) (b:=100+o) (by omega) (by omega) (by omega) (by rw [fD,h.w (by omega) (by omega),oH (by omega)];rfl) (by rw [fD,h.w (by omega) (by omega),dq];rfl)
  rw [eJ,h.alive (by omega),h.at8.2.2.2.1,o0,h.mapped (by omega),show(cr (((built kk 1).wr 2 (100+o) 775).fD 3 2) 1024==1)=false by simp;omega];rfl
 ·show((built kk 1).wr 2 5 0).broken=(10,3)
  have h:=(cK kk).wr (p:=2) (o:=5) (v:=0) (by omega) (by omega)
  refine go h (by omega) (by omega) (h.low hst 10 (.inr (g2.upd (by omega))) (.inr (g5.upd (by omega))) (.inr ((g6 (by omega)).upd (by omega))) (.inr (.inr (dB (by omega)))) (.inr (.inr (g8.upd (by omega)))) (.inr (.inr (g9.upd (by omega)))) (.inl (by omega)) (.inl (by omega)) (.inl (by omega))) (fun q a b=>h.r10 (by omega) (by omega)) ?_
  have hn:cr (((built kk 1).wr 2 5 0).fD 3 2) 1024=0:=gu fun x a b=>by
   rw [fD,h.w (by omega) (by omega)]
   by_cases hx:x=5
   ·rw [hx,dq];rfl
   ·rw [oH hx,g10 x a (by omega),if_neg hx]
    by_cases h6:x=6
    ·rw [if_pos h6];rfl
    by_cases h7:x=7
    ·rw [if_neg h6,if_pos h7];rfl
    rw [if_neg h6,if_neg h7];rfl
  rw [eJ,h.alive (by omega),h.at8.2.2.2.1,o0,h.mapped (by omega),hn];rfl
 ·show((built kk 1).wr 2 (i64.wrap (100+o)) 515).broken=(9,2)
  rw [ah (x:=100+o) (by omega)]
  have h:=(cK kk).wr (p:=2) (o:=100+o) (v:=515) (by omega) (by omega)
  refine go h (by omega) (by omega) (h.low hst 9 (.inr (g2.upd (by omega))) (.inr (g5.upd (by omega))) (.inr ((g6 (by omega)).upd (by omega))) (.inr (.inr (dB (by omega)))) (.inr (.inr (g8.upd (by omega)))) (.inl (by omega)) (.inl (by omega)) (.inl (by omega)) (.inl (by omega))) (fun q a b=>h.r9 (by omega) (by omega)) ?_
  rw [eh,h.alive (by omega),kJ,cj (f:=fC _ 2) (x:=100+o) (by omega) (by omega) (by rw [fC,h.w (by omega) (by omega),dq,show(bB 515).aY=true from rfl,show(bB 515).aq=2 from rfl,h.at8.2.2.1,h.of 2 5 (by decide)];rfl),h.at8.2.2.1];rfl
 ·show((built kk 1).wr 2 (i64.wrap (100+o)) 513).broken=(9,2)
  rw [ah (x:=100+o) (by omega)]
  have h:=(cK kk).wr (p:=2) (o:=100+o) (v:=513) (by omega) (by omega)
  refine go h (by omega) (by omega) (h.low hst 9 (.inr (g2.upd (by omega))) (.inr (g5.upd (by omega))) (.inr ((g6 (by omega)).upd (by omega))) (.inr (.inr (dB (by omega)))) (.inr (.inr (g8.upd (by omega)))) (.inl (by omega)) (.inl (by omega)) (.inl (by omega)) (.inl (by omega))) (fun q a b=>h.r9 (by omega) (by omega)) ?_
  rw [eh,h.alive (by omega),kJ,cj (f:=fC _ 2) (x:=100+o) (by omega) (by omega) (by rw [fC,h.w (by omega) (by omega),dq,show(bB 513).aY=false from rfl,show(bB 513).aq=2 from rfl,h.I];rfl),h.at8.2.2.1];rfl
 ·show((built kk 1).wr 2 (i64.wrap (100+o)) 9).broken=(9,2)
  rw [ah (x:=100+o) (by omega)]
  have h:=(cK kk).wr (p:=2) (o:=100+o) (v:=9) (by omega) (by omega)
  refine go h (by omega) (by omega) (h.low hst 9 (.inr (g2.upd (by omega))) (.inr (g5.upd (by omega))) (.inr ((g6 (by omega)).upd (by omega))) (.inr (.inr (dB (by omega)))) (.inr (.inr (g8.upd (by omega)))) (.inl (by omega)) (.inl (by omega)) (.inl (by omega)) (.inl (by omega))) (fun q a b=>h.r9 (by omega) (by omega)) ?_
  rw [eh,h.alive (by omega),kJ,cj (f:=fC _ 2) (x:=100+o) (by omega) (by omega) (by rw [fC,h.w (by omega) (by omega),dq];rfl),h.at8.2.2.1];rfl
 ·show((built kk 1).wr 2 (i64.wrap (100+o)) 1795).broken=(9,2)
  rw [ah (x:=100+o) (by omega)]
  have h:=(cK kk).wr (p:=2) (o:=100+o) (v:=1795) (by omega) (by omega)
  refine go h (by omega) (by omega) (h.low hst 9 (.inr (g2.upd (by omega))) (.inr (g5.upd (by omega))) (.inr ((g6 (by omega)).upd (by omega))) (.inr (.inr (dB (by omega)))) (.inr (.inr (g8.upd (by omega)))) (.inl (by omega)) (.inl (by omega)) (.inl (by omega)) (.inl (by omega))) (fun q a b=>h.r9 (by omega) (by omega)) ?_
  rw [eh,h.alive (by omega),kJ,cj (f:=fC _ 2) (x:=100+o) (by omega) (by omega) (by rw [fC,h.w (by omega) (by omega),dq,show(bB 1795).aY=true from rfl,show(bB 1795).aq=7 from rfl,h.at8.2.2.1,h.of 7 5 (by decide)];rfl),h.at8.2.2.1];rfl
theorem yv(kk:List Int) {k v:Int}(hk:0≤k∧k<1024):(((((built kk 2).wr 1 k v).wr 2 k v).wr 3 k v).wr 0 0 v).broken=(0,0):=by
 have h:=((((qo kk).wr (p:=1) (o:=k) (v:=v) (by omega) (by omega)).wr (p:=2) (o:=k) (v:=v) (by omega) (by omega)).wr (p:=3) (o:=k) (v:=v) (by omega) (by omega)).wr (p:=0) (o:=0) (v:=v) (by omega) (by omega)
 refine sN fun c a b=>h.low (.inr (.inr rfl)) 13 (.inr ?_) (.inr ?_) (.inr ?_) (.inr (.inl rfl)) (.inr (.inl rfl)) (.inr (.inl rfl)) (.inr (.inl rfl)) (.inr ?_) (.inr ?_) c a (by omega) b
 ·exact(((g2.upd (by omega)).upd (by omega)).upd (by omega)).upd (by omega)
 ·exact(((g5.upd (by omega)).upd (by omega)).upd (by omega)).upd (by omega)
 ·exact((((g6 (st:=3) (by omega)).Fq (by omega)).Fq (by omega)).Fq (by omega)).Fq (by omega)
 ·exact(((g11.upd (by omega)).upd (by omega)).upd (by omega)).upd (by omega)
 ·exact(((g12.upd (by omega)).upd (by omega)).upd (by omega)).upd (by omega)
end DB
theorem or1 {v:Int}(hv:0≤v∧v<4294967296):1≤u32.wrap (BitVec.ofInt u32.bits v ||| BitVec.ofInt u32.bits 1).toNat∧u32.wrap (BitVec.ofInt u32.bits v ||| BitVec.ofInt u32.bits 1).toNat<4294967296:=by
 have h:(BitVec.ofInt u32.bits v ||| BitVec.ofInt u32.bits 1).toNat<4294967296:=BitVec.isLt _
 rw [bE (x:=(((BitVec.ofInt u32.bits v ||| BitVec.ofInt u32.bits 1).toNat:Nat):Int)) (by omega)]
 have h2:1≤(BitVec.ofInt u32.bits v ||| BitVec.ofInt u32.bits 1).toNat:=by
  rw [BitVec.toNat_or];exact Nat.right_le_or
 omega
theorem Gb(off:Int):0≤i64.wrap (BitVec.ofInt i64.bits off &&& BitVec.ofInt i64.bits 1023).toNat∧i64.wrap (BitVec.ofInt i64.bits off &&& BitVec.ofInt i64.bits 1023).toNat<1024:=by
 have h:(BitVec.ofInt i64.bits off &&& BitVec.ofInt i64.bits 1023).toNat≤1023:=by
  rw [BitVec.toNat_and];exact Nat.and_le_right
 rw [ah (x:=(((BitVec.ofInt i64.bits off &&& BitVec.ofInt i64.bits 1023).toNat:Nat):Int)) (by omega)]
 omega
theorem Ir {w n:Int}(hn:0<n∧n<1000):0≤Int.tmod (i64.wrap (Int.tmod w n+n)) n∧Int.tmod (i64.wrap (Int.tmod w n+n)) n<n:=by
 have h1:=Int.tmod_lt_of_pos w hn.1
 have h2:=Int.lt_tmod_of_pos w hn.1
 rw [ah (by omega)]
 exact⟨Int.tmod_nonneg _ (by omega),Int.tmod_lt_of_pos _ hn.1⟩
theorem A6 {o one v i:Int}(h1:1≤one∧one<4294967296)(hv:0≤v∧v<4294967296)(hi:0≤i∧i<19):0≤((spL o one v).getD i.toNat ⟨0,0,0,0,0⟩).v∧((spL o one v).getD i.toNat ⟨0,0,0,0,0⟩).v<4294967296:=by
 have tv:=Int.tmod_lt_of_pos v (show(0:Int)<1000 by decide)
 have tv':=Int.tmod_nonneg 1000 hv.1
 have e1:=bE (x:=1+(Int.tmod v 1000)) (by omega)
 have e2:=bE (x:=4097+(Int.tmod v 1000)) (by omega)
 have e3:=bE (x:=2+(Int.tmod v 1000)) (by omega)
 rcases(show i=0∨i=1∨i=2∨i=3∨i=4∨i=5∨i=6∨i=7∨i=8∨i=9∨i=10∨i=11∨i=12∨i=13∨i=14∨i=15∨i=16∨i=17∨i=18 by omega)with rfl | rfl | rfl | rfl | rfl | rfl | rfl | rfl | rfl | rfl | rfl | rfl | rfl | rfl | rfl | rfl | rfl | rfl | rfl<;>simp [spL]<;>omega
end Go.Proofs.YtbjlecpmgocoeaaGreatDoor
end
section
set_option maxRecDepth 100000
namespace Go.Proofs.YtbjlecpmgocoeaaGreatDoor
open Go Go.RowKit V
open Go.IntKind (i64 u32 u64)
open Go.Proofs (Tryz.prog)
def oq(d:Option Addr)(R:ay)(w:World):Prop:=
 ∀(gv:Nat)(wv:World),gv=w.heap.size→wv=w.alloc (.cells #[(.pointer d)] 31)→
 R (.func (.func 132) #[] #[(.pointer (some (Addr.mk gv 0 none)))]) wv
def yh:Ann:= .leaf
theorem DEntries_eq(d:Option Addr)(R:ay)(w:World):oq d R w=vcF Tryz.prog aF [] Tryz.f99 yh [(.pointer d)] R none w:=by kernel_rfl
theorem rq(d:Option Addr) {R:ay} {w:World}(h:oq d R w):Calls Tryz.prog 99 #[(.pointer d)] w fun e w'=>∃v,e= .returned v∧R v w':=
 ao Tryz.func99 au aa ((DEntries_eq d R w).mp h)
def kT(yield:Value)(cap0:Addr)(R:ay)(w:World):Prop:=
 ∃x4:Option Addr,w.cell? cap0=some (.pointer x4)∧
 Calls Tryz.prog 18 #[(.pointer x4)] w fun e wv=>
 ∃x5:Int,e= .returned (.int .i64 x5)∧
 ∃I:Nat→Int→World→Prop,(∃m,I m 0 wv)∧∀(m:Nat)(_gv:Nat→Value)(x6:Int),∀wv1,I m x6 wv1→
 split (decide ((x6:Int)<x5)) (
  ∃x11:Option Addr,wv1.cell? cap0=some (.pointer x11)∧
  Calls Tryz.prog 80 #[(.pointer x11),(.int .i64 x6)] wv1 fun e wv2=>
  ∃x13a:Int,∃x13b:Int,∃x13c:Int,∃x13d:Int,∃x13e:Bool,e= .returned (.agg #[(.int .i64 x13a),(.int .i64 x13b),(.int .i64 x13c),(.int .i64 x13d),(.bool x13e)])∧
  D2 Tryz.prog aF true yield #[(.int .i64 x6),(.agg #[(.int .i64 x13a),(.int .i64 x13b),(.int .i64 x13c),(.int .i64 x13d),(.bool x13e)])] wv2 fun e wv3=>
  ∃x14:Bool,e= .returned (.bool x14)∧
  split (!x14) (
   R (.tuple #[]) wv3) (
   ∃m1,m1<m∧I m1 (i64.wrap (x6+1)) wv3)) (
  R (.tuple #[]) wv1)
def r3:Ann:=(.node none .leaf (.node none (.node (some ⟨[(6,.one (.int .i64))],[3,6,7,8,9,10,11,12,13,14,15,16]⟩) .leaf .leaf) .leaf))
theorem DEntries_1_eq(yield:Value)(cap0:Addr)(R:ay)(w:World):kT yield cap0 R w=vcF Tryz.prog aF [] Tryz.f132 r3 [yield,(.pointer (some cap0))] R none w:=by kernel_rfl
theorem nJ(yield:Value)(cap0:Addr) {R:ay} {w:World}(h:kT yield cap0 R w):Calls Tryz.prog 132 #[yield,(.pointer (some cap0))] w fun e w'=>∃v,e= .returned v∧R v w':=
 ao Tryz.func132 au aa ((DEntries_1_eq yield cap0 R w).mp h)
def tr(d:Option Addr)(space:Int)(R:ay)(w:World):Prop:=
 ∀(gv:Nat)(wv:World),gv=w.heap.size→wv=w.alloc (.cells #[(.int .i64 space)] 3)→
 ∃x9:Int,wv.cell? (Addr.mk gv 0 none)=some (.int .i64 x9)∧
 Calls Tryz.prog 83 #[(.pointer d),(.int .i64 x9)] wv fun e wv1=>
 ∃x10:Bool,e= .returned (.bool x10)∧
 split (!x10) (
  R (.slice none 0 0) wv1) (
  ∀(gv1:Nat)(wv2:World),gv1=wv1.heap.size→wv2=wv1.alloc (.cells (#[(.slice none 0 0)]) 103)→
  Calls Tryz.prog 99 #[(.pointer d)] wv2 fun e wv3=>
  ∃x13:Value,e= .returned x13∧
  ∃(gf:Nat)(cap:Array Value),x13= .func (.func gf) #[] cap∧aF.elem gf=true∧
  ∀(l dl:Nat)(wv4:World),dl=wv3.heap.size→l=wv3.heap.size+1→Kept (fun k=>k<wv3.heap.size) wv3 wv4→l<wv4.heap.size→wv4.heap[dl]? =some (.deferred (some []))→
  ∃(xs:List (List Value))(X:Nat→Prop)(D J Jr:Nat→World→Prop)(Je:Nat→Nat→World→Prop),
  Iter Tryz.prog gf cap xs X D∧(∀k,X k→k<wv3.heap.size)∧(∀x∈xs,vR [.one (.int .i64),.agg [.int .i64,.int .i64,.int .i64,.int .i64,.bool]] fun vs=>x=vs)∧
  (xh X l J∧xh X l Jr∧∀id,xh X l (Je id))∧D 0 wv4∧J 0 wv4∧
  (∀(i:Nat)(A:World),J i A→D i A→∀(x14:Int)(x15a:Int)(x15b:Int)(x15c:Int)(x15d:Int)(x15e:Bool),xs[i]? =some [(.int .i64 x14),(.agg #[(.int .i64 x15a),(.int .i64 x15b),(.int .i64 x15c),(.int .i64 x15d),(.bool x15e)])]→
   ∀(gv2:Nat)(wv6:World),gv2=A.heap.size→wv6=A.alloc (.cells (#[(.int .i64 0),(.int .i64 0),(.int .i64 0),(.int .i64 0),(.bool false)]) 99)→
   ax wv6 (Addr.mk gv2 0 none) [(.int .i64 x15a),(.int .i64 x15b),(.int .i64 x15c),(.int .i64 x15d),(.bool x15e)] fun wv7=>
   Kept (fun k=>X k∨k=l) A wv7∧∀wv5,Kept (fun k=>k<wv7.heap.size∧k≠l) wv7 wv5→
   ∃J1:Bool→World→Prop,(
    ∃x17:Int,wv5.cell? (Addr.mk gv 0 none)=some (.int .i64 x17)∧
    split ((x14:Int) !=x17) (
     ∃x21:Int,wv5.cell? ((Addr.mk gv2 0 none).add 0)=some (.int .i64 x21)∧
     split ((x21:Int) !=0) (
      ∃x26:Int,wv5.cell? ((Addr.mk gv2 0 none).add 1)=some (.int .i64 x26)∧
      ∃x27:Int,wv5.cell? (Addr.mk gv 0 none)=some (.int .i64 x27)∧
      J1 ((x26:Int)==x27) wv5) (
      J1 false wv5)) (
     J1 false wv5))∧∀(_gv3:Nat→Value)(x29:Bool),∀wv8,J1 x29 wv8→
   split x29 (
    ∃x30A:Option Addr,∃x30N:Nat,∃x30C:Nat,wv8.cell? (Addr.mk gv1 0 none)=some (.slice x30A x30N x30C)∧
    ∀(gv4:Nat)(wv9:World),gv4=wv8.heap.size→wv9=wv8.alloc (.cells #[(.int .i64 x14)] 3)→
    ∃x33A:Option Addr,∃x33N:Nat,∃x33C:Nat,∃wv10,(Builtin.append_ #[103,103] 103 #[(.slice x30A x30N x30C),(.slice (some (Addr.mk gv4 0 none)) 1 1)]:Sem Value).run Tryz.prog wv9= .ok (.slice x33A x33N x33C) wv10∧
    ax wv10 (Addr.mk gv1 0 none) [(.slice x33A x33N x33C)] fun wv11=>
    Kept (fun k=>X k∨k=l) wv5 wv11∧J (i+1) wv11) (
    Kept (fun k=>X k∨k=l) wv5 wv8∧J (i+1) wv8))∧
  (∀W,J xs.length W→D xs.length W→
   ∃x34A:Option Addr,∃x34N:Nat,∃x34C:Nat,W.cell? (Addr.mk gv1 0 none)=some (.slice x34A x34N x34C)∧
   W.heap[dl]? =some (.deferred (some []))∧
   R (.slice x34A x34N x34C) (W.putObj dl (.deferred none)))∧
  (∀i W,Jr i W→D i W→
   W.heap[dl]? =some (.deferred (some []))∧
   R (.slice none 0 0) (W.putObj dl (.deferred none)))∧True)
def CO:Ann:=(.node none .leaf (.node none .leaf (.node none .leaf (.node none (.node none .leaf (.node none (.node (some ⟨[(14,.one (.int .i64)),(15,.agg [.int .i64,.int .i64,.int .i64,.int .i64,.bool])],[]⟩) .leaf (.node none (.node none (.node (some ⟨[(29,.one (.bool))],[16,17,18,19,20,21,22,23,24,25,26,27,28,29]⟩) .leaf .leaf) .leaf) .leaf)) .leaf)) .leaf))))
theorem DOwned_eq(d:Option Addr)(space:Int)(R:ay)(w:World):tr d space R w=vcF Tryz.prog aF [] Tryz.f51 CO [(.pointer d),(.int .i64 space)] R none w:=by kernel_rfl
theorem uQ(d:Option Addr)(space:Int) {R:ay} {w:World}(h:tr d space R w):Calls Tryz.prog 51 #[(.pointer d),(.int .i64 space)] w fun e w'=>∃v,e= .returned v∧R v w':=
 ao Tryz.func51 au aa ((DOwned_eq d space R w).mp h)
end Go.Proofs.YtbjlecpmgocoeaaGreatDoor
end
section
set_option maxRecDepth 10000
set_option maxHeartbeats 1000000
namespace Go.Proofs.YtbjlecpmgocoeaaGreatDoor
open Go Go.RowKit V
open Go.IntKind (i64 u32 u64)
def DB.row(D:DB)(p:Nat):List Value:= [.int .i64 (p:Int),.agg #[.int .i64 (D.ent p).typ,.int .i64 (D.ent p).owner,.int .i64 (D.ent p).refs,.int .i64 (D.ent p).state,.bool (D.ent p).aD]]
def DB.rows(D:DB):List (List Value):=(List.range D.S).map D.row
theorem DB.pz(D:DB):D.rows.length=D.S:=by simp [DB.rows]
theorem DB.vg {D:DB} {i:Nat}(h:i<D.S):D.rows[i]? =some (D.row i):=by simp [DB.rows,h]
theorem DB.FB {D:DB} {i:Nat} {x:List Value}(h:D.rows[i]? =some x):i<D.S∧x=D.row i:=by
 have:=(List.getElem?_eq_some_iff.1 h).1
 rw [DB.pz]at this
 rw [DB.vg this]at h
 exact⟨this,(Option.some.inj h).symm⟩
def dy.XI(L:dy)(g:Nat):Nat→Prop:=fun k=>L.X k∨k=g
theorem DBP.it {L:dy} {D:DB} {w A:World} {g:Nat}(h:DBP w L D)(k:Kept (L.XI g) w A):DBP A L D:=h.ch (Ch.FM k) fun _ hx hn=>hn (.inl hx)
theorem DW {L:dy} {D:DB} {w:World}(h:DBP w L D):
 Calls Tryz.prog 99 #[.pointer (some (Addr.mk L.g 0 none))] w fun e w'=>∃v,e= .returned v∧∃g T,v= .func (.func 132) #[] #[.pointer (some (Addr.mk g 0 none))]∧Blk w' g #[.pointer (some (Addr.mk L.g 0 none))] T∧w.heap.size≤g∧Pu w w':=by
 refine rq _ ?_
 refine mkd fun gv wv m=>?_
 exact⟨gv,_,rfl,m.blk,m.lo (Ch.refl (fun _=>False) w),m.pu⟩
theorem IE {L:dy} {D:DB} {w:World} {g:Nat} {T:TypeId}(h:DBP w L D)(hg:Blk w g #[.pointer (some (Addr.mk L.g 0 none))] T):
 Iter Tryz.prog 132 #[.pointer (some (Addr.mk g 0 none))] D.rows (L.XI g) (fun _ A=>Kept (L.XI g) w A):=by
 have hlt:∀k,L.XI g k→k<w.heap.size:=fun k hk=>hk.elim (h.lt k) (fun e=>e▸hg.lt)
 have h64:=h.S64
 refine Bv hlt fun l J Jx W sJ sJx j0 d0 hy=>?_
 rw [DB.pz]
 have pJ:∀ {i A B},J i A→Pu A B→J i B:=fun a q=>sJ _ _ _ a (q.mono fun _ h=>h.elim)
 have jr:∀ {A B},Kept (L.XI g) w A→Pu A B→Kept (L.XI g) w B:=fun a q=>a.trans (q.jr fun k hk=>Nat.lt_of_lt_of_le (hlt k hk) a.size)
 have ld:∀ {A},Kept (L.XI g) w A→A.cell? (Addr.mk g 0 none)=some (.pointer (some (Addr.mk L.g 0 none))):=fun a=>by rw [a.cell (p:=Addr.mk g 0 none) (.inr rfl)];exact hg.at0 rfl
 refine Calls.mono (P:=Tryz.prog) (nJ (.func (.yield l) #[] #[]) (Addr.mk g 0 none) (R:=fun _ B=>(J D.S B∧Kept (L.XI g) w B)∨∃i,Jx i B∧Kept (L.XI g) w B) ?_) (fun e B hh=>by obtain⟨v,h1,h2⟩:=hh;exact⟨⟨v,h1⟩,h2⟩)
 refine⟨_,ld d0,Calls.mono (y7 (h.it d0)) ?_⟩
 rintro e _ ⟨_,rfl,rfl,rfl⟩
 refine⟨_,rfl,?_⟩
 refine⟨fun mz x A=>0≤x∧x≤D.S∧mz=((D.S:Int) - x).toNat∧J x.toNat A∧Kept (L.XI g) w A,⟨_,by omega,by omega,rfl,j0,d0⟩,?_⟩
 rintro mz _ x A ⟨hx0,hx1,rfl,hj,hd⟩
 refine aB (fun c1=>?_) (fun c1=>?_)
 ·refine⟨_,ld hd,Calls.mono (dAt (h.it hd) _ (by simp [DB.has];omega)) ?_⟩
  rintro e A1 ⟨_,rfl,rfl,q1⟩
  refine⟨_,_,_,_,_,rfl,?_⟩
  have hyy:=hy x.toNat _ A1 (DB.vg (by omega)) (pJ hj q1) (jr hd q1)
  simp only [DB.row,show((x.toNat:Nat):Int)=x by omega]at hyy
  refine tw hyy ?_
  rintro e B (⟨rfl,hj2,hk2⟩ | ⟨rfl,hj2,hk2⟩)
  ·refine⟨_,rfl,eQ ?_⟩
   refine⟨_,?_,by rw [IntKind.wrap_i64];omega,by rw [IntKind.wrap_i64];omega,rfl,?_,(jr hd q1).trans hk2⟩
   ·rw [IntKind.wrap_i64];omega
   ·rw [ah (by omega),show(x+1).toNat=x.toNat+1 by omega];exact hj2
  ·exact⟨_,rfl,bk (.inr ⟨_,hj2,(jr hd q1).trans hk2⟩)⟩
 ·exact .inl ⟨by rw [show D.S=x.toNat by omega];exact hj,hd⟩
theorem HK {L:dy} {D:DB} {w:World}(h:DBP w L D)(space:Int):
 Calls Tryz.prog 51 #[.pointer (some (Addr.mk L.g 0 none)),.int .i64 space] w fun e w'=>∃v,e= .returned v∧∃Z':Nat→Prop,∃A':Option Addr,∃N' C':Nat,v= .slice A' N' C'∧Own w' Z' 3 A' N' C' (if D.du space then D.dJ space D.S else [])∧(∀k,Z' k→w.heap.size≤k)∧Pu w w':=by
 refine uQ _ _ ?_
 have h64:=h.S64
 refine mkd fun gv wv m=>?_
 refine⟨_,m.blk.at0 rfl,Calls.mono (qj (h.pu m.pu) _) ?_⟩
 rintro e wv1 ⟨_,rfl,rfl,q1⟩
 refine⟨_,rfl,?_⟩
 have b0:=q1.blk m.blk
 have lg:=m.lo (Ch.refl (fun _=>False) w)
 have p1:Pu w wv1:=Ch.pu m.pu q1
 refine bn (fun c1=>?_) (fun c1=>?_)
 ·exact⟨fun _=>False,_,_,_,rfl,by rw [if_neg (by simp [c1])];exact Own.nil,fun k hk=>hk.elim,p1⟩
 refine mkd fun gv1 wv2 m1=>?_
 have b0:=m1.old b0
 have ne:=m1.ne (q1.blk m.blk)
 have p2:Pu w wv2:=Ch.pu p1 m1.pu
 have lg1:=m1.lo p1
 refine Calls.mono (DW (h.pu p2)) ?_
 rintro e wv3 ⟨_,rfl,g,T,rfl,bg,lgg,q3⟩
 refine⟨_,rfl,_,_,rfl,by kernel_rfl,?_⟩
 intro l dl wv4 hdl hl k4 hl4 hdo
 have b0:=q3.blk b0
 have b1:=q3.blk m1.blk
 have q4:Pu wv3 wv4:=⟨k4.mono fun _ h=>h.1⟩
 have p3:Pu w wv3:=Ch.pu p2 q3
 have p4:Pu w wv4:=Ch.pu p3 q4
 have h4:=h.pu p4
 have bg4:=q4.blk bg
 have glt:=bg.lt
 have g1lt:=(q3.blk m1.blk).lt
 have g0lt:=b0.lt
 have hXlt:∀k,L.XI g k→k<wv3.heap.size:=fun k hk=>hk.elim ((h.pu p3).lt k) (fun e=>e▸glt)
 have nX0:¬L.XI g gv:=fun hx=>hx.elim (fun hx=>absurd (h.lt _ hx) (by omega)) (fun e=>by have:=m1.old (q1.blk m.blk) |>.lt;omega)
 have nX1:¬L.XI g gv1:=fun hx=>hx.elim (fun hx=>absurd (h.lt _ hx) (by omega)) (fun e=>by have:=m1.lt;omega)
 have hw3:=p3.size
 let Zn:Nat→Prop:=fun k=>wv4.heap.size≤k
 let J:Nat→World→Prop:=fun i A=>Ch (L.XI g) w A∧Blk A gv #[.int .i64 space] 3∧(∃ad n c T,Blk A gv1 #[.slice ad n c] T∧Own A Zn 3 ad n c (D.dJ space i))∧A.heap[dl]? =some (.deferred (some []))∧wv4.heap.size≤A.heap.size
 have sJ:xh (L.XI g) l J:=Fu fun i A B hj q=>by
  obtain⟨a1,a2,⟨ad,n,c,T2,a3,a4⟩,a5,a6⟩:=hj
  refine⟨a1.call q fun k hk=>hk.elim .inl (fun e=>.inr (by omega)),q.blk a2 (fun hx=>hx.elim nX0 (by omega)),⟨ad,n,c,T2,q.blk a3 (fun hx=>hx.elim nX1 (by omega)),a4.ch q fun k hk hx=>?_⟩,q.obj a5 (fun hx=>hx.elim (fun hx=>absurd (hXlt _ hx) (by omega)) (by omega)),Nat.le_trans a6 q.size⟩
  have hk:wv4.heap.size≤k:=hk
  exact hx.elim (fun hx=>absurd (hXlt _ hx) (by have:=k4.size;omega)) (by omega)
 refine⟨D.rows,L.XI g,_,J,fun _ _=>False,fun _ _ _=>False,IE h4 bg4,hXlt,?_,⟨sJ,fun _ _ _ h _=>h,fun _ _ _ _ h _=>h⟩,Kept.refl _ _,?_,?_,?_,fun _ _ h _=>h.elim,trivial⟩
 ·intro x hx
  obtain⟨i,hi,rfl⟩:=List.mem_map.1 hx
  exact⟨_,_,_,_,_,_,rfl⟩
 ·exact⟨p4.mono fun _ h=>h.elim,q4.blk b0,⟨_,_,_,_,q4.blk b1,by exact Own.nil⟩,hdo,Nat.le_refl _⟩
 ·rintro i A ⟨a1,a2,⟨ad,n,c,T2,a3,a4⟩,a5,a6⟩ hd x14 xa xb xc xd xe hx
  obtain⟨hi,hx⟩:=DB.FB hx
  simp only [DB.row,List.cons.injEq,Value.int.injEq,Value.agg.injEq,Value.bool.injEq,Array.mk.injEq,and_true,true_and]at hx
  obtain⟨rfl,rfl,rfl,rfl,rfl,rfl⟩:=hx
  refine mkd fun gv2 wv6 m6=>?_
  refine bz m6.blk (by simp) fun wv7 s7=>?_
  have q6:Pu A wv7:=(show Pu A wv6 from m6.pu).stored s7 (.inr (m6.lo (Ch.refl (fun _=>False) A)))
  have hsz:∀k,L.XI g k∨k=l→k<A.heap.size:=fun k hk=>hk.elim (fun hx=>by have:=hXlt _ hx;have:=k4.size;omega) (by omega)
  refine⟨q6.jr hsz,fun wv5 k5=>?_⟩
  have b2:Blk wv7 gv2 #[.int .i64 (D.ent i).typ,.int .i64 (D.ent i).owner,.int .i64 (D.ent i).refs,.int .i64 (D.ent i).state,.bool (D.ent i).aD] _:=s7.blk
  have q5:Ch (fun k=>k=l) wv7 wv5:=⟨k5⟩
  have n2:=m6.num
  have b2:=q5.blk b2 (by omega)
  have qa:Ch (fun k=>k=l) A wv5:=(q6.mono fun _ h=>h.elim).trans q5
  have b0:=qa.blk a2 (by omega)
  refine⟨fun b B=>b=D.fw space i∧B=wv5,?_,?_⟩
  ·refine⟨_,b0.at0 rfl,bt (fun c2=>?_) (fun c2=>⟨by simp [DB.fw,c2],rfl⟩)⟩
   refine⟨_,b2.at rfl,bt (fun c3=>?_) (fun c3=>⟨by simp [DB.fw,c3],rfl⟩)⟩
   exact⟨_,b2.at rfl,_,b0.at0 rfl,by simp [DB.fw,c2,c3],rfl⟩
  rintro _ b B ⟨rfl,rfl⟩
  have e1:D.dJ space (i+1)=if D.fw space i then D.dJ space i++ [I64.mk i]else D.dJ space i:=by
   have:=D.vu space (p:=(i:Int)) (by omega)
   rwa [ah (by omega),show((i:Int)+1).toNat=i+1 by omega,show((i:Nat):Int).toNat=i by omega]at this
  have hj5:Ch (L.XI g) w B∧Blk B gv #[.int .i64 space] 3∧(∃T,Blk B gv1 #[.slice ad n c] T)∧Own B Zn 3 ad n c (D.dJ space i)∧B.heap[dl]? =some (.deferred (some []))∧wv4.heap.size≤B.heap.size:=
   ⟨a1.call qa fun k e=>.inr (by omega),b0,⟨_,qa.blk a3 (by omega)⟩,a4.ch qa (fun k (hk:wv4.heap.size≤k) e=>by omega),qa.obj a5 (by omega),Nat.le_trans a6 qa.size⟩
  obtain⟨c1,c2,⟨T3,c3⟩,c4,c5,c6⟩:=hj5
  cases hb:D.fw space i
  ·refine eQ ⟨Kept.refl _ _,c1,c2,⟨_,_,_,_,c3,by rw [e1,hb];exact c4⟩,c5,c6⟩
  ·refine bk ?_
   refine⟨_,_,_,c3.at0 rfl,?_⟩
   refine mkd fun gv4 wv9 m9=>?_
   have hlen:=(c4.pu m9.pu).len
   have hol:=D.yI space i
   refine(c4.pu m9.pu).app Hi m9.blk (x:=I64.mk i) (by rfl) (by omega) (by omega) (by exact Nat.le_trans c6 m9.pu.size) (fun A9 c9 wv10 o9 q9=>?_)
   have c3:=q9.blk (m9.old c3) (fun hx=>absurd c3.lt (by have hx:wv4.heap.size≤gv1:=hx;omega))
   refine bz c3 (by simp) fun wv11 s11=>?_
   have hZ1:∀k,Zn k→k≠gv1:=fun k (hk:wv4.heap.size≤k) e=>by omega
   have q11:Ch (fun k=>wv4.heap.size≤k∨k=gv1) B wv11:=((show Ch _ B wv9 from m9.pu.mono fun _ h=>h.elim).call q9 fun k hk=>.inl (.inl hk)).call s11.ch fun k e=>.inl (.inr e)
   refine⟨q11.kept.mono fun k hk=>⟨hk.elim (fun hx=>by have:=hXlt _ hx;have:=k4.size;omega) (by omega),fun h=>hk.elim (fun hx=>h.elim (fun h=>absurd (hXlt _ hx) (by have:=k4.size;omega)) (fun e=>nX1 (e▸hx))) (fun e=>h.elim (by omega) (by omega))⟩,?_⟩
   refine⟨c1.call q11 fun k hk=>.inr (hk.elim (fun h=>Nat.le_trans p4.size h) (fun e=>by omega)),q11.blk c2 (fun h=>h.elim (by omega) (fun e=>ne e)),⟨_,_,_,_,s11.blk,by rw [e1,hb];exact o9.ch s11.ch fun k hk e=>hZ1 k hk e⟩,q11.obj c5 (fun h=>h.elim (by omega) (by omega)),Nat.le_trans c6 q11.size⟩
 ·rintro W ⟨a1,a2,⟨ad,n,c,T2,a3,a4⟩,a5,a6⟩ hd
  refine⟨_,_,_,a3.at0 rfl,a5,Zn,_,_,_,rfl,?_,fun k (hk:wv4.heap.size≤k)=>Nat.le_trans p4.size hk,?_⟩
  ·rw [if_pos c1]
   rw [DB.pz]at a4
   exact a4.ch (Pu.put W dl _ (fun k=>k=dl) rfl) fun k (hk:wv4.heap.size≤k) e=>by omega
  ·exact(Pu.join p4 hd a1).call (Pu.put W dl _ (fun k=>k=dl) rfl) fun k e=>.inr (by omega)
end Go.Proofs.YtbjlecpmgocoeaaGreatDoor
end
section
set_option maxRecDepth 100000
set_option maxHeartbeats 1000000
namespace Go.Proofs.YtbjlecpmgocoeaaGreatDoor
open Go Go.RowKit V
open Go.IntKind (i64 u32 u64)
open Go.Proofs (Tryz.prog)
attribute [local grind=] Pd.cI Pd.bJ Pd.jk Pd.jE Pd.cX Pd.cu Pd.eE Pd.gg Pd.lQ
attribute [local grind .] Pd.Ok.ent
attribute [local grind→] Pd.Ok.dC
def zL:Ctr Un:=⟨[.one (.obj 0 0),.agg [.bool,.int .i64]],[],[.ob 0 []],[],fun fa fb rm m K=>K ⟨(.bool (m.has fa fb)),none,[],[],[]⟩⟩
theorem H6:LV Un Tryz.prog 109 zL:=by
 show ∀(fa:Bool)(fb:Int)(rm:Nat→Nat)(m:Mem),∀Q:Ou Un→Prop,(Q ⟨(.bool (m.has fa fb)),none,[],[],[]⟩)→∀(X:Nat→Nat→Prop)(w:World),Sat (U:=Un) [(.ob 0 rm m)] X w→aA (U:=Un) [(.ob 0 rm m)] fr0 []→Calls Tryz.prog 109 #[(.pointer (some (Addr.mk (rm 0) 0 none))),(.agg #[(.bool fa),(.int .i64 fb)])] w (aS (U:=Un) [(.ob 0 rm m)] [] X w Q)
 intro fa fb rm m Q hQ X w hs hl
 obtain⟨L,hg,hM,hX⟩:=Af hs
 rw [hg]
 refine(I9 hM fa fb).mono ?_
 rintro e w' ⟨u,rfl,rfl,q⟩
 exact aS.pu hs q hQ trivial
def uJ:Ctr Un:=⟨[.one (.obj 0 0),.agg [.bool,.int .i64],.one (.int .i64)],[],[.ob 0 []],[],fun fa fb off rm m K=>K ⟨(.int .u32 (m.jR fa fb off)),none,[],[],[]⟩⟩
theorem Gy:LV Un Tryz.prog 98 uJ:=by
 show ∀(fa:Bool)(fb:Int)(off:Int)(rm:Nat→Nat)(m:Mem),∀Q:Ou Un→Prop,(Q ⟨(.int .u32 (m.jR fa fb off)),none,[],[],[]⟩)→∀(X:Nat→Nat→Prop)(w:World),Sat (U:=Un) [(.ob 0 rm m)] X w→aA (U:=Un) [(.ob 0 rm m)] fr0 []→Calls Tryz.prog 98 #[(.pointer (some (Addr.mk (rm 0) 0 none))),(.agg #[(.bool fa),(.int .i64 fb)]),(.int .i64 off)] w (aS (U:=Un) [(.ob 0 rm m)] [] X w Q)
 intro fa fb off rm m Q hQ X w hs hl
 obtain⟨L,hg,hM,hX⟩:=Af hs
 rw [hg]
 refine(Iu hM fa fb off).mono ?_
 rintro e w' ⟨u,rfl,rfl,q⟩
 exact aS.pu hs q hQ trivial
def qV:Ctr Un:=⟨[.one (.obj 0 0),.agg [.bool,.int .i64],.one (.int .i64),.one (.int .u32)],[],[.ob 0 []],[0],fun fa fb off v rm m K=>(0≤(v:Int)∧(v:Int)<4294967296)∧K ⟨(.int .i64 (m.err fa fb off)),none,[.ob 0 (m.write fa fb off v)],[],[]⟩⟩
theorem ER:LV Un Tryz.prog 23 qV:=by
 show ∀(fa:Bool)(fb:Int)(off:Int)(v:Int)(rm:Nat→Nat)(m:Mem),∀Q:Ou Un→Prop,((0≤(v:Int)∧(v:Int)<4294967296)∧Q ⟨(.int .i64 (m.err fa fb off)),none,[.ob 0 (m.write fa fb off v)],[],[]⟩)→∀(X:Nat→Nat→Prop)(w:World),Sat (U:=Un) [(.ob 0 rm m)] X w→aA (U:=Un) [(.ob 0 rm m)] fr0 []→Calls Tryz.prog 23 #[(.pointer (some (Addr.mk (rm 0) 0 none))),(.agg #[(.bool fa),(.int .i64 fb)]),(.int .i64 off),(.int .u32 v)] w (aS (U:=Un) [(.ob 0 rm m)] [0] X w Q)
 intro fa fb off v rm m Q hQ X w hs hl
 obtain⟨hp0,hQ⟩:=hQ
 obtain⟨L,hg,hM,hX⟩:=Af hs
 rw [hg]
 refine(DC hM fa fb off v hp0).mono ?_
 rintro e w' ⟨u,rfl,rfl,h2,q⟩
 exact aS.one (Z:=X 0) (q.mono fun k hk=>(hX k).1 hk) (show bo 0 rm _ (X 0) w' from⟨L,hg,hX,h2⟩) (fun k hk=>.inl hk) hQ trivial
def ft:Ctr Un:=⟨[.one (.obj 0 0)],[],[.ob 1 [(1,1,0)],.ob 0 []],[],fun r E rm m K=>K ⟨(.pointer (some (Addr.mk (r 1) 0 none))),(some (.p (.obj 1 0 0))),[],[],[]⟩⟩
def CQ(r:Nat→Nat)(E:Pd)(rm:Nat→Nat)(m:Mem)(Q:Ou Un→Prop):Prop:=
 Pd.Ok E→
 Mem.Wf m→
 Q ⟨(.pointer (some (Addr.mk (r 1) 0 none))),(some (.p (.obj 1 0 0))),[],[],[]⟩
theorem CR:Vc2 Un Tryz.prog (aV []) [] Tryz.f54 .leaf [] ft=(∀r (E:Pd) rm (m:Mem),∀Q,(ft.body r E rm m Q)→CQ r E rm m Q):=by kernel_rfl
theorem ts:LV Un Tryz.prog 54 ft:=verify Tryz.func54 aa (tb:= []) trivial (by kernel_rfl) (CR.mpr fun r E rm m Q h=>fun f1 f2=>h)
def iZ:Ctr Un:=⟨[.one (.obj 0 0)],[],[.ob 1 []],[],fun r E K=>K ⟨(.int .i64 E.aw),none,[],[],[]⟩⟩
def CV(r:Nat→Nat)(E:Pd)(Q:Ou Un→Prop):Prop:=
 Pd.Ok E→
 Q ⟨(.int .i64 (Pd.aw E)),none,[],[],[]⟩
theorem CW:Vc2 Un Tryz.prog (aV []) [] Tryz.f102 .leaf [] iZ=(∀r (E:Pd),∀Q,(iZ.body r E Q)→CV r E Q):=by kernel_rfl
theorem CU:LV Un Tryz.prog 102 iZ:=verify Tryz.func102 aa (tb:= []) trivial (by kernel_rfl) (CW.mpr fun r E Q h=>fun f1=>eH h (by omega))
def ri:Ctr Un:=⟨[.one (.obj 0 0)],[],[.ob 1 [(1,1,0)],.ob 0 []],[],fun r E rm m K=>E.n=m.S∧K ⟨(.int .i64 ((E.on m).S:Int)),none,[],[],[]⟩⟩
theorem Fc:LV Un Tryz.prog 18 ri:=by
 show ∀(r:Nat→Nat)(E:Pd)(rm:Nat→Nat)(m:Mem),∀Q:Ou Un→Prop,(E.n=m.S∧Q ⟨(.int .i64 ((E.on m).S:Int)),none,[],[],[]⟩)→∀(X:Nat→Nat→Prop)(w:World),Sat (U:=Un) [(.ob 1 r E),(.ob 0 rm m)] X w→aA (U:=Un) [(.ob 1 r E),(.ob 0 rm m)] fr0 [(.l 0 1,.p (.obj 1 0 0))]→Calls Tryz.prog 18 #[(.pointer (some (Addr.mk (r 0) 0 none)))] w (aS (U:=Un) [(.ob 1 r E),(.ob 0 rm m)] [] X w Q)
 intro r E rm m Q hQ X w hs hl
 obtain⟨hn,hQ⟩:=hQ
 obtain⟨a,L,hg,hr,hD,hX0,hX1⟩:=ry hs hl hn
 refine(y7 hD).mono ?_
 rintro e w' ⟨u,rfl,rfl,rfl⟩
 exact aS.pu hs (Ch.refl _ _) hQ trivial
def rp:Ctr Un:=⟨[.one (.obj 0 0),.one (.int .i64)],[],[.ob 1 [(1,1,0)],.ob 0 []],[],fun p r E rm m K=>E.n=m.S∧K ⟨(.tuple #[(.agg #[(.int .i64 (((E.on m).entry p).typ)),(.int .i64 (((E.on m).entry p).owner)),(.int .i64 (((E.on m).entry p).refs)),(.int .i64 (((E.on m).entry p).state)),(.bool (((E.on m).entry p).aD))]),(.int .i64 ((E.on m).jZ p))]),(some (.t [none,none])),[],[],[]⟩⟩
theorem Fh:LV Un Tryz.prog 49 rp:=by
 show ∀(p:Int)(r:Nat→Nat)(E:Pd)(rm:Nat→Nat)(m:Mem),∀Q:Ou Un→Prop,(E.n=m.S∧Q ⟨(.tuple #[(.agg #[(.int .i64 (((E.on m).entry p).typ)),(.int .i64 (((E.on m).entry p).owner)),(.int .i64 (((E.on m).entry p).refs)),(.int .i64 (((E.on m).entry p).state)),(.bool (((E.on m).entry p).aD))]),(.int .i64 ((E.on m).jZ p))]),(some (.t [none,none])),[],[],[]⟩)→∀(X:Nat→Nat→Prop)(w:World),Sat (U:=Un) [(.ob 1 r E),(.ob 0 rm m)] X w→aA (U:=Un) [(.ob 1 r E),(.ob 0 rm m)] fr0 [(.l 0 1,.p (.obj 1 0 0))]→Calls Tryz.prog 49 #[(.pointer (some (Addr.mk (r 0) 0 none))),(.int .i64 p)] w (aS (U:=Un) [(.ob 1 r E),(.ob 0 rm m)] [] X w Q)
 intro p r E rm m Q hQ X w hs hl
 obtain⟨hn,hQ⟩:=hQ
 obtain⟨a,L,hg,hr,hD,hX0,hX1⟩:=ry hs hl hn
 refine(HL hD p).mono ?_
 rintro e w' ⟨u,rfl,rfl,q⟩
 exact aS.pu hs q hQ (KnO.tup _ (by simp))
def jB:Ctr Un:=⟨[.one (.obj 0 0),.one (.int .i64),.one (.int .i64)],[],[.ob 1 [(1,1,0)],.ob 0 []],[0,1],fun p q r E rm m K=>E.n=m.S∧K ⟨(.int .i64 ((E.on m).aQ p q)),none,[.ob 1 (((E.on m).aH p q).pd),.ob 0 (((E.on m).aH p q).mem)],[],[]⟩⟩
theorem uO:LV Un Tryz.prog 32 jB:=by
 show ∀(p:Int)(q:Int)(r:Nat→Nat)(E:Pd)(rm:Nat→Nat)(m:Mem),∀Q:Ou Un→Prop,(E.n=m.S∧Q ⟨(.int .i64 ((E.on m).aQ p q)),none,[.ob 1 (((E.on m).aH p q).pd),.ob 0 (((E.on m).aH p q).mem)],[],[]⟩)→∀(X:Nat→Nat→Prop)(w:World),Sat (U:=Un) [(.ob 1 r E),(.ob 0 rm m)] X w→aA (U:=Un) [(.ob 1 r E),(.ob 0 rm m)] fr0 [(.l 0 1,.p (.obj 1 0 0))]→Calls Tryz.prog 32 #[(.pointer (some (Addr.mk (r 0) 0 none))),(.int .i64 p),(.int .i64 q)] w (aS (U:=Un) [(.ob 1 r E),(.ob 0 rm m)] [0,1] X w Q)
 intro p q r E rm m Q hQ X w hs hl
 obtain⟨hn,hQ⟩:=hQ
 obtain⟨a,L,hg,hr,hD,hX0,hX1⟩:=ry hs hl hn
 refine(y6 hD p q).mono ?_
 rintro e w' ⟨u,rfl,rfl,h2,q⟩
 exact sm hs hX0 hX1 hg hr h2 q hQ trivial
def uN:Ctr Un:=⟨[.one (.obj 0 0),.one (.int .i64),.one (.int .i64),.one (.int .i64)],[],[.ob 1 [(1,1,0)],.ob 0 []],[0,1],fun p t o r E rm m K=>E.n=m.S∧K ⟨(.int .i64 ((E.on m).cn p t o)),none,[.ob 1 (((E.on m).take p t o).pd),.ob 0 (((E.on m).take p t o).mem)],[],[]⟩⟩
theorem GG:LV Un Tryz.prog 34 uN:=by
 show ∀(p:Int)(t:Int)(o:Int)(r:Nat→Nat)(E:Pd)(rm:Nat→Nat)(m:Mem),∀Q:Ou Un→Prop,(E.n=m.S∧Q ⟨(.int .i64 ((E.on m).cn p t o)),none,[.ob 1 (((E.on m).take p t o).pd),.ob 0 (((E.on m).take p t o).mem)],[],[]⟩)→∀(X:Nat→Nat→Prop)(w:World),Sat (U:=Un) [(.ob 1 r E),(.ob 0 rm m)] X w→aA (U:=Un) [(.ob 1 r E),(.ob 0 rm m)] fr0 [(.l 0 1,.p (.obj 1 0 0))]→Calls Tryz.prog 34 #[(.pointer (some (Addr.mk (r 0) 0 none))),(.int .i64 p),(.int .i64 t),(.int .i64 o)] w (aS (U:=Un) [(.ob 1 r E),(.ob 0 rm m)] [0,1] X w Q)
 intro p t o r E rm m Q hQ X w hs hl
 obtain⟨hn,hQ⟩:=hQ
 obtain⟨a,L,hg,hr,hD,hX0,hX1⟩:=ry hs hl hn
 refine(IC hD p t o).mono ?_
 rintro e w' ⟨u,rfl,rfl,h2,q⟩
 exact sm hs hX0 hX1 hg hr h2 q hQ trivial
def uM:Ctr Un:=⟨[.one (.obj 0 0),.one (.int .i64),.one (.int .i64)],[],[.ob 1 [(1,1,0)],.ob 0 []],[0,1],fun p t r E rm m K=>E.n=m.S∧K ⟨(.int .i64 ((E.on m).dD p t)),none,[.ob 1 (((E.on m).hH p t).pd),.ob 0 (((E.on m).hH p t).mem)],[],[]⟩⟩
theorem GF:LV Un Tryz.prog 36 uM:=by
 show ∀(p:Int)(t:Int)(r:Nat→Nat)(E:Pd)(rm:Nat→Nat)(m:Mem),∀Q:Ou Un→Prop,(E.n=m.S∧Q ⟨(.int .i64 ((E.on m).dD p t)),none,[.ob 1 (((E.on m).hH p t).pd),.ob 0 (((E.on m).hH p t).mem)],[],[]⟩)→∀(X:Nat→Nat→Prop)(w:World),Sat (U:=Un) [(.ob 1 r E),(.ob 0 rm m)] X w→aA (U:=Un) [(.ob 1 r E),(.ob 0 rm m)] fr0 [(.l 0 1,.p (.obj 1 0 0))]→Calls Tryz.prog 36 #[(.pointer (some (Addr.mk (r 0) 0 none))),(.int .i64 p),(.int .i64 t)] w (aS (U:=Un) [(.ob 1 r E),(.ob 0 rm m)] [0,1] X w Q)
 intro p t r E rm m Q hQ X w hs hl
 obtain⟨hn,hQ⟩:=hQ
 obtain⟨a,L,hg,hr,hD,hX0,hX1⟩:=ry hs hl hn
 refine(IB hD p t).mono ?_
 rintro e w' ⟨u,rfl,rfl,h2,q⟩
 exact sm hs hX0 hX1 hg hr h2 q hQ trivial
def uS:Ctr Un:=⟨[.one (.obj 0 0),.one (.int .i64)],[],[.ob 1 [(1,1,0)],.ob 0 []],[0,1],fun p r E rm m K=>E.n=m.S∧K ⟨(.int .i64 ((E.on m).cp p)),none,[.ob 1 (((E.on m).eL p).pd),.ob 0 (((E.on m).eL p).mem)],[],[]⟩⟩
theorem GL:LV Un Tryz.prog 38 uS:=by
 show ∀(p:Int)(r:Nat→Nat)(E:Pd)(rm:Nat→Nat)(m:Mem),∀Q:Ou Un→Prop,(E.n=m.S∧Q ⟨(.int .i64 ((E.on m).cp p)),none,[.ob 1 (((E.on m).eL p).pd),.ob 0 (((E.on m).eL p).mem)],[],[]⟩)→∀(X:Nat→Nat→Prop)(w:World),Sat (U:=Un) [(.ob 1 r E),(.ob 0 rm m)] X w→aA (U:=Un) [(.ob 1 r E),(.ob 0 rm m)] fr0 [(.l 0 1,.p (.obj 1 0 0))]→Calls Tryz.prog 38 #[(.pointer (some (Addr.mk (r 0) 0 none))),(.int .i64 p)] w (aS (U:=Un) [(.ob 1 r E),(.ob 0 rm m)] [0,1] X w Q)
 intro p r E rm m Q hQ X w hs hl
 obtain⟨hn,hQ⟩:=hQ
 obtain⟨a,L,hg,hr,hD,hX0,hX1⟩:=ry hs hl hn
 refine(IG hD p).mono ?_
 rintro e w' ⟨u,rfl,rfl,h2,q⟩
 exact sm hs hX0 hX1 hg hr h2 q hQ trivial
def kb:Ctr Un:=⟨[.one (.obj 0 0),.one (.int .i64),.one (.int .i64)],[],[.ob 1 [(1,1,0)],.ob 0 []],[0,1],fun p t r E rm m K=>E.n=m.S∧K ⟨(.int .i64 ((E.on m).aZ p t)),none,[.ob 1 (((E.on m).setState p t).pd),.ob 0 (((E.on m).setState p t).mem)],[],[]⟩⟩
theorem xZ:LV Un Tryz.prog 40 kb:=by
 show ∀(p:Int)(t:Int)(r:Nat→Nat)(E:Pd)(rm:Nat→Nat)(m:Mem),∀Q:Ou Un→Prop,(E.n=m.S∧Q ⟨(.int .i64 ((E.on m).aZ p t)),none,[.ob 1 (((E.on m).setState p t).pd),.ob 0 (((E.on m).setState p t).mem)],[],[]⟩)→∀(X:Nat→Nat→Prop)(w:World),Sat (U:=Un) [(.ob 1 r E),(.ob 0 rm m)] X w→aA (U:=Un) [(.ob 1 r E),(.ob 0 rm m)] fr0 [(.l 0 1,.p (.obj 1 0 0))]→Calls Tryz.prog 40 #[(.pointer (some (Addr.mk (r 0) 0 none))),(.int .i64 p),(.int .i64 t)] w (aS (U:=Un) [(.ob 1 r E),(.ob 0 rm m)] [0,1] X w Q)
 intro p t r E rm m Q hQ X w hs hl
 obtain⟨hn,hQ⟩:=hQ
 obtain⟨a,L,hg,hr,hD,hX0,hX1⟩:=ry hs hl hn
 refine(BB hD p t).mono ?_
 rintro e w' ⟨u,rfl,rfl,h2,q⟩
 exact sm hs hX0 hX1 hg hr h2 q hQ trivial
def iD:Ctr Un:=⟨[.one (.obj 0 0),.one (.int .i64),.one (.bool)],[],[.ob 1 [(1,1,0)],.ob 0 []],[0,1],fun p b r E rm m K=>E.n=m.S∧K ⟨(.int .i64 ((E.on m).bm p)),none,[.ob 1 (((E.on m).aU p b).pd),.ob 0 (((E.on m).aU p b).mem)],[],[]⟩⟩
theorem rY:LV Un Tryz.prog 42 iD:=by
 show ∀(p:Int)(b:Bool)(r:Nat→Nat)(E:Pd)(rm:Nat→Nat)(m:Mem),∀Q:Ou Un→Prop,(E.n=m.S∧Q ⟨(.int .i64 ((E.on m).bm p)),none,[.ob 1 (((E.on m).aU p b).pd),.ob 0 (((E.on m).aU p b).mem)],[],[]⟩)→∀(X:Nat→Nat→Prop)(w:World),Sat (U:=Un) [(.ob 1 r E),(.ob 0 rm m)] X w→aA (U:=Un) [(.ob 1 r E),(.ob 0 rm m)] fr0 [(.l 0 1,.p (.obj 1 0 0))]→Calls Tryz.prog 42 #[(.pointer (some (Addr.mk (r 0) 0 none))),(.int .i64 p),(.bool b)] w (aS (U:=Un) [(.ob 1 r E),(.ob 0 rm m)] [0,1] X w Q)
 intro p b r E rm m Q hQ X w hs hl
 obtain⟨hn,hQ⟩:=hQ
 obtain⟨a,L,hg,hr,hD,hX0,hX1⟩:=ry hs hl hn
 refine(vZ hD p b).mono ?_
 rintro e w' ⟨u,rfl,rfl,h2,q⟩
 exact sm hs hX0 hX1 hg hr h2 q hQ trivial
def rj:Ctr Un:=⟨[.one (.obj 0 0),.one (.int .i64)],[],[.ob 1 [(1,1,0)],.ob 0 []],[],fun s r E rm m K=>E.n=m.S∧∀(A:Option Addr)(c:Nat),K ⟨(.slice A ((own (E.on m) s).length) c),(some (.p (.sl 2 0))),[],[(.lst 0 true 3 A c (own (E.on m) s))],[]⟩⟩
theorem Fe:LV Un Tryz.prog 51 rj:=by
 show ∀(s:Int)(r:Nat→Nat)(E:Pd)(rm:Nat→Nat)(m:Mem),∀Q:Ou Un→Prop,(E.n=m.S∧∀(A:Option Addr)(c:Nat),Q ⟨(.slice A ((own (E.on m) s).length) c),(some (.p (.sl 2 0))),[],[(.lst 0 true 3 A c (own (E.on m) s))],[]⟩)→∀(X:Nat→Nat→Prop)(w:World),Sat (U:=Un) [(.ob 1 r E),(.ob 0 rm m)] X w→aA (U:=Un) [(.ob 1 r E),(.ob 0 rm m)] fr0 [(.l 0 1,.p (.obj 1 0 0))]→Calls Tryz.prog 51 #[(.pointer (some (Addr.mk (r 0) 0 none))),(.int .i64 s)] w (aS (U:=Un) [(.ob 1 r E),(.ob 0 rm m)] [] X w Q)
 intro s r E rm m Q hQ X w hs hl
 obtain⟨hn,hQ⟩:=hQ
 obtain⟨a,L,hg,hr,hD,hX0,hX1⟩:=ry hs hl hn
 refine(HK hD s).mono ?_
 rintro e w' ⟨u,rfl,Z',A',N',C',rfl,ho,hz,q⟩
 have hl2:=ho.len
 subst hl2
 exact aS.more hs q (tL (U:=Un) (t:=0) ho) (fun k hk=>hz k hk.1) (hQ _ _) rfl
def uA:Ctr Un:=⟨[.one (.sl 0)],[],[.lst 1 false 22],[],fun A c l K=>((∀x∈l,0≤x.v∧x.v<4294967296))∧∀(dp:Value),K ⟨(.tuple #[dp,(.int .i64 (Dg.aE l))]),(some (.t [none,none])),[],[],[]⟩⟩
theorem Gu:LV Un Tryz.prog 103 uA:=by
 show ∀(A:Option Addr)(c:Nat)(l:List U32),∀Q:Ou Un→Prop,(((∀x∈l,0≤x.v∧x.v<4294967296))∧∀(dp:Value),Q ⟨(.tuple #[dp,(.int .i64 (Dg.aE l))]),(some (.t [none,none])),[],[],[]⟩)→∀(X:Nat→Nat→Prop)(w:World),Sat (U:=Un) [(.lst 1 false 22 A c l)] X w→aA (U:=Un) [(.lst 1 false 22 A c l)] fr0 []→Calls Tryz.prog 103 #[(.slice A l.length c)] w (aS (U:=Un) [(.lst 1 false 22 A c l)] [] X w Q)
 intro A c l Q hQ X w hs hl
 obtain⟨hw,hQ⟩:=hQ
 have hr:Rd w (X 0) A l.length c l:=hs.res 0 _ rfl
 refine(Ih hr hw).mono ?_
 rintro e w' ⟨u,rfl,p,rfl,_,q⟩
 exact aS.pu hs q (hQ _) (KnO.tup _ (by simp))
end Go.Proofs.YtbjlecpmgocoeaaGreatDoor
end
section
set_option maxRecDepth 100000
set_option maxHeartbeats 1000000
namespace Go.Proofs.YtbjlecpmgocoeaaGreatDoor
open Go Go.RowKit V
open Go.IntKind (i64 u32 u64)
open Go.Proofs (Tryz.prog)
attribute [local grind=] Pd.cI Pd.bJ Pd.jk Pd.jE Pd.cX Pd.cu Pd.eE Pd.gg Pd.lQ Pd.pL
attribute [local grind .] Pd.Ok.ent
attribute [local grind→] Pd.Ok.dC
def my:Ctr Un:=⟨[.one (.obj 0 0)],[],[.ob 1 [(1,1,0)],.ob 0 []],[],fun r E rm m K=>E.n=m.S∧∀(g:Nat)(A:Option Addr)(c:Nat),K ⟨(.pointer (some (Addr.mk g 0 none))),(some (.p (.loc 2 0))),[],[(.blk g [(.pointer (some (Addr.mk (r 0) 0 none))),(.slice A E.aj.length c)] 58),(.lst 4 true 99 A c E.aj)],[(.c 2 0,.p (.obj 0 0 0)),(.c 2 1,.p (.sl 3 0))]⟩⟩
def Gl(r:Nat→Nat)(E:Pd)(rm:Nat→Nat)(m:Mem)(Q:Ou Un→Prop):Prop:=
 Pd.Ok E→
 Mem.Wf m→
 (some (.pointer (some (Addr.mk (r 0) 0 none))):Option Value)=some (.pointer (some (Addr.mk (r 0) 0 none)))∧
 ∀(gv:Nat),
 E.n=m.S∧
 ∃I:Nat→Int→Option Addr→Nat→List Ent→Prop,(∃m1,I m1 0 none 0 ([]:List Ent))∧∀(m1:Nat)(_gv1:Nat→Value)(x12:Int)(A3:Option Addr)(c3:Nat)(l3:List Ent),I m1 x12 A3 c3 l3→
 split (decide (x12<(E.on m).S)) (
  E.n=m.S∧
  ∀(gv2:Nat),
  ∀(gv3:Nat),
  ∀(l:List Ent),l=([Ent.mk (((E.on m).entry x12).typ) (((E.on m).entry x12).owner) (((E.on m).entry x12).refs) (((E.on m).entry x12).state) (((E.on m).entry x12).aD)]:List Ent)→
  ((l3.length+l.length)*40≤140737488355328)∧
  ∀(A:Option Addr)(c:Nat),
  ∀(l1:List Ent),l1=(l3++l)→
  ∃m2,m2<m1∧I m2 (i64.wrap (x12+1)) A c l1) (
  Q ⟨(.pointer (some (Addr.mk gv 0 none))),(some (.p (.loc 2 0))),[],[(.blk gv [(.pointer (some (Addr.mk (r 0) 0 none))),(.slice A3 l3.length c3)] 58),(.lst 4 true 99 A3 c3 l3)],[(.c 2 0,.p (.obj 0 0 0)),(.c 2 1,.p (.sl 3 0))]⟩)
theorem Gm:Vc2 Un Tryz.prog (aV [(18,ri),(49,rp)]) [] Tryz.f21 (.r' (.r' (.two (.r' (.two (.node [(.c 2 1,4,99)] (some ⟨[(12,(.one (.int .i64)))],[],[4,5,6]++upN 12 20,[(2,(.blk [(.k (.obj 0 0 0)),(.k (.sl 3 0))])),(3,(.lst 4))]⟩) [] [] (.r' (.r' (.two (.two (.r' (.r' (.node [] none [] [(4,[2]),(5,[4])] .leaf .leaf))) .leaf) .leaf))) .leaf) .leaf)) .leaf))) [2,3] my=(∀r (E:Pd) rm (m:Mem),∀Q,(my.body r E rm m Q)→Gl r E rm m Q):=by kernel_rfl
theorem Gk:LV Un Tryz.prog 21 my:=verify Tryz.func21 aa (tb:= [(18,ri),(49,rp)]) ⟨Fc,Fh,trivial⟩ (by kernel_rfl) (Gm.mpr fun r E rm m Q h=>by
 obtain⟨hp0,h⟩:=h
 exact fun f1 f2=>ai (by rfl) fun s3=>fun gv=>ai ‹_› fun s4=>⟨fun m1 x12 A3 c3 l3=>(m1=((E.n:Int) - x12).toNat)∧(0≤x12∧x12≤(E.n:Int))∧(l3=E.aj.take x12.toNat),⟨_,rfl,(by omega),(by rfl)⟩,fun m1 _ x12 A3 c3 l3 ⟨hm,hi,hl3⟩=>aB (fun c1=>ai ‹_› fun s5=>fun gv2=>fun gv3=>fun l h_l=>ai (by(have h8:l3.length≤E.n:=by rw [hl3,List.length_take,Pd.cI];omega);rw [h_l];simp;grind) fun s6=>fun A c=>fun l1 h_l1=>⟨_,(by(have h9:=ah (x:=x12+1) (by grind));grind),rfl,(by(have h9:=ah (x:=x12+1) (by grind));grind),(by rw [h_l1,h_l,hl3,ah (x:=x12+1) (by grind),← AX (E:=E) (by grind)];(have hh:(E.on m).entry x12=E.ent x12.toNat:=by(grind [DB.entry]));rw [hh])⟩) fun c1=>(by(have h7:E.aj=l3:=by rw [hl3,List.take_of_length_le];grind);exact aG (h gv A3 c3) rfl rfl (af (congrArg (fun l=>Res.blk (U:=Un) _ l _) (af rfl (af (by grind) rfl))) (af (congrArg (Res.lst (U:=Un) 4 true 99 _ _) ‹_›) rfl)))⟩)
def cA:Ctr Un:=⟨[.one (.ptr 0),.one (.int .i64),.one (.int .i64)],[],[.blk [.obj 1 0,.sl 3] 58,.ob 1 [(1,2,0)],.ob 0 [],.lst 4 false 99],[],fun p t g r E rm m A c l K=>E.n=m.S∧l=E.aj∧(E.on m).has p=true∧K ⟨(.bool ((E.on m).is p t)),none,[],[],[]⟩⟩
def IS(p:Int)(t:Int)(g:Nat)(r:Nat→Nat)(E:Pd)(rm:Nat→Nat)(m:Mem)(A:Option Addr)(c:Nat)(l:List Ent)(Q:Ou Un→Prop):Prop:=
 Pd.Ok E→
 Mem.Wf m→
 (0≤p∧p<(l.length:Int))∧
 Q ⟨(.bool ((l.getD p.toNat Ent.free).typ==t)),none,[],[],[]⟩
theorem IT:Vc2 Un Tryz.prog (aV []) [] Tryz.f56 .leaf [] cA=(∀p t g r (E:Pd) rm (m:Mem) A c (l:List Ent),∀Q,(E.n=m.S∧l=E.aj∧(E.on m).has p=true∧Q ⟨(.bool ((E.on m).is p t)),none,[],[],[]⟩)→IS p t g r E rm m A c l Q):=by kernel_rfl
section
attribute [local grind=] DB.is
theorem im:LV Un Tryz.prog 56 cA:=verify Tryz.func56 aa (tb:= []) trivial (by kernel_rfl) (IT.mpr fun p t g r E rm m A c l Q h=>by
 obtain⟨hp0,hp1,hp2,h⟩:=h
 subst hp1
 exact fun f1 f2=>ai (by grind) fun s3=>bF h (by grind))
end
def fH:Ctr Un:=⟨[.one (.ptr 0),.one (.int .i64)],[],[.blk [.obj 1 0,.sl 3] 58,.ob 1 [(1,2,0)],.ob 0 [],.lst 4 false 99],[],fun p g r E rm m A c l K=>E.n=m.S∧l=E.aj∧(E.on m).has p=true∧K ⟨(.int .i64 ((E.on m).bW p)),none,[],[],[]⟩⟩
def Es(p:Int)(g:Nat)(r:Nat→Nat)(E:Pd)(rm:Nat→Nat)(m:Mem)(A:Option Addr)(c:Nat)(l:List Ent)(Q:Ou Un→Prop):Prop:=
 Pd.Ok E→
 Mem.Wf m→
 (0≤p∧p<(l.length:Int))∧
 ∃J:Bool→Prop,(
  split (decide ((l.getD p.toNat Ent.free).owner<0)) (
   J true) (
   split (decide ((l.getD p.toNat Ent.free).owner≥(l.length:Int))) (
    J true) (
    E.n=m.S∧
    l=E.aj∧
    (E.on m).has ((l.getD p.toNat Ent.free).owner)=true∧
    J (!((E.on m).is ((l.getD p.toNat Ent.free).owner) 1)))))∧∀(_gv:Nat→Value)(x30:Bool),J x30→
 split x30 (
  Q ⟨(.int .i64 (-1)),none,[],[],[]⟩) (
  Q ⟨(.int .i64 ((l.getD p.toNat Ent.free).owner)),none,[],[],[]⟩)
theorem Et:Vc2 Un Tryz.prog (aV [(56,cA)]) [] Tryz.f60 (.r' (.r' (.two (.two (.node [] (some ⟨[(30,(.one .bool))],[],upN 14 17,[]⟩) [] [] .leaf .leaf) .leaf) .leaf))) [] fH=(∀p g r (E:Pd) rm (m:Mem) A c (l:List Ent),∀Q,(E.n=m.S∧l=E.aj∧(E.on m).has p=true∧Q ⟨(.int .i64 ((E.on m).bW p)),none,[],[],[]⟩)→Es p g r E rm m A c l Q):=by kernel_rfl
section
attribute [local grind=] DB.bW DB.is
theorem qC:LV Un Tryz.prog 60 fH:=verify Tryz.func60 aa (tb:= [(56,cA)]) ⟨im,trivial⟩ (by kernel_rfl) (Et.mpr fun p g r E rm m A c l Q h=>by
 obtain⟨hp0,hp1,hp2,h⟩:=h
 subst hp1
 exact fun f1 f2=>ai (by grind) fun s3=>bH ((decide (((E.aj.getD p.toNat Ent.free).owner:Int)<0)) || ((decide (((E.aj.getD p.toNat Ent.free).owner:Int)≥((E.aj.length:Nat):Int))) || (!((E.on m).is ((E.aj.getD p.toNat Ent.free).owner) 1)))) (ae (fun c1=>(by grind)) fun c1=>ae (fun c2=>(by grind)) fun c2=>ai ‹_› fun s4=>ai (by rfl) fun s5=>ai (by grind) fun s6=>(by grind))<| aO (fun c3=>eH h (by grind)) fun c3=>eH h (by grind))
end
def eo:Ctr Un:=⟨[.one (.ptr 0),.one (.int .i64)],[],[.blk [.obj 1 0,.sl 3] 58,.ob 1 [(1,2,0)],.ob 0 [],.lst 4 false 99],[],fun p g r E rm m A c l K=>E.n=m.S∧l=E.aj∧(E.on m).has p=true∧K ⟨(.bool (if(E.on m).is p 1 then((E.on m).at_ p).state !=3 else(E.on m).alive p)),none,[],[],[]⟩⟩
def EB(p:Int)(g:Nat)(r:Nat→Nat)(E:Pd)(rm:Nat→Nat)(m:Mem)(A:Option Addr)(c:Nat)(l:List Ent)(Q:Ou Un→Prop):Prop:=
 Pd.Ok E→
 Mem.Wf m→
 E.n=m.S∧
 l=E.aj∧
 (E.on m).has p=true∧
 split (!((E.on m).is p 1)) (
  E.n=m.S∧
  l=E.aj∧
  (E.on m).has p=true∧
  ∃J:Bool→Prop,(
   split (decide (((E.on m).bW p)≥0)) (
    (0≤((E.on m).bW p)∧((E.on m).bW p)<(l.length:Int))∧
    J ((l.getD (Int.toNat ((E.on m).bW p)) Ent.free).state !=3)) (
    J false))∧∀(_gv:Nat→Value)(x4:Bool),J x4→
  Q ⟨(.bool x4),none,[],[],[]⟩) (
  ∃J:Bool→Prop,(
   split (decide (p≥0)) (
    (0≤p∧p<(l.length:Int))∧
    J ((l.getD p.toNat Ent.free).state !=3)) (
    J false))∧∀(_gv:Nat→Value)(x4:Bool),J x4→
  Q ⟨(.bool x4),none,[],[],[]⟩)
theorem EC:Vc2 Un Tryz.prog (aV [(56,cA),(60,fH)]) [] Tryz.f105 (.r' (.r' (.r' (.two (.node [] (some ⟨[(4,(.one .bool))],[],[4]++upN 14 13,[]⟩) [] [] .leaf .leaf) .leaf)))) [] eo=(∀p g r (E:Pd) rm (m:Mem) A c (l:List Ent),∀Q,(E.n=m.S∧l=E.aj∧(E.on m).has p=true∧Q ⟨(.bool (if(E.on m).is p 1 then((E.on m).at_ p).state !=3 else(E.on m).alive p)),none,[],[],[]⟩)→EB p g r E rm m A c l Q):=by kernel_rfl
section
attribute [local grind=] DB.bW DB.is DB.alive
theorem mC:LV Un Tryz.prog 105 eo:=verify Tryz.func105 aa (tb:= [(56,cA),(60,fH)]) ⟨im,qC,trivial⟩ (by kernel_rfl) (EC.mpr fun p g r E rm m A c l Q h=>by
 obtain⟨hp0,hp1,hp2,h⟩:=h
 subst hp1
 exact fun f1 f2=>ai ‹_› fun s3=>ai (by rfl) fun s4=>ai ‹_› fun s5=>bn (fun c1=>ai ‹_› fun s6=>ai (by rfl) fun s7=>ai ‹_› fun s8=>bH ((decide ((((E.on m).bW p):Int)≥0)) && (((E.aj.getD (Int.toNat ((E.on m).bW p)) Ent.free).state:Int) !=3)) (ae (fun c2=>ai (by grind) fun s9=>(by grind)) fun c2=>(by grind))<| bF h (by grind)) fun c1=>bH ((decide ((p:Int)≥0)) && (((E.aj.getD p.toNat Ent.free).state:Int) !=3)) (ae (fun c3=>ai (by grind) fun s10=>(by grind)) fun c3=>(by grind))<| bF h (by grind))
end
def cS:Ctr Un:=⟨[.one (.ptr 0),.one (.int .i64),.one (.int .i64)],[],[.blk [.obj 1 0,.sl 3] 58,.ob 1 [(1,2,0)],.ob 0 [],.lst 4 false 99],[],fun p o g r E rm m A c l K=>E.n=m.S∧l=E.aj∧K ⟨(.int .u32 ((E.on m).word p o)),none,[],[],[]⟩⟩
def Gg(p:Int)(o:Int)(g:Nat)(r:Nat→Nat)(E:Pd)(rm:Nat→Nat)(m:Mem)(A:Option Addr)(c:Nat)(l:List Ent)(Q:Ou Un→Prop):Prop:=
 Pd.Ok E→
 Mem.Wf m→
 Q ⟨(.int .u32 (m.jR true p o)),none,[],[],[]⟩
theorem Gh:Vc2 Un Tryz.prog (aV [(54,ft),(98,uJ)]) [] Tryz.f101 .leaf [] cS=(∀p o g r (E:Pd) rm (m:Mem) A c (l:List Ent),∀Q,(E.n=m.S∧l=E.aj∧Q ⟨(.int .u32 ((E.on m).word p o)),none,[],[],[]⟩)→Gg p o g r E rm m A c l Q):=by kernel_rfl
section
attribute [local grind=] DB.word
theorem jx:LV Un Tryz.prog 101 cS:=verify Tryz.func101 aa (tb:= [(54,ft),(98,uJ)]) ⟨ts,Gy,trivial⟩ (by kernel_rfl) (Gh.mpr fun p o g r E rm m A c l Q h=>by
 obtain⟨hp0,hp1,h⟩:=h
 subst hp1
 exact fun f1 f2=>eH h (by grind))
end
def eA:Ctr Un:=⟨[.one (.ptr 0),.one (.int .i64),.one (.int .i64),.one (.int .i64)],[],[.blk [.obj 1 0,.sl 3] 58,.ob 1 [(1,2,0)],.ob 0 [],.lst 4 false 99],[],fun p lo hi g r E rm m A c l K=>E.n=m.S∧l=E.aj∧(0≤(lo:Int)∧(hi:Int)≤1024)∧K ⟨(.bool ((E.on m).zero p lo hi)),none,[],[],[]⟩⟩
def Ge(p:Int)(lo:Int)(hi:Int)(g:Nat)(r:Nat→Nat)(E:Pd)(rm:Nat→Nat)(m:Mem)(A:Option Addr)(c:Nat)(l:List Ent)(Q:Ou Un→Prop):Prop:=
 Pd.Ok E→
 Mem.Wf m→
 ∀off:Int,off=lo→
 ∃I:Nat→Int→Prop,(∃m1,I m1 off)∧∀(m1:Nat)(_gv:Nat→Value)(off1:Int),I m1 off1→
 split (decide (off1<hi)) (
  E.n=m.S∧
  l=E.aj∧
  split (((E.on m).word p off1) !=0) (
   Q ⟨(.bool false),none,[],[],[]⟩) (
   ∀off2:Int,off2=(i64.wrap (off1+1))→
   ∃m2,m2<m1∧I m2 off2)) (
  Q ⟨(.bool true),none,[],[],[]⟩)
theorem Gf:Vc2 Un Tryz.prog (aV [(101,cS)]) [9] Tryz.f58 (.r' (.two (.r' (.two (.node [] (some ⟨[(9,(.one (.int .i64)))],[],[8,9]++upN 11 10,[]⟩) [] [] .leaf .leaf) .leaf)) .leaf)) [] eA=(∀p lo hi g r (E:Pd) rm (m:Mem) A c (l:List Ent),∀Q,(E.n=m.S∧l=E.aj∧(0≤(lo:Int)∧(hi:Int)≤1024)∧Q ⟨(.bool ((E.on m).zero p lo hi)),none,[],[],[]⟩)→Ge p lo hi g r E rm m A c l Q):=by kernel_rfl
section
attribute [local grind=] DB.zero
theorem mu:LV Un Tryz.prog 58 eA:=verify Tryz.func58 aa (tb:= [(101,cS)]) ⟨jx,trivial⟩ (by kernel_rfl) (Gf.mpr fun p lo hi g r E rm m A c l Q h=>by
 obtain⟨hp0,hp1,hp2,h⟩:=h
 subst hp1
 exact fun f1 f2=>allEq<| ⟨fun m1 off1=>(m1=(hi - off1).toNat)∧(lo≤off1)∧(ia (fun x=>(E.on m).word p x==0) lo off1=true),⟨_,rfl,(by omega),(iS (Int.le_refl _))⟩,fun m1 _ off1 ⟨hm,hi1,hz⟩=>aB (fun c1=>ai ‹_› fun s3=>ai (by rfl) fun s4=>bt (fun c2=>bF h (by grind [cj])) fun c2=>allEq<| ⟨_,(by(have h9:=ah (x:=off1+1) (by omega));omega),rfl,(by have h9:=ah (x:=off1+1) (by omega);omega),(fm hz (by grind) (ah (by omega)))⟩) fun c1=>bF h (bV.2 fun x a b=>bV.1 hz x a (by omega))⟩)
end
def kA:Ctr Un:=⟨[.one (.ptr 0),.one (.int .i64),.one (.int .i64),.one (.int .i64)],[],[.blk [.obj 1 0,.sl 3] 58,.ob 1 [(1,2,0)],.ob 0 [],.lst 4 false 99],[],fun p lo n g r E rm m A c l K=>E.n=m.S∧l=E.aj∧(0≤(lo:Int)∧(lo:Int)<1024∧0≤(n:Int)∧(n:Int)<1024)∧∀(A1:Option Addr)(c1:Nat),K ⟨(.slice A1 (((E.on m).some_ p lo n.toNat).length) c1),(some (.p (.sl 4 0))),[],[(.lst 1 true 22 A1 c1 ((E.on m).some_ p lo n.toNat))],[]⟩⟩
def Gi(p:Int)(lo:Int)(n:Int)(g:Nat)(r:Nat→Nat)(E:Pd)(rm:Nat→Nat)(m:Mem)(A:Option Addr)(c:Nat)(l:List Ent)(Q:Ou Un→Prop):Prop:=
 Pd.Ok E→
 Mem.Wf m→
 (n=n∧0≤n∧4*n≤281474976710656)∧
 ∀(gv:Nat),
 ∀(l1:List U32),l1=(List.replicate n.toNat (U32.mk 0:U32))→
 ∃I:Nat→Int→Option Addr→Nat→List U32→Prop,(∃m1,I m1 0 (some (Addr.mk gv 0 none)) n.toNat l1)∧∀(m1:Nat)(_gv1:Nat→Value)(x15:Int)(A4:Option Addr)(c4:Nat)(l4:List U32),I m1 x15 A4 c4 l4→
 split (decide (x15<((List.replicate n.toNat (U32.mk 0:U32)).length:Int))) (
  E.n=m.S∧
  l=E.aj∧
  (0≤x15∧x15<(l4.length:Int))∧
  ∀(l2:List U32),l2=(l4.set x15.toNat (U32.mk ((E.on m).word p (i64.wrap (lo+x15)))))→
  ∃m2,m2<m1∧I m2 (i64.wrap (x15+1)) A4 c4 l2) (
  Q ⟨(.slice A4 l4.length c4),(some (.p (.sl 4 0))),[],[(.lst 1 true 22 A4 c4 l4)],[]⟩)
theorem Gj:Vc2 Un Tryz.prog (aV [(101,cS)]) [] Tryz.f104 (.r' (.r' (.two (.r' (.two (.node [] (some ⟨[(15,(.one (.int .i64)))],[(9,(.p (.sl 4 0)))],[10]++upN 15 13,[(4,(.lst 1))]⟩) [] [] .leaf .leaf) .leaf)) .leaf))) [4] kA=(∀p lo n g r (E:Pd) rm (m:Mem) A c (l:List Ent),∀Q,(E.n=m.S∧l=E.aj∧(0≤(lo:Int)∧(lo:Int)<1024∧0≤(n:Int)∧(n:Int)<1024)∧∀(A1:Option Addr)(c1:Nat),Q ⟨(.slice A1 (((E.on m).some_ p lo n.toNat).length) c1),(some (.p (.sl 4 0))),[],[(.lst 1 true 22 A1 c1 ((E.on m).some_ p lo n.toNat))],[]⟩)→Gi p lo n g r E rm m A c l Q):=by kernel_rfl
theorem AF:LV Un Tryz.prog 104 kA:=verify Tryz.func104 aa (tb:= [(101,cS)]) ⟨jx,trivial⟩ (by kernel_rfl) (Gj.mpr fun p lo n g r E rm m A c l Q h=>by
 obtain⟨hp0,hp1,hp2,h⟩:=h
 subst hp1
 exact fun f1 f2=>ai (by omega) fun s3=>fun gv=>fun l1 h_l1=>⟨fun m1 x15 A4 c4 l4=>(m1=(n - x15).toNat)∧(0≤x15∧x15≤n)∧(kP (E.on m) p lo n.toNat x15 l4),⟨_,rfl,(by omega),(by rw [h_l1];exact kP.init _ _ _ _)⟩,fun m1 _ x15 A4 c4 l4 ⟨hm,hi1,hz⟩=>aB (fun c1=>ai ‹_› fun s4=>ai (by rfl) fun s5=>ai (by(grind [kP.len])) fun s6=>fun l2 h_l2=>⟨_,(by(have h9:=ah (x:=x15+1) (by grind));simp at c1;omega),rfl,(by(have h9:=ah (x:=x15+1) (by grind));simp at c1;omega),(by rw [h_l2];exact hz.next hi1.1 (by simp at c1;omega) (by omega))⟩) fun c1=>(by(have h7:(E.on m).some_ p lo n.toNat=l4:=hz.done (by simp at c1;omega));exact aG (h A4 c4) (by grind) rfl (af (congrArg (Res.lst (U:=Un) 1 true 22 _ _) ‹_›) rfl))⟩)
def n9:Ctr Un:=⟨[.one (.ptr 0),.one (.int .i64),.one (.int .i64)],[],[.blk [.obj 1 0,.sl 3] 58,.ob 1 [(1,2,0)],.ob 0 [],.lst 4 false 99],[],fun t o g r E rm m A c l K=>E.n=m.S∧l=E.aj∧∀(A1:Option Addr)(c1:Nat),K ⟨(.slice A1 (((E.on m).pgs t o (E.on m).S).length) c1),(some (.p (.sl 4 0))),[],[(.lst 0 true 3 A1 c1 ((E.on m).pgs t o (E.on m).S))],[]⟩⟩
def IP(t:Int)(o:Int)(g:Nat)(r:Nat→Nat)(E:Pd)(rm:Nat→Nat)(m:Mem)(A:Option Addr)(c:Nat)(l:List Ent)(Q:Ou Un→Prop):Prop:=
 Pd.Ok E→
 Mem.Wf m→
 ∃I:Nat→Int→Option Addr→Nat→List I64→Prop,(∃m1,I m1 0 none 0 ([]:List I64))∧∀(m1:Nat)(_gv:Nat→Value)(x15:Int)(A4:Option Addr)(c4:Nat)(l4:List I64),I m1 x15 A4 c4 l4→
 split (decide (x15<(l.length:Int))) (
  (0≤x15∧x15<(l.length:Int))∧
  ∀(gv1:Nat),
  ∃J:Bool→Prop,(
   split ((l.getD x15.toNat Ent.free).typ==t) (
    J ((l.getD x15.toNat Ent.free).owner==o)) (
    J false))∧∀(_gv2:Nat→Value)(x29:Bool),J x29→
  split x29 (
   ∀(gv3:Nat),
   ∀(l1:List I64),l1=([I64.mk x15]:List I64)→
   ((l4.length+l1.length)*8≤140737488355328)∧
   ∀(A1:Option Addr)(c1:Nat),
   ∀(l2:List I64),l2=(l4++l1)→
   ∃m2,m2<m1∧I m2 (i64.wrap (x15+1)) A1 c1 l2) (
   ∃m2,m2<m1∧I m2 (i64.wrap (x15+1)) A4 c4 l4)) (
  Q ⟨(.slice A4 l4.length c4),(some (.p (.sl 4 0))),[],[(.lst 0 true 3 A4 c4 l4)],[]⟩)
theorem IQ:Vc2 Un Tryz.prog (aV []) [7] Tryz.f106 (.r' (.r' (.two (.r' (.two (.node [(.s 7,0,3)] (some ⟨[(15,(.one (.int .i64)))],[(7,(.p (.sl 4 0)))],[7,8,9]++upN 15 20,[(4,(.lst 0))]⟩) [] [] (.r' (.r' (.two (.two (.r' (.two (.node [] (some ⟨[(29,(.one .bool))],[],upN 20 10,[]⟩) [] [] .leaf .leaf) .leaf)) .leaf) .leaf))) .leaf) .leaf)) .leaf))) [4] n9=(∀t o g r (E:Pd) rm (m:Mem) A c (l:List Ent),∀Q,(E.n=m.S∧l=E.aj∧∀(A1:Option Addr)(c1:Nat),Q ⟨(.slice A1 (((E.on m).pgs t o (E.on m).S).length) c1),(some (.p (.sl 4 0))),[],[(.lst 0 true 3 A1 c1 ((E.on m).pgs t o (E.on m).S))],[]⟩)→IP t o g r E rm m A c l Q):=by kernel_rfl
theorem Eu:LV Un Tryz.prog 106 n9:=verify Tryz.func106 aa (tb:= []) trivial (by kernel_rfl) (IQ.mpr fun t o g r E rm m A c l Q h=>by
 obtain⟨hp0,hp1,h⟩:=h
 subst hp1
 exact fun f1 f2=>⟨fun m1 x15 A4 c4 l4=>(m1=((E.n:Int) - x15).toNat)∧(0≤x15∧x15≤(E.n:Int))∧(l4=(E.on m).pgs t o x15.toNat),⟨_,rfl,(by omega),(by rfl)⟩,fun m1 _ x15 A4 c4 l4 ⟨hm,hi1,hz⟩=>aB (fun c1=>ai (by omega) fun s3=>fun gv1=>bH ((((E.aj.getD x15.toNat Ent.free).typ:Int)==t) && (((E.aj.getD x15.toNat Ent.free).owner:Int)==o)) (ae (fun c2=>(by grind)) fun c2=>(by grind))<| bL (fun c3=>fun gv3=>fun l1 h_l1=>ai (by(have h8:=DB.jj (E.on m) t o x15.toNat);rw [h_l1,hz];simp;grind) fun s4=>fun A1 c1=>fun l2 h_l2=>⟨_,(by(have h9:=ah (x:=x15+1) (by grind));grind),rfl,(by(have h9:=ah (x:=x15+1) (by grind));grind),(by rw [DB.vt _ _ _ (by grind)];(rw [if_pos (by grind)];grind))⟩) fun c3=>⟨_,(by(have h9:=ah (x:=x15+1) (by grind));grind),rfl,(by(have h9:=ah (x:=x15+1) (by grind));grind),(by rw [DB.vt _ _ _ (by grind)];(rw [if_neg (by grind)];exact hz))⟩) fun c1=>(by(have h7:(E.on m).pgs t o (E.on m).S=l4:=by rw [hz,show x15.toNat=(E.on m).S by grind]);exact aG (h A4 c4) (by grind) rfl (af (congrArg (Res.lst (U:=Un) 0 true 3 _ _) ‹_›) rfl))⟩)
def kD:Ctr Un:=⟨[.one (.ptr 0),.one (.int .i64)],[],[.blk [.obj 1 0,.sl 3] 58,.ob 1 [(1,2,0)],.ob 0 [],.lst 4 false 99],[],fun p g r E rm m A c l K=>E.n=m.S∧l=E.aj∧(E.on m).has p=true∧K ⟨(.bool ((E.on m).clause 5 p)),none,[],[],[]⟩⟩
def B6(p:Int)(g:Nat)(r:Nat→Nat)(E:Pd)(rm:Nat→Nat)(m:Mem)(A:Option Addr)(c:Nat)(l:List Ent)(Q:Ou Un→Prop):Prop:=
 Pd.Ok E→
 Mem.Wf m→
 E.n=m.S∧
 l=E.aj∧
 (E.on m).has p=true∧
 split (!((E.on m).is p 1)) (
  Q ⟨(.bool true),none,[],[],[]⟩) (
  E.n=m.S∧
  l=E.aj∧
  ∃J:Bool→Prop,(
   split (decide ((u64.wrap ((E.on m).word p 1))≥(u64.wrap E.aw))) (
    J true) (
    E.n=m.S∧
    l=E.aj∧
    J (decide (((E.on m).word p 2)>4096))))∧∀(_gv:Nat→Value)(x28:Bool),J x28→
  split x28 (
   Q ⟨(.bool false),none,[],[],[]⟩) (
   ∃I:Nat→Int→Prop,(∃m1,I m1 0)∧∀(m1:Nat)(_gv1:Nat→Value)(x30:Int),I m1 x30→
   split (decide (x30<p)) (
    ∃J1:Bool→Prop,(
     E.n=m.S∧
     l=E.aj∧
     (E.on m).has x30=true∧
     split ((E.on m).is x30 1) (
      E.n=m.S∧
      l=E.aj∧
      J1 (((E.on m).word x30 1)==((E.on m).word p 1))) (
      J1 false))∧∀(_gv2:Nat→Value)(x42:Bool),J1 x42→
    split x42 (
     Q ⟨(.bool false),none,[],[],[]⟩) (
     ∃m2,m2<m1∧I m2 (i64.wrap (x30+1)))) (
    Q ⟨(.bool true),none,[],[],[]⟩)))
theorem B7:Vc2 Un Tryz.prog (aV [(56,cA),(101,cS),(102,iZ)]) [] Tryz.f62 (.r' (.r' (.r' (.two (.two (.node [] (some ⟨[(28,(.one .bool))],[],upN 14 15,[]⟩) [] [] .leaf .leaf) .leaf) (.two (.r' (.two (.node [] (some ⟨[(30,(.one (.int .i64)))],[],[4,6]++upN 30 14,[]⟩) [] [] (.r' (.r' (.two (.two (.r' (.two (.node [] (some ⟨[(42,(.one .bool))],[],upN 33 10,[]⟩) [] [] .leaf .leaf) .leaf)) .leaf) .leaf))) .leaf) .leaf)) .leaf))))) [] kD=(∀p g r (E:Pd) rm (m:Mem) A c (l:List Ent),∀Q,(E.n=m.S∧l=E.aj∧(E.on m).has p=true∧Q ⟨(.bool ((E.on m).clause 5 p)),none,[],[],[]⟩)→B6 p g r E rm m A c l Q):=by kernel_rfl
section
attribute [local grind=] DB.gP DB.fY DB.is Pd.mY
theorem B5:LV Un Tryz.prog 62 kD:=verify Tryz.func62 aa (tb:= [(56,cA),(101,cS),(102,iZ)]) ⟨im,jx,CU,trivial⟩ (by kernel_rfl) (B7.mpr fun p g r E rm m A c l Q h=>by
 obtain⟨hp0,hp1,hp2,h⟩:=h
 subst hp1
 exact fun f1 f2=>(by(have hw:=fun a b=>gw (E:=E) f2 a b);(have hi64:=fun a b=>ah (x:=(E.on m).word a b) (by have:=hw a b;omega));(have hu64:=fun a b=>eO (x:=(E.on m).word a b) (by have:=hw a b;omega));(have hub:=eO (x:=E.aw) (by have:=f1.aw;omega));exact ai ‹_› fun s3=>ai (by rfl) fun s4=>ai ‹_› fun s5=>bn (fun c1=>bF h (by grind)) fun c1=>ai ‹_› fun s6=>ai (by rfl) fun s7=>bH ((decide ((u64.wrap ((E.on m).word p 1):Int)≥(u64.wrap E.aw))) || (decide ((((E.on m).word p 2):Int)>4096))) (ae (fun c2=>(by grind)) fun c2=>ai ‹_› fun s8=>ai (by rfl) fun s9=>(by grind))<| aO (fun c3=>bF h (by grind)) fun c3=>⟨fun m1 x30=>(m1=(p - x30).toNat)∧(0≤x30∧x30≤p)∧(ia (fun z=>!(((E.on m).at_ z).typ==1 && (E.on m).word z 1==(E.on m).word p 1)) 0 x30=true),⟨_,rfl,(by grind),(iS (Int.le_refl _))⟩,fun m1 _ x30 ⟨hm,hi1,hz⟩=>aB (fun c4=>bH (((E.on m).is x30 1) && ((((E.on m).word x30 1):Int)==((E.on m).word p 1))) (ai ‹_› fun s10=>ai (by rfl) fun s11=>ai (by grind) fun s12=>ae (fun c5=>ai ‹_› fun s13=>ai (by rfl) fun s14=>(by grind)) fun c5=>(by grind))<| bL (fun c6=>bF h (by rw [DB.gP,DB.fY,cj hi1.1 c4 (by grind)];grind)) fun c6=>⟨_,(by(have h9:=ah (x:=x30+1) (by grind));grind),rfl,(by(have h9:=ah (x:=x30+1) (by grind));grind),(by exact fm hz (by have hh:(E.on m).has x30=true:=(by grind);rw [DB.is,hh]at c6;grind) (ah (by grind)))⟩) fun c4=>bF h (by(have hq:x30=p:=by omega);subst hq;rw [DB.gP,DB.fY,hz];grind)⟩))
end
def mw:Ctr Un:=⟨[.one (.ptr 0),.one (.int .i64)],[],[.blk [.obj 1 0,.sl 3] 58,.ob 1 [(1,2,0)],.ob 0 [],.lst 4 false 99],[],fun p g r E rm m A c l K=>E.n=m.S∧l=E.aj∧(E.on m).has p=true∧K ⟨(.bool ((E.on m).clause 6 p)),none,[],[],[]⟩⟩
def Ep(p:Int)(g:Nat)(r:Nat→Nat)(E:Pd)(rm:Nat→Nat)(m:Mem)(A:Option Addr)(c:Nat)(l:List Ent)(Q:Ou Un→Prop):Prop:=
 Pd.Ok E→
 Mem.Wf m→
 E.n=m.S∧
 l=E.aj∧
 (E.on m).has p=true∧
 split (!((E.on m).is p 1)) (
  Q ⟨(.bool true),none,[],[],[]⟩) (
  E.n=m.S∧
  l=E.aj∧
  (0≤(37:Int)∧(1024:Int)≤1024)∧
  split (!((E.on m).zero p 37 1024)) (
   Q ⟨(.bool false),none,[],[],[]⟩) (
   E.n=m.S∧
   l=E.aj∧
   (0≤(11:Int)∧(11:Int)<1024∧0≤(26:Int)∧(26:Int)<1024)∧
   ∀(A1:Option Addr)(c1:Nat),
   ∀(l1:List U32),l1=(E.on m).some_ p 11 (Int.toNat 26)→
   ((∀x∈l1,0≤x.v∧x.v<4294967296))∧
   ∀(dp:Value),
   ∃J:Bool→Prop,(
    split ((Dg.aE l1)==0) (
     E.n=m.S∧
     l=E.aj∧
     (0≤(3:Int)∧(11:Int)≤1024)∧
     ∀init:Bool,init=((E.on m).zero p 3 11)→
     J init) (
     ∀init:Bool,init=false→
     J init))∧∀(_gv:Nat→Value)(init:Bool),J init→
   E.n=m.S∧
   l=E.aj∧
   (0≤(11:Int)∧(37:Int)≤1024)∧
   (0≤p∧p<(l.length:Int))∧
   ∀x42:Bool,x42=(((l.getD p.toNat Ent.free).state:Int)==1)→
   split x42 (
    Q ⟨(.bool init),none,[],[],[]⟩) (
    ∀x45:Bool,x45=(((l.getD p.toNat Ent.free).state:Int)==2)→
    split x45 (
     Q ⟨(.bool ((E.on m).zero p 11 37)),none,[],[],[]⟩) (
     ∃J1:Bool→Prop,(
      split init (
       J1 true) (
       J1 ((E.on m).zero p 11 37)))∧∀(_gv1:Nat→Value)(x4:Bool),J1 x4→
     Q ⟨(.bool x4),none,[],[],[]⟩))))
theorem Er:Vc2 Un Tryz.prog (aV [(56,cA),(58,eA),(104,kA),(103,uA)]) [7,42,45] Tryz.f63 (.r' (.r' (.r' (.r' (.two (.node [] (some ⟨[(7,(.one .bool))],[],[7]++upN 24 7,[]⟩) [] [] .leaf .leaf) (.r' (.r' (.two (.node [] (some ⟨[(4,(.one .bool))],[],[4,48,49,50,51],[]⟩) [] [] .leaf .leaf) .leaf)))))))) [] mw=(∀p g r (E:Pd) rm (m:Mem) A c (l:List Ent),∀Q,(E.n=m.S∧l=E.aj∧(E.on m).has p=true∧Q ⟨(.bool ((E.on m).clause 6 p)),none,[],[],[]⟩)→Ep p g r E rm m A c l Q):=by kernel_rfl
section
attribute [local grind=] DB.j1 DB.kU DB.u5 DB.is
theorem Eo:LV Un Tryz.prog 63 mw:=verify Tryz.func63 aa (tb:= [(56,cA),(58,eA),(104,kA),(103,uA)]) ⟨im,mu,AF,Gu,trivial⟩ (by kernel_rfl) (Er.mpr fun p g r E rm m A c l Q h=>by
 obtain⟨hp0,hp1,hp2,h⟩:=h
 subst hp1
 exact fun f1 f2=>(by(have hw:=fun a b=>gw (E:=E) f2 a b);(have hi64:=fun a b=>ah (x:=(E.on m).word a b) (by have:=hw a b;omega));(have hu64:=fun a b=>eO (x:=(E.on m).word a b) (by have:=hw a b;omega));exact ai ‹_› fun s3=>ai (by rfl) fun s4=>ai ‹_› fun s5=>bn (fun c1=>bF h (by grind)) fun c1=>ai ‹_› fun s6=>ai (by rfl) fun s7=>ai (by omega) fun s8=>bn (fun c2=>bF h (by grind)) fun c2=>ai ‹_› fun s9=>ai (by rfl) fun s10=>ai (by omega) fun s11=>fun A1 c1=>fun l1 h_l1=>ai (by rw [h_l1];exact u9 f2 _ _ _) fun s12=>fun dp=>bH ((((Dg.aE l1):Int)==0) && ((E.on m).zero p 3 11)) (ae (fun c3=>ai ‹_› fun s13=>ai (by rfl) fun s14=>ai (by omega) fun s15=>allEq<| (by grind)) fun c3=>allEq<| (by grind))<| ai ‹_› fun s16=>ai (by rfl) fun s17=>ai (by omega) fun s18=>ai (by grind) fun s19=>allEq<| aK (fun c4=>bF h (by grind)) fun c4=>allEq<| aK (fun c5=>bF h (by grind)) fun c5=>bH (((((Dg.aE l1):Int)==0) && ((E.on m).zero p 3 11)) || ((E.on m).zero p 11 37)) (ae (fun c6=>(by grind)) fun c6=>(by grind))<| bF h (by grind)))
end
def mB:Ctr Un:=⟨[.one (.ptr 0),.one (.int .i64)],[],[.blk [.obj 1 0,.sl 3] 58,.ob 1 [(1,2,0)],.ob 0 [],.lst 4 false 99],[],fun p g r E rm m A c l K=>E.n=m.S∧l=E.aj∧(E.on m).has p=true∧K ⟨(.bool ((E.on m).clause 7 p)),none,[],[],[]⟩⟩
def Ez(p:Int)(g:Nat)(r:Nat→Nat)(E:Pd)(rm:Nat→Nat)(m:Mem)(A:Option Addr)(c:Nat)(l:List Ent)(Q:Ou Un→Prop):Prop:=
 Pd.Ok E→
 Mem.Wf m→
 ∃J:Bool→Prop,(
  E.n=m.S∧
  l=E.aj∧
  (E.on m).has p=true∧
  split (!((E.on m).is p 1)) (
   J true) (
   E.n=m.S∧
   l=E.aj∧
   (E.on m).has p=true∧
   J (!(if(E.on m).is p 1 then((E.on m).at_ p).state !=3 else(E.on m).alive p))))∧∀(_gv:Nat→Value)(x15:Bool),J x15→
 split x15 (
  Q ⟨(.bool true),none,[],[],[]⟩) (
  E.n=m.S∧
  l=E.aj∧
  ∀(A1:Option Addr)(c1:Nat),
  ∀(l1:List I64),l1=(E.on m).pgs 3 p (E.on m).S→
  ∃J1:Bool→Prop,(
   split (((((E.on m).pgs 3 p (E.on m).S).length):Int)==1) (
    (0≤(0:Int)∧(0:Int)<(l1.length:Int))∧
    E.n=m.S∧
    l=E.aj∧
    J1 (((E.on m).word p 0)==(u32.wrap ((l1.getD (Int.toNat 0) (I64.mk 0)).v)))) (
    J1 false))∧∀(_gv1:Nat→Value)(x4:Bool),J1 x4→
  Q ⟨(.bool x4),none,[],[],[]⟩)
theorem EA:Vc2 Un Tryz.prog (aV [(56,cA),(105,eo),(106,n9),(101,cS)]) [] Tryz.f64 (.r' (.two (.two (.node [] (some ⟨[(15,(.one .bool))],[],upN 6 10,[]⟩) [] [] .leaf .leaf) .leaf) (.r' (.two (.node [] (some ⟨[(4,(.one .bool))],[],[4]++upN 19 13,[]⟩) [] [(9,[4])] .leaf .leaf) .leaf)))) [] mB=(∀p g r (E:Pd) rm (m:Mem) A c (l:List Ent),∀Q,(E.n=m.S∧l=E.aj∧(E.on m).has p=true∧Q ⟨(.bool ((E.on m).clause 7 p)),none,[],[],[]⟩)→Ez p g r E rm m A c l Q):=by kernel_rfl
section
attribute [local grind=] DB.mi DB.mN DB.is
theorem Ey:LV Un Tryz.prog 64 mB:=verify Tryz.func64 aa (tb:= [(56,cA),(105,eo),(106,n9),(101,cS)]) ⟨im,mC,Eu,jx,trivial⟩ (by kernel_rfl) (EA.mpr fun p g r E rm m A c l Q h=>by
 obtain⟨hp0,hp1,hp2,h⟩:=h
 subst hp1
 exact fun f1 f2=>bH ((!((E.on m).is p 1)) || (!(if(E.on m).is p 1 then((E.on m).at_ p).state !=3 else(E.on m).alive p))) (ai ‹_› fun s3=>ai (by rfl) fun s4=>ai ‹_› fun s5=>ae (fun c1=>(by grind)) fun c1=>ai ‹_› fun s6=>ai (by rfl) fun s7=>ai ‹_› fun s8=>(by grind))<| aO (fun c2=>bF h (by grind)) fun c2=>ai ‹_› fun s9=>ai (by rfl) fun s10=>fun A1 c1=>fun l1 h_l1=>bH ((((((((E.on m).pgs 3 p (E.on m).S).length):Nat):Int):Int)==1) && ((((E.on m).word p 0):Int)==(u32.wrap ((l1.getD (Int.toNat 0) (I64.mk 0)).v)))) (ae (fun c3=>ai (by grind) fun s11=>ai ‹_› fun s12=>ai (by rfl) fun s13=>(by grind)) fun c3=>(by grind))<| bF h (by rw [h_l1,DB.first_eq (by grind)];grind))
end
def kz:Ctr Un:=⟨[.one (.ptr 0),.one (.int .i64)],[],[.blk [.obj 1 0,.sl 3] 58,.ob 1 [(1,2,0)],.ob 0 [],.lst 4 false 99],[],fun p g r E rm m A c l K=>E.n=m.S∧l=E.aj∧(E.on m).has p=true∧K ⟨(.bool ((E.on m).clause 11 p)),none,[],[],[]⟩⟩
def BS(p:Int)(g:Nat)(r:Nat→Nat)(E:Pd)(rm:Nat→Nat)(m:Mem)(A:Option Addr)(c:Nat)(l:List Ent)(Q:Ou Un→Prop):Prop:=
 Pd.Ok E→
 Mem.Wf m→
 E.n=m.S∧
 l=E.aj∧
 (E.on m).has p=true∧
 split (!((E.on m).is p 2)) (
  Q ⟨(.bool true),none,[],[],[]⟩) (
  E.n=m.S∧
  l=E.aj∧
  (0≤(18:Int)∧(1024:Int)≤1024)∧
  split (!((E.on m).zero p 18 1024)) (
   Q ⟨(.bool false),none,[],[],[]⟩) (
   (0≤p∧p<(l.length:Int))∧
   split (!((l.getD p.toNat Ent.free).aD)) (
    E.n=m.S∧
    l=E.aj∧
    (0≤(1:Int)∧(18:Int)≤1024)∧
    Q ⟨(.bool ((E.on m).zero p 1 18)),none,[],[],[]⟩) (
    E.n=m.S∧
    l=E.aj∧
    (0≤(1:Int)∧(1:Int)<1024∧0≤(17:Int)∧(17:Int)<1024)∧
    ∀(A1:Option Addr)(c1:Nat),
    ∀(l1:List U32),l1=(E.on m).some_ p 1 (Int.toNat 17)→
    ((∀x∈l1,0≤x.v∧x.v<4294967296))∧
    ∀(gv:Nat),
    ∀(s:Fl),s=Fl.zero→
    Fl.Ok s→
    True∧
    ∀(s1:Fl),s1=(Fl.norm (File.unpack l1))→
    Fl.Ok s1→
    E.n=m.S∧
    l=E.aj∧
    (E.on m).has p=true∧
    ∃J:Bool→Prop,(
     split ((File.fh l1)==0) (
      split (decide (((E.on m).bW p)<0)) (
       J true) (
       (0≤((E.on m).bW p)∧((E.on m).bW p)<(l.length:Int))∧
       J ((l.getD (Int.toNat ((E.on m).bW p)) Ent.free).state !=1))) (
      J false))∧∀(_gv1:Nat→Value)(x4:Bool),J x4→
    Q ⟨(.bool x4),none,[],[],[]⟩)))
theorem BT:Vc2 Un Tryz.prog (aV [(56,cA),(58,eA),(104,kA),(110,kE),(60,fH)]) [] Tryz.f68 (.r' (.r' (.r' (.r' (.r' (.r' (.two (.node [] (some ⟨[(4,(.one .bool))],[],[4]++upN 38 17,[]⟩) [] [] .leaf .leaf) .leaf))))))) [] kz=(∀p g r (E:Pd) rm (m:Mem) A c (l:List Ent),∀Q,(E.n=m.S∧l=E.aj∧(E.on m).has p=true∧Q ⟨(.bool ((E.on m).clause 11 p)),none,[],[],[]⟩)→BS p g r E rm m A c l Q):=by kernel_rfl
section
attribute [local grind=] DB.iR DB.jc DB.is DB.bW
theorem BR:LV Un Tryz.prog 68 kz:=verify Tryz.func68 aa (tb:= [(56,cA),(58,eA),(104,kA),(110,kE),(60,fH)]) ⟨im,mu,AF,CD,qC,trivial⟩ (by kernel_rfl) (BT.mpr fun p g r E rm m A c l Q h=>by
 obtain⟨hp0,hp1,hp2,h⟩:=h
 subst hp1
 exact fun f1 f2=>(by(have hw:=fun a b=>gw (E:=E) f2 a b);(have hi64:=fun a b=>ah (x:=(E.on m).word a b) (by have:=hw a b;omega));(have hu64:=fun a b=>eO (x:=(E.on m).word a b) (by have:=hw a b;omega));exact ai ‹_› fun s3=>ai (by rfl) fun s4=>ai ‹_› fun s5=>bn (fun c1=>bF h (by grind)) fun c1=>ai ‹_› fun s6=>ai (by rfl) fun s7=>ai (by omega) fun s8=>bn (fun c2=>bF h (by grind)) fun c2=>ai (by grind) fun s9=>bn (fun c3=>ai ‹_› fun s10=>ai (by rfl) fun s11=>ai (by omega) fun s12=>bF h (by grind)) fun c3=>ai ‹_› fun s13=>ai (by rfl) fun s14=>ai (by omega) fun s15=>fun A1 c1=>fun l1 h_l1=>ai (by rw [h_l1];exact u9 f2 _ _ _) fun s16=>fun gv=>fun s h_s f17=>ai trivial fun _=>fun s1 h_s1 f19=>ai ‹_› fun s20=>ai (by rfl) fun s21=>ai ‹_› fun s22=>bH ((((File.fh l1):Int)==0) && ((decide ((((E.on m).bW p):Int)<0)) || (((E.aj.getD (Int.toNat ((E.on m).bW p)) Ent.free).state:Int) !=1))) (ae (fun c4=>ae (fun c5=>(by grind)) fun c5=>ai (by grind) fun s23=>(by grind)) fun c4=>(by grind))<| bF h (by grind)))
end
end Go.Proofs.YtbjlecpmgocoeaaGreatDoor
end
section
set_option maxRecDepth 100000
set_option maxHeartbeats 1000000
namespace Go.Proofs.YtbjlecpmgocoeaaGreatDoor
open Go Go.RowKit V
open Go.IntKind (i64 u32 u64)
open Go.Proofs (Tryz.prog)
attribute [local grind=] Pd.cI Pd.bJ Pd.jk Pd.jE Pd.cX Pd.cu Pd.eE Pd.gg Pd.lQ Pd.pL
attribute [local grind .] Pd.Ok.ent
attribute [local grind→] Pd.Ok.dC
def mA:Ctr Un:=⟨[.one (.ptr 0),.one (.int .i64)],[],[.blk [.obj 1 0,.sl 3] 58,.ob 1 [(1,2,0)],.ob 0 [],.lst 4 false 99],[],fun p g r E rm m A c l K=>E.n=m.S∧l=E.aj∧(E.on m).has p=true∧K ⟨(.bool ((E.on m).clause 8 p)),none,[],[],[]⟩⟩
def Ew(p:Int)(g:Nat)(r:Nat→Nat)(E:Pd)(rm:Nat→Nat)(m:Mem)(A:Option Addr)(c:Nat)(l:List Ent)(Q:Ou Un→Prop):Prop:=
 Pd.Ok E→
 Mem.Wf m→
 ∃J:Bool→Prop,(
  E.n=m.S∧
  l=E.aj∧
  (E.on m).has p=true∧
  split (!((E.on m).is p 3)) (
   J true) (
   E.n=m.S∧
   l=E.aj∧
   (E.on m).has p=true∧
   J (!(if(E.on m).is p 1 then((E.on m).at_ p).state !=3 else(E.on m).alive p))))∧∀(_gv:Nat→Value)(x23:Bool),J x23→
 split x23 (
  Q ⟨(.bool true),none,[],[],[]⟩) (
  E.n=m.S∧
  l=E.aj∧
  (0≤(256:Int)∧(1024:Int)≤1024)∧
  split (!((E.on m).zero p 256 1024)) (
   Q ⟨(.bool false),none,[],[],[]⟩) (
   ((64:Int)=64∧0≤(64:Int)∧1*(64:Int)≤281474976710656)∧
   ∀(gv1:Nat),
   ∀(l1:List Bl),l1=(List.replicate (Int.toNat 64) (Bl.mk false:Bl))→
   ∀count:Int,count=0→
   (0≤p∧p<(l.length:Int))∧
   E.n=m.S∧
   l=E.aj∧
   ∀(A1:Option Addr)(c1:Nat),
   ∀(l2:List I64),l2=(E.on m).pgs 4 ((l.getD p.toNat Ent.free).owner) (E.on m).S→
   ∃I:Nat→Int→Int→Option Addr→Nat→List Bl→Prop,(∃m1,I m1 count 0 (some (Addr.mk gv1 0 none)) (Int.toNat 64) l1)∧∀(m1:Nat)(_gv2:Nat→Value)(count1:Int)(x39:Int)(A4:Option Addr)(c4:Nat)(l4:List Bl),I m1 count1 x39 A4 c4 l4→
   split (decide (x39<256)) (
    E.n=m.S∧
    l=E.aj∧
    split (((E.on m).word p x39)==0) (
     ∃m2,m2<m1∧I m2 count1 (i64.wrap (x39+1)) A4 c4 l4) (
     (0≤((E.on m).word p x39)∧((E.on m).word p x39)<4294967296)∧
     ∃J1:Bool→Prop,(
      split ((pE ((E.on m).word p x39)) !=0) (
       J1 true) (
       (0≤(aR ((E.on m).word p x39))∧(aR ((E.on m).word p x39))<(l4.length:Int))∧
       J1 ((l4.getD (Int.toNat (aR ((E.on m).word p x39))) (Bl.mk false)).v)))∧∀(_gv3:Nat→Value)(x60:Bool),J1 x60→
     split x60 (
      Q ⟨(.bool false),none,[],[],[]⟩) (
      ∃I1:Nat→Int→Int→Option Addr→Nat→List Bl→Prop,(∃m3,I1 m3 count1 0 A4 c4 l4)∧∀(m3:Nat)(_gv4:Nat→Value)(count2:Int)(x63:Int)(A41:Option Addr)(c41:Nat)(l41:List Bl),I1 m3 count2 x63 A41 c41 l41→
      split (decide (x63<((((E.on m).pgs 4 ((l.getD p.toNat Ent.free).owner) (E.on m).S).length):Int))) (
       (0≤x63∧x63<(l2.length:Int))∧
       split ((l2.getD x63.toNat (I64.mk 0)).v==(aR ((E.on m).word p x39))) (
        (0≤(aR ((E.on m).word p x39))∧(aR ((E.on m).word p x39))<(l41.length:Int))∧
        ∀(l3:List Bl),l3=(l41.set (Int.toNat (aR ((E.on m).word p x39))) (Bl.mk true))→
        ∀count3:Int,count3=(i64.wrap (count2+1))→
        ∃m2,m2<m1∧I m2 count3 (i64.wrap (x39+1)) A41 c41 l3) (
        ∃m4,m4<m3∧I1 m4 count2 (i64.wrap (x63+1)) A41 c41 l41)) (
       Q ⟨(.bool false),none,[],[],[]⟩)))) (
    Q ⟨(.bool (count1==((((E.on m).pgs 4 ((l.getD p.toNat Ent.free).owner) (E.on m).S).length):Int))),none,[],[],[]⟩)))
theorem Ex:Vc2 Un Tryz.prog (aV [(56,cA),(105,eo),(58,eA),(106,n9),(101,cS),(107,ek)]) [6] Tryz.f65 (.r' (.two (.two (.two (.node [] (some ⟨[(23,(.one .bool))],[],upN 14 10,[]⟩) [] [] .leaf .leaf) .leaf) (.r' (.r' (.r' (.r' (.two (.r' (.two (.node [] (some ⟨[(6,(.one (.int .i64))),(39,(.one (.int .i64)))],[(5,(.p (.sl 4 0)))],[4,6,8,9,10,11,13]++upN 39 38,[(4,(.lst 3))]⟩) [] [] (.r' (.r' (.two (.two (.r' (.r' (.r' (.r' (.two (.two (.node [] (some ⟨[(60,(.one .bool))],[],upN 53 8,[]⟩) [] [] .leaf .leaf) .leaf) (.two (.r' (.two (.node [] (some ⟨[(6,(.one (.int .i64))),(63,(.one (.int .i64)))],[(5,(.p (.sl 4 0)))],[6,13]++upN 63 13,[(4,(.lst 3))]⟩) [] [] .leaf .leaf) .leaf)) .leaf)))))) .leaf) .leaf))) .leaf) .leaf)) .leaf)))))) .leaf)) [] mA=(∀p g r (E:Pd) rm (m:Mem) A c (l:List Ent),∀Q,(E.n=m.S∧l=E.aj∧(E.on m).has p=true∧Q ⟨(.bool ((E.on m).clause 8 p)),none,[],[],[]⟩)→Ew p g r E rm m A c l Q):=by kernel_rfl
section
attribute [local grind=] DB.dP DB.is
theorem Ev:LV Un Tryz.prog 65 mA:=verify Tryz.func65 aa (tb:= [(56,cA),(105,eo),(58,eA),(106,n9),(101,cS),(107,ek)]) ⟨im,mC,mu,Eu,jx,rE,trivial⟩ (by kernel_rfl) (Ex.mpr fun p g r E rm m A c l Q h=>by
 obtain⟨hp0,hp1,hp2,h⟩:=h
 subst hp1
 exact fun f1 f2=>(by(have hw:=fun a b=>gw (E:=E) f2 a b);(have hge:E.aj.getD p.toNat Ent.free=(E.on m).at_ p:=by rw [Pd.bJ (by grind),Pd.jE]);exact bH ((!((E.on m).is p 3)) || (!(if(E.on m).is p 1 then((E.on m).at_ p).state !=3 else(E.on m).alive p))) (ai ‹_› fun s3=>ai (by rfl) fun s4=>ai ‹_› fun s5=>ae (fun c1=>(by grind)) fun c1=>ai ‹_› fun s6=>ai (by rfl) fun s7=>ai ‹_› fun s8=>(by grind))<| aO (fun c2=>bF h (by grind)) fun c2=>(by(have hty:((E.on m).at_ p).typ=3∧(E.on m).alive p=true:=by grind);exact ai ‹_› fun s9=>ai (by rfl) fun s10=>ai (by omega) fun s11=>bn (fun c3=>bF h (by rw [DB.dP,DB.fg,c3];simp [hty])) fun c3=>ai (by omega) fun s12=>fun gv1=>fun l1 h_l1=>allEq<| ai (by grind) fun s13=>ai ‹_› fun s14=>ai (by rfl) fun s15=>fun A1 c1=>fun l2 h_l2=>⟨fun m1 count1 x39 A4 c4 l4=>(m1=(256 - x39).toNat)∧(0≤x39∧x39≤256)∧(DB.Nms (E.on m) p x39 count1 l4),⟨_,rfl,(by omega),(by rw [h_l1];exact DB.Nms.init _ _)⟩,fun m1 _ count1 x39 A4 c4 l4 ⟨hm,hx,hn⟩=>(by(have hl2:l2=(E.on m).pgs 4 ((E.on m).at_ p).owner (E.on m).S:=by rw [h_l2,hge]);(have h64:(l2.length:Int)≤64:=by rw [hl2];(have h8:=DB.jj (E.on m) 4 ((E.on m).at_ p).owner (E.on m).S);have h7:=f1.dC;(rw [Pd.pL _ _ hp0]at h8 ⊢);omega);(have hcb:0≤count1∧count1≤64:=by rw [hn.cnt];(have h7:=mh (f:=fun q=>(E.on m).named p x39 q==1) (n:=((E.on m).S:Int)) (by omega));(have h6:=gk (f:=fun q=>(E.on m).named p x39 q==1) (n:=((E.on m).S:Int)));have h5:=f1.dC;(rw [Pd.pL _ _ hp0]at h7 h6 ⊢);omega);exact aB (fun c4=>ai ‹_› fun s16=>ai (by rfl) fun s17=>aK (fun c5=>⟨_,(by rw [ah (x:=x39+1) (by omega)];omega),rfl,(by rw [ah (x:=x39+1) (by omega)];omega),(by rw [ah (x:=x39+1) (by omega)];exact hn.skip hx.1 c5)⟩) fun c5=>ai (hw p x39) fun s18=>bH ((((pE ((E.on m).word p x39)):Int) !=0) || ((l4.getD (Int.toNat (aR ((E.on m).word p x39))) (Bl.mk false)).v)) (ae (fun c6=>(by grind)) fun c6=>ai (by(have h8:=oI (hw p x39).1);(have h7:=hn.len);(rw [h7];exact h8)) fun s19=>(by grind))<| aO (fun c7=>bF h (by(have hb:=hn.bad ⟨hx.1,c4⟩ (hw p x39).1 c5 (fun he ho=>by rcases c7 with h | h;(simp [he]at h);exact h));rw [DB.dP,hb];simp [hty])) fun c7=>⟨fun m3 count2 x63 A41 c41 l41=>(m3=((l2.length:Int) - x63).toNat)∧(0≤x63∧x63≤(l2.length:Int))∧(count2=count1)∧(l41=l4)∧(∀j:Nat,(j:Int)<x63→¬(l2.getD j (I64.mk 0)).v=aR ((E.on m).word p x39)),⟨_,rfl,(by omega),(by rfl),(by rfl),(by intro j hj;omega)⟩,fun m3 _ count2 x63 A41 c41 l41 ⟨hm,hy,hc2,hl41,hno⟩=>(by have hy2:x63<(l2.length:Int)∨¬x63<(l2.length:Int):=Classical.em _;exact aB (fun c8=>ai (by rw [h_l2];exact⟨hy.1,c8⟩) fun s20=>aK (fun c9=>ai (by(have h8:=oI (hw p x39).1);(have h7:=hn.len);(rw [hl41,h7];exact h8)) fun s21=>fun l3 h_l3=>allEq<| ⟨_,(by rw [ah (x:=x39+1) (by omega)];omega),rfl,(by rw [ah (x:=x39+1) (by omega)];omega),(by rw [ah (x:=x39+1) (by omega)];(rw [h_l3,hl41,hc2,ah (x:=count1+1) (by omega)];exact hn.put hx.1 (hw p x39).1 c5 (by simpa using c7.1) c7.2 (DB.HD hl2 ⟨hy.1,by rw [h_l2];exact c8⟩ c9)))⟩) fun c9=>⟨_,(by have c8':=c8;rw [← h_l2]at c8';rw [ah (x:=x63+1) (by omega)];omega),rfl,(by have c8':=c8;rw [← h_l2]at c8';rw [ah (x:=x63+1) (by omega)];omega),(hc2),(hl41),(by have c8':=c8;rw [← h_l2]at c8';rw [ah (x:=x63+1) (by omega)];intro j hj;by_cases hjx:(j:Int)=x63;(have hjn:j=x63.toNat:=by omega);subst hjn;exact c9;exact hno j (by omega))⟩) fun c8=>bF h (by(have hb:=hn.bad ⟨hx.1,c4⟩ (hw p x39).1 c5 (fun _ ho=>by rw [DB.FO hl2 (fun j hj=>hno j (by rw [← h_l2]at c8;omega))]at ho;cases ho));rw [DB.dP,hb];simp [hty]))⟩) fun c4=>bF h (by(have hx256:x39=256:=by omega);subst hx256;rw [DB.dP,hn.done (by rw [Pd.pL _ _ hp0];exact f1.dC) c3,hge];simp [hty]))⟩)))
end
def oP:Ctr Un:=⟨[.one (.ptr 0),.one (.int .i64)],[],[.blk [.obj 1 0,.sl 3] 58,.ob 1 [(1,2,0)],.ob 0 [],.lst 4 false 99],[],fun p g r E rm m A c l K=>E.n=m.S∧l=E.aj∧(E.on m).has p=true∧K ⟨(.bool ((E.on m).clause 9 p)),none,[],[],[]⟩⟩
def Gp(p:Int)(g:Nat)(r:Nat→Nat)(E:Pd)(rm:Nat→Nat)(m:Mem)(A:Option Addr)(c:Nat)(l:List Ent)(Q:Ou Un→Prop):Prop:=
 Pd.Ok E→
 Mem.Wf m→
 ∃J:Bool→Prop,(
  E.n=m.S∧
  l=E.aj∧
  (E.on m).has p=true∧
  split (!((E.on m).is p 4)) (
   J true) (
   E.n=m.S∧
   l=E.aj∧
   (E.on m).has p=true∧
   J (!(if(E.on m).is p 1 then((E.on m).at_ p).state !=3 else(E.on m).alive p))))∧∀(_gv:Nat→Value)(x18:Bool),J x18→
 split x18 (
  Q ⟨(.bool true),none,[],[],[]⟩) (
  ∃I:Nat→Int→Prop,(∃m1,I m1 0)∧∀(m1:Nat)(_gv1:Nat→Value)(x19:Int),I m1 x19→
  split (decide (x19<1024)) (
   E.n=m.S∧
   l=E.aj∧
   split (((E.on m).word p x19)==0) (
    ∃m2,m2<m1∧I m2 (i64.wrap (x19+1))) (
    (0≤((E.on m).word p x19)∧((E.on m).word p x19)<4294967296)∧
    ∀(gv2:Nat),
    ∃J1:Bool→Prop,(
     split ((jQ ((E.on m).word p x19)) !=0) (
      J1 true) (
      J1 (!(m.has ((bB ((E.on m).word p x19)).aY) ((bB ((E.on m).word p x19)).aq)))))∧∀(_gv3:Nat→Value)(x45:Bool),J1 x45→
    split x45 (
     Q ⟨(.bool false),none,[],[],[]⟩) (
     ∃J2:Bool→Prop,(
      split ((bB ((E.on m).word p x19)).aY) (
       E.n=m.S∧
       l=E.aj∧
       (E.on m).has ((bB ((E.on m).word p x19)).aq)=true∧
       split (!((E.on m).is ((bB ((E.on m).word p x19)).aq) 5)) (
        J2 true) (
        (0≤(bB ((E.on m).word p x19)).aq∧(bB ((E.on m).word p x19)).aq<(l.length:Int))∧
        (0≤p∧p<(l.length:Int))∧
        J2 ((l.getD (Int.toNat ((bB ((E.on m).word p x19)).aq)) Ent.free).owner !=((l.getD p.toNat Ent.free).owner)))) (
       J2 false))∧∀(_gv4:Nat→Value)(x77:Bool),J2 x77→
     split x77 (
      Q ⟨(.bool false),none,[],[],[]⟩) (
      ∃m2,m2<m1∧I m2 (i64.wrap (x19+1)))))) (
   Q ⟨(.bool true),none,[],[],[]⟩))
theorem Gq:Vc2 Un Tryz.prog (aV [(56,cA),(105,eo),(101,cS),(108,cw),(54,ft),(109,zL)]) [] Tryz.f66 (.r' (.two (.two (.node [] (some ⟨[(18,(.one .bool))],[],upN 9 10,[]⟩) [] [] .leaf .leaf) .leaf) (.two (.r' (.two (.node [] (some ⟨[(19,(.one (.int .i64)))],[],upN 4 5++upN 19 60,[]⟩) [] [] (.r' (.r' (.two (.two (.r' (.r' (.r' (.r' (.two (.two (.node [] (some ⟨[(45,(.one .bool))],[],upN 33 13,[]⟩) [] [(6,[0]),(9,[4])] .leaf .leaf) .leaf) (.two (.node [] (some ⟨[(77,(.one .bool))],[],upN 46 32,[]⟩) [] [(2,[4]),(7,[4]),(14,[0]),(17,[4]),(20,[3]),(24,[0]),(28,[3])] .leaf .leaf) .leaf)))))) .leaf) .leaf))) .leaf) .leaf)) .leaf))) [] oP=(∀p g r (E:Pd) rm (m:Mem) A c (l:List Ent),∀Q,(E.n=m.S∧l=E.aj∧(E.on m).has p=true∧Q ⟨(.bool ((E.on m).clause 9 p)),none,[],[],[]⟩)→Gp p g r E rm m A c l Q):=by kernel_rfl
section
attribute [local grind=] DB.eh DB.is
theorem Gn:LV Un Tryz.prog 66 oP:=verify Tryz.func66 aa (tb:= [(56,cA),(105,eo),(101,cS),(108,cw),(54,ft),(109,zL)]) ⟨im,mC,jx,j4,ts,H6,trivial⟩ (by kernel_rfl) (Gq.mpr fun p g r E rm m A c l Q h=>by
 obtain⟨hp0,hp1,hp2,h⟩:=h
 subst hp1
 exact fun f1 f2=>(by(have hw:=fun a b=>gw (E:=E) f2 a b);(have hi64:=fun a b=>ah (x:=(E.on m).word a b) (by have:=hw a b;omega));(have hu64:=fun a b=>eO (x:=(E.on m).word a b) (by have:=hw a b;omega));(have hge:E.aj.getD p.toNat Ent.free=(E.on m).at_ p:=by rw [Pd.bJ (by grind),Pd.jE]);(have hmt:∀q,m.has true q=(E.on m).has q:=fun q=>rfl);(have hmf:∀q,m.has false q=decide (0≤q∧q<(m.I:Int)):=fun q=>rfl);(have hps:=fun w=>z9 w);exact bH ((!((E.on m).is p 4)) || (!(if(E.on m).is p 1 then((E.on m).at_ p).state !=3 else(E.on m).alive p))) (ai ‹_› fun s3=>ai (by rfl) fun s4=>ai ‹_› fun s5=>ae (fun c1=>(by grind)) fun c1=>ai ‹_› fun s6=>ai (by rfl) fun s7=>ai ‹_› fun s8=>(by grind))<| aO (fun c2=>bF h (by grind)) fun c2=>⟨fun m1 x19=>(m1=(1024 - x19).toNat)∧(0≤x19∧x19≤1024)∧(ia ((E.on m).fC p) 0 x19=true),⟨_,rfl,(by omega),(iS (Int.le_refl _))⟩,fun m1 _ x19 ⟨hm,hx,hz⟩=>aB (fun c3=>ai ‹_› fun s9=>ai (by rfl) fun s10=>aK (fun c4=>⟨_,(by(have h9:=ah (x:=x19+1) (by grind));omega),rfl,(by(have h9:=ah (x:=x19+1) (by grind));omega),(fm hz (by(grind [DB.fC,DB.of])) (ah (by omega)))⟩) fun c4=>ai (hw p x19) fun s11=>fun gv2=>bH ((((jQ ((E.on m).word p x19)):Int) !=0) || (!(m.has ((bB ((E.on m).word p x19)).aY) ((bB ((E.on m).word p x19)).aq)))) (ae (fun c5=>(by grind)) fun c5=>(by grind))<| aO (fun c6=>bF h (by(have hb:(E.on m).fC p x19=false:=by(grind [DB.fC,DB.of]));rw [DB.eh,DB.kJ,cj hx.1 c3 hb];grind)) fun c6=>bH (((bB ((E.on m).word p x19)).aY) && ((!((E.on m).is ((bB ((E.on m).word p x19)).aq) 5)) || (((E.aj.getD (Int.toNat ((bB ((E.on m).word p x19)).aq)) Ent.free).owner:Int) !=((E.aj.getD p.toNat Ent.free).owner)))) (ae (fun c7=>ai ‹_› fun s12=>ai (by rfl) fun s13=>ai (by grind) fun s14=>ae (fun c8=>(by grind)) fun c8=>ai (by grind) fun s15=>ai (by grind) fun s16=>(by grind)) fun c7=>(by grind))<| bL (fun c9=>bF h (by(have hb:(E.on m).fC p x19=false:=by(grind [DB.fC,DB.of]));rw [DB.eh,DB.kJ,cj hx.1 c3 hb];grind)) fun c9=>⟨_,(by(have h9:=ah (x:=x19+1) (by grind));omega),rfl,(by(have h9:=ah (x:=x19+1) (by grind));omega),(fm hz (by(grind [DB.fC,DB.of])) (ah (by omega)))⟩) fun c3=>bF h (by rw [DB.eh,DB.kJ,← show x19=1024 by omega,hz];simp)⟩))
end
def kB:Ctr Un:=⟨[.one (.ptr 0),.one (.int .i64)],[],[.blk [.obj 1 0,.sl 3] 58,.ob 1 [(1,2,0)],.ob 0 [],.lst 4 false 99],[],fun p g r E rm m A c l K=>E.n=m.S∧l=E.aj∧(E.on m).has p=true∧K ⟨(.bool ((E.on m).clause 10 p)),none,[],[],[]⟩⟩
def BV(p:Int)(g:Nat)(r:Nat→Nat)(E:Pd)(rm:Nat→Nat)(m:Mem)(A:Option Addr)(c:Nat)(l:List Ent)(Q:Ou Un→Prop):Prop:=
 Pd.Ok E→
 Mem.Wf m→
 ∃J:Bool→Prop,(
  E.n=m.S∧
  l=E.aj∧
  (E.on m).has p=true∧
  split (!((E.on m).is p 5)) (
   J true) (
   E.n=m.S∧
   l=E.aj∧
   (E.on m).has p=true∧
   J (!(if(E.on m).is p 1 then((E.on m).at_ p).state !=3 else(E.on m).alive p))))∧∀(_gv:Nat→Value)(x20:Bool),J x20→
 split x20 (
  Q ⟨(.bool true),none,[],[],[]⟩) (
  ∀n:Int,n=0→
  (0≤p∧p<(l.length:Int))∧
  E.n=m.S∧
  l=E.aj∧
  ∀(A1:Option Addr)(c1:Nat),
  ∀(l1:List I64),l1=(E.on m).pgs 4 ((l.getD p.toNat Ent.free).owner) (E.on m).S→
  ∃I:Nat→Int→Int→Prop,(∃m1,I m1 n 0)∧∀(m1:Nat)(_gv1:Nat→Value)(n1:Int)(x32:Int),I m1 n1 x32→
  split (decide (x32<((((E.on m).pgs 4 ((l.getD p.toNat Ent.free).owner) (E.on m).S).length):Int))) (
   (0≤x32∧x32<(l1.length:Int))∧
   ∃I1:Nat→Int→Int→Prop,(∃m3,I1 m3 n1 0)∧∀(m3:Nat)(_gv2:Nat→Value)(n2:Int)(x36:Int),I1 m3 n2 x36→
   split (decide (x36<1024)) (
    E.n=m.S∧
    l=E.aj∧
    (0≤((E.on m).word ((l1.getD x32.toNat (I64.mk 0)).v) x36)∧((E.on m).word ((l1.getD x32.toNat (I64.mk 0)).v) x36)<4294967296)∧
    ∀(gv3:Nat),
    ∃J1:Bool→Prop,(
     split ((jQ ((E.on m).word ((l1.getD x32.toNat (I64.mk 0)).v) x36))==0) (
      J1 (bh #[(.bool ((bB ((E.on m).word ((l1.getD x32.toNat (I64.mk 0)).v) x36)).aY)),(.int .i64 ((bB ((E.on m).word ((l1.getD x32.toNat (I64.mk 0)).v) x36)).aq))] #[(.bool true),(.int .i64 p)])) (
      J1 false))∧∀(_gv4:Nat→Value)(x55:Bool),J1 x55→
    split x55 (
     ∀n3:Int,n3=(i64.wrap (n2+1))→
     ∃m4,m4<m3∧I1 m4 n3 (i64.wrap (x36+1))) (
     ∃m4,m4<m3∧I1 m4 n2 (i64.wrap (x36+1)))) (
    ∃m2,m2<m1∧I m2 n2 (i64.wrap (x32+1)))) (
   Q ⟨(.bool (n1==1)),none,[],[],[]⟩))
theorem BW:Vc2 Un Tryz.prog (aV [(56,cA),(105,eo),(106,n9),(101,cS),(108,cw)]) [5] Tryz.f67 (.r' (.two (.two (.node [] (some ⟨[(20,(.one .bool))],[],upN 11 10,[]⟩) [] [] .leaf .leaf) .leaf) (.r' (.two (.r' (.two (.node [] (some ⟨[(5,(.one (.int .i64))),(32,(.one (.int .i64)))],[],[5,7,8,9,10]++upN 32 28,[]⟩) [] [] (.r' (.r' (.two (.two (.r' (.r' (.two (.node [] (some ⟨[(5,(.one (.int .i64))),(36,(.one (.int .i64)))],[],[5,8,9,10]++upN 36 23,[]⟩) [] [] (.r' (.r' (.two (.two (.r' (.r' (.two (.node [] (some ⟨[(55,(.one .bool))],[],upN 47 9,[]⟩) [] [] .leaf .leaf) .leaf))) .leaf) .leaf))) .leaf) .leaf))) .leaf) .leaf))) .leaf) .leaf)) .leaf)))) [] kB=(∀p g r (E:Pd) rm (m:Mem) A c (l:List Ent),∀Q,(E.n=m.S∧l=E.aj∧(E.on m).has p=true∧Q ⟨(.bool ((E.on m).clause 10 p)),none,[],[],[]⟩)→BV p g r E rm m A c l Q):=by kernel_rfl
section
attribute [local grind=] DB.eJ DB.is
theorem BU:LV Un Tryz.prog 67 kB:=verify Tryz.func67 aa (tb:= [(56,cA),(105,eo),(106,n9),(101,cS),(108,cw)]) ⟨im,mC,Eu,jx,j4,trivial⟩ (by kernel_rfl) (BW.mpr fun p g r E rm m A c l Q h=>by
 obtain⟨hp0,hp1,hp2,h⟩:=h
 subst hp1
 exact fun f1 f2=>(by(have hw:=fun a b=>gw (E:=E) f2 a b);(have hi64:=fun a b=>ah (x:=(E.on m).word a b) (by have:=hw a b;omega));(have hu64:=fun a b=>eO (x:=(E.on m).word a b) (by have:=hw a b;omega));(have hge:E.aj.getD p.toNat Ent.free=(E.on m).at_ p:=by rw [Pd.bJ (by grind),Pd.jE]);(have hmt:∀q,m.has true q=(E.on m).has q:=fun q=>rfl);(have hmf:∀q,m.has false q=decide (0≤q∧q<(m.I:Int)):=fun q=>rfl);(have hps:=fun w=>z9 w);exact bH ((!((E.on m).is p 5)) || (!(if(E.on m).is p 1 then((E.on m).at_ p).state !=3 else(E.on m).alive p))) (ai ‹_› fun s3=>ai (by rfl) fun s4=>ai ‹_› fun s5=>ae (fun c1=>(by grind)) fun c1=>ai ‹_› fun s6=>ai (by rfl) fun s7=>ai ‹_› fun s8=>(by grind))<| aO (fun c2=>bF h (by grind)) fun c2=>allEq<| ai (by grind) fun s9=>ai ‹_› fun s10=>ai (by rfl) fun s11=>fun A1 c1=>fun l1 h_l1=>⟨fun m1 n1 x32=>(m1=((l1.length:Int) - x32).toNat)∧(0≤x32∧x32≤(l1.length:Int))∧(n1=(E.on m).iH p l1 x32),⟨_,rfl,(by constructor<;>omega),(by rfl)⟩,fun m1 _ n1 x32 ⟨hm,hx,hn⟩=>(by(have hl1:l1=(E.on m).pgs 4 ((E.on m).at_ p).owner (E.on m).S:=by rw [h_l1,hge]);exact aB (fun c3=>ai (by grind) fun s12=>⟨fun m3 n2 x36=>(m3=(1024 - x36).toNat)∧(0≤x36∧x36≤1024)∧(n2=(E.on m).iH p l1 x32+cr ((E.on m).fD p (l1.getD x32.toNat (I64.mk 0)).v) x36),⟨_,rfl,(by omega),(by rw [BE,Int.add_zero];exact hn)⟩,fun m3 _ n2 x36 ⟨hm,hj,hm2⟩=>aB (fun c4=>ai ‹_› fun s13=>ai (by rfl) fun s14=>ai (hw _ x36) fun s15=>fun gv3=>bH ((((jQ ((E.on m).word ((l1.getD x32.toNat (I64.mk 0)).v) x36)):Int)==0) && (bh #[(.bool ((bB ((E.on m).word ((l1.getD x32.toNat (I64.mk 0)).v) x36)).aY)),(.int .i64 ((bB ((E.on m).word ((l1.getD x32.toNat (I64.mk 0)).v) x36)).aq))] #[(.bool true),(.int .i64 p)])) (ae (fun c5=>(by grind)) fun c5=>(by grind))<| bL (fun c6=>allEq<| ⟨_,(by(have h9:=ah (x:=x36+1) (by grind));omega),rfl,(by(have h9:=ah (x:=x36+1) (by grind));omega),(by have h81:=DB.jj (E.on m) 4 ((E.on m).at_ p).owner (E.on m).S;rw [← hl1]at h81;have h9:=ah (x:=x36+1) (by omega);have h8:=dA (f:=(E.on m).fD p (l1.getD x32.toNat (I64.mk 0)).v) hj.1;have h7:=mh (f:=(E.on m).fD p (l1.getD x32.toNat (I64.mk 0)).v) hj.1;have h6:=gk (f:=(E.on m).fD p (l1.getD x32.toNat (I64.mk 0)).v) (n:=x36);have h5:=DB.r7 (D:=E.on m) (p:=p) (l:=l1) hx.1;have h3:=ah (x:=n2+1) (by grind);(grind [DB.fD,eqF]))⟩) fun c6=>⟨_,(by(have h9:=ah (x:=x36+1) (by grind));omega),rfl,(by(have h9:=ah (x:=x36+1) (by grind));omega),(by have h81:=DB.jj (E.on m) 4 ((E.on m).at_ p).owner (E.on m).S;rw [← hl1]at h81;have h9:=ah (x:=x36+1) (by omega);have h8:=dA (f:=(E.on m).fD p (l1.getD x32.toNat (I64.mk 0)).v) hj.1;have h7:=mh (f:=(E.on m).fD p (l1.getD x32.toNat (I64.mk 0)).v) hj.1;have h6:=gk (f:=(E.on m).fD p (l1.getD x32.toNat (I64.mk 0)).v) (n:=x36);have h5:=DB.r7 (D:=E.on m) (p:=p) (l:=l1) hx.1;have h3:=ah (x:=n2+1) (by grind);(grind [DB.fD,eqF]))⟩) fun c4=>⟨_,(by have h81:=DB.jj (E.on m) 4 ((E.on m).at_ p).owner (E.on m).S;rw [← hl1]at h81;rw [ah (x:=x32+1) (by grind)];grind),rfl,(by have h81:=DB.jj (E.on m) 4 ((E.on m).at_ p).owner (E.on m).S;rw [← hl1]at h81;rw [ah (x:=x32+1) (by grind)];grind),(by have h81:=DB.jj (E.on m) 4 ((E.on m).at_ p).owner (E.on m).S;rw [← hl1]at h81;rw [ah (x:=x32+1) (by grind),DB.o6 ⟨hx.1,by grind⟩,hm2,show x36=1024 by omega])⟩⟩) fun c3=>bF h (by(have hb:=DB.once_eq (D:=E.on m) (p:=p) (n:=n1) (x:=x32) (by rw [← hl1];grind) (by rw [← hl1];exact hn));rw [DB.eJ,hb];grind))⟩))
end
end Go.Proofs.YtbjlecpmgocoeaaGreatDoor
end
section
set_option maxRecDepth 100000
set_option maxHeartbeats 1000000
namespace Go.Proofs.YtbjlecpmgocoeaaGreatDoor
open Go Go.RowKit V
open Go.IntKind (i64 u32 u64)
open Go.Proofs (Tryz.prog)
attribute [local grind=] Pd.cI Pd.bJ Pd.jk Pd.jE Pd.cX Pd.cu Pd.eE Pd.gg Pd.lQ
attribute [local grind .] Pd.Ok.ent
attribute [local grind→] Pd.Ok.dC
section
attribute [local grind=] DB.clause own DB.du
end
theorem DB.qp {D:DB} {c p:Int}(hc:1≤c∧c≤12)(hb:D.eZ (13 - c).toNat c=D.broken)(hz:ia (D.clause c) 0 p=true)(hf:D.clause c p=false)(hp:0≤p∧p<(D.S:Int)):D.broken=(c,p):=by
 rw [← hb,show(13 - c).toNat=(12 - c).toNat+1 by omega,eZ,bT,cj hp.1 hp.2 hf,leastN_eq hz hf hp.1 (by omega)]
 rfl
theorem DB.wm {D:DB} {c:Int}(hc:1≤c∧c≤12)(hb:D.eZ (13 - c).toNat c=D.broken) {p:Int}(hp:p=(D.S:Int))(hz:ia (D.clause c) 0 p=true):D.eZ (13 - (c+1)).toNat (c+1)=D.broken:=by
 subst hp
 rw [← hb,show(13 - c).toNat=(13 - (c+1)).toNat+1 by omega,eZ,bT,hz]
 rfl
theorem DB.n5 {D:DB} {c:Int}(hc:¬c≤12)(hc2:c≤13)(hb:D.eZ (13 - c).toNat c=D.broken):D.broken=(0,0):=by
 rw [← hb,show(13 - c).toNat=0 by omega];rfl
section
attribute [local grind=] DB.holds
end
end Go.Proofs.YtbjlecpmgocoeaaGreatDoor
end
section
set_option maxRecDepth 100000
set_option maxHeartbeats 1000000
namespace Go.Proofs.YtbjlecpmgocoeaaGreatDoor
open Go Go.RowKit V
open Go.IntKind (i64 u32 u64)
open Go.Proofs (Tryz.prog)
attribute [local grind=] Pd.cI Pd.bJ Pd.jk Pd.jE Pd.cX Pd.cu Pd.eE Pd.gg Pd.lQ Pd.pL
attribute [local grind .] Pd.Ok.ent
attribute [local grind→] Pd.Ok.dC
def iy:Ctr Un:=⟨[.one (.int .i64),.one (.ptr 0)],[],[.blk [.ptr 1] 53,.blk [.obj 2 0,.sl 4] 58,.ob 1 [(1,3,0)],.ob 0 [],.lst 4 false 99],[],fun p gb g r E rm m A c l K=>E.n=m.S∧l=E.aj∧(E.on m).has p=true∧K ⟨(.bool ((E.on m).clause 1 p)),none,[],[],[]⟩⟩
def xf(p:Int)(gb:Nat)(g:Nat)(r:Nat→Nat)(E:Pd)(rm:Nat→Nat)(m:Mem)(A:Option Addr)(c:Nat)(l:List Ent)(Q:Ou Un→Prop):Prop:=
 Pd.Ok E→
 Mem.Wf m→
 ∃J:Bool→Prop,(
  E.n=m.S∧
  l=E.aj∧
  (E.on m).has p=true∧
  split (!((E.on m).is p 1)) (
   J true) (
   (0≤p∧p<(l.length:Int))∧
   J ((l.getD p.toNat Ent.free).owner==p)))∧∀(_gv:Nat→Value)(x3:Bool),J x3→
 Q ⟨(.bool x3),none,[],[],[]⟩
theorem xg:Vc2 Un Tryz.prog (aV [(56,cA)]) [] Tryz.f55 (.r' (.two (.node [] (some ⟨[(3,(.one .bool))],[],upN 3 17,[]⟩) [] [] .leaf .leaf) .leaf)) [] iy=(∀p gb g r (E:Pd) rm (m:Mem) A c (l:List Ent),∀Q,(E.n=m.S∧l=E.aj∧(E.on m).has p=true∧Q ⟨(.bool ((E.on m).clause 1 p)),none,[],[],[]⟩)→xf p gb g r E rm m A c l Q):=by kernel_rfl
section
attribute [local grind=] DB.wg DB.is
theorem wZ:LV Un Tryz.prog 55 iy:=verify Tryz.func55 aa (tb:= [(56,cA)]) ⟨im,trivial⟩ (by kernel_rfl) (xg.mpr fun p gb g r E rm m A c l Q h=>by
 obtain⟨hp0,hp1,hp2,h⟩:=h
 subst hp1
 exact fun f1 f2=>bH ((!((E.on m).is p 1)) || (((E.aj.getD p.toNat Ent.free).owner:Int)==p)) (ai ‹_› fun s3=>ai (by rfl) fun s4=>ai ‹_› fun s5=>ae (fun c1=>(by grind)) fun c1=>ai (by grind) fun s6=>(by grind))<| bF h (by grind))
end
def iw:Ctr Un:=⟨[.one (.int .i64),.one (.ptr 0)],[],[.blk [.ptr 1] 53,.blk [.obj 2 0,.sl 4] 58,.ob 1 [(1,3,0)],.ob 0 [],.lst 4 false 99],[],fun p gb g r E rm m A c l K=>E.n=m.S∧l=E.aj∧(E.on m).has p=true∧K ⟨(.bool ((E.on m).clause 2 p)),none,[],[],[]⟩⟩
def wX(p:Int)(gb:Nat)(g:Nat)(r:Nat→Nat)(E:Pd)(rm:Nat→Nat)(m:Mem)(A:Option Addr)(c:Nat)(l:List Ent)(Q:Ou Un→Prop):Prop:=
 Pd.Ok E→
 Mem.Wf m→
 ∃J:Bool→Prop,(
  E.n=m.S∧
  l=E.aj∧
  (E.on m).has p=true∧
  split (!((E.on m).is p 0)) (
   J true) (
   E.n=m.S∧
   l=E.aj∧
   (0≤(0:Int)∧(1024:Int)≤1024)∧
   J ((E.on m).zero p 0 1024)))∧∀(_gv:Nat→Value)(x3:Bool),J x3→
 Q ⟨(.bool x3),none,[],[],[]⟩
theorem wY:Vc2 Un Tryz.prog (aV [(56,cA),(58,eA)]) [] Tryz.f57 (.r' (.two (.node [] (some ⟨[(3,(.one .bool))],[],upN 3 10,[]⟩) [] [] .leaf .leaf) .leaf)) [] iw=(∀p gb g r (E:Pd) rm (m:Mem) A c (l:List Ent),∀Q,(E.n=m.S∧l=E.aj∧(E.on m).has p=true∧Q ⟨(.bool ((E.on m).clause 2 p)),none,[],[],[]⟩)→wX p gb g r E rm m A c l Q):=by kernel_rfl
section
attribute [local grind=] DB.mj DB.is
theorem wW:LV Un Tryz.prog 57 iw:=verify Tryz.func57 aa (tb:= [(56,cA),(58,eA)]) ⟨im,mu,trivial⟩ (by kernel_rfl) (wY.mpr fun p gb g r E rm m A c l Q h=>by
 obtain⟨hp0,hp1,hp2,h⟩:=h
 subst hp1
 exact fun f1 f2=>bH ((!((E.on m).is p 0)) || ((E.on m).zero p 0 1024)) (ai ‹_› fun s3=>ai (by rfl) fun s4=>ai ‹_› fun s5=>ae (fun c1=>(by grind)) fun c1=>ai ‹_› fun s6=>ai (by rfl) fun s7=>ai (by omega) fun s8=>(by grind))<| bF h (by grind))
end
def iu:Ctr Un:=⟨[.one (.int .i64),.one (.ptr 0)],[],[.blk [.ptr 1] 53,.blk [.obj 2 0,.sl 4] 58,.ob 1 [(1,3,0)],.ob 0 [],.lst 4 false 99],[],fun p gb g r E rm m A c l K=>E.n=m.S∧l=E.aj∧(E.on m).has p=true∧K ⟨(.bool ((E.on m).clause 3 p)),none,[],[],[]⟩⟩
def wU(p:Int)(gb:Nat)(g:Nat)(r:Nat→Nat)(E:Pd)(rm:Nat→Nat)(m:Mem)(A:Option Addr)(c:Nat)(l:List Ent)(Q:Ou Un→Prop):Prop:=
 Pd.Ok E→
 Mem.Wf m→
 ∃J:Bool→Prop,(
  E.n=m.S∧
  l=E.aj∧
  (E.on m).has p=true∧
  split ((E.on m).is p 0) (
   J true) (
   E.n=m.S∧
   l=E.aj∧
   (E.on m).has p=true∧
   split ((E.on m).is p 1) (
    J true) (
    E.n=m.S∧
    l=E.aj∧
    (E.on m).has p=true∧
    J (decide (((E.on m).bW p)≥0)))))∧∀(_gv:Nat→Value)(x3:Bool),J x3→
 Q ⟨(.bool x3),none,[],[],[]⟩
theorem wV:Vc2 Un Tryz.prog (aV [(56,cA),(60,fH)]) [] Tryz.f59 (.r' (.two (.node [] (some ⟨[(3,(.one .bool))],[],upN 3 15,[]⟩) [] [] .leaf .leaf) .leaf)) [] iu=(∀p gb g r (E:Pd) rm (m:Mem) A c (l:List Ent),∀Q,(E.n=m.S∧l=E.aj∧(E.on m).has p=true∧Q ⟨(.bool ((E.on m).clause 3 p)),none,[],[],[]⟩)→wU p gb g r E rm m A c l Q):=by kernel_rfl
section
attribute [local grind=] DB.we DB.is DB.bW
theorem wT:LV Un Tryz.prog 59 iu:=verify Tryz.func59 aa (tb:= [(56,cA),(60,fH)]) ⟨im,qC,trivial⟩ (by kernel_rfl) (wV.mpr fun p gb g r E rm m A c l Q h=>by
 obtain⟨hp0,hp1,hp2,h⟩:=h
 subst hp1
 exact fun f1 f2=>bH (((E.on m).is p 0) || (((E.on m).is p 1) || (decide ((((E.on m).bW p):Int)≥0)))) (ai ‹_› fun s3=>ai (by rfl) fun s4=>ai ‹_› fun s5=>ae (fun c1=>(by grind)) fun c1=>ai ‹_› fun s6=>ai (by rfl) fun s7=>ai ‹_› fun s8=>ae (fun c2=>(by grind)) fun c2=>ai ‹_› fun s9=>ai (by rfl) fun s10=>ai ‹_› fun s11=>(by grind))<| bF h (by grind))
end
def ir:Ctr Un:=⟨[.one (.int .i64),.one (.ptr 0)],[],[.blk [.ptr 1] 53,.blk [.obj 2 0,.sl 4] 58,.ob 1 [(1,3,0)],.ob 0 [],.lst 4 false 99],[],fun p gb g r E rm m A c l K=>E.n=m.S∧l=E.aj∧(E.on m).has p=true∧K ⟨(.bool ((E.on m).clause 4 p)),none,[],[],[]⟩⟩
def wR(p:Int)(gb:Nat)(g:Nat)(r:Nat→Nat)(E:Pd)(rm:Nat→Nat)(m:Mem)(A:Option Addr)(c:Nat)(l:List Ent)(Q:Ou Un→Prop):Prop:=
 Pd.Ok E→
 Mem.Wf m→
 ∃J:Bool→Prop,(
  E.n=m.S∧
  l=E.aj∧
  (E.on m).has p=true∧
  split (!((E.on m).is p 1)) (
   J true) (
   (0≤p∧p<(l.length:Int))∧
   E.n=m.S∧
   ∀(A1:Option Addr)(c1:Nat),
   ∀(l1:List I64),l1=own (E.on m) p→
   J ((l.getD p.toNat Ent.free).refs==(((own (E.on m) p).length):Int))))∧∀(_gv:Nat→Value)(x3:Bool),J x3→
 Q ⟨(.bool x3),none,[],[],[]⟩
theorem wS:Vc2 Un Tryz.prog (aV [(56,cA),(51,rj)]) [] Tryz.f61 (.r' (.two (.node [] (some ⟨[(3,(.one .bool))],[],upN 3 23,[]⟩) [] [(0,[0]),(5,[0]),(8,[1]),(12,[4]),(13,[0]),(16,[1])] .leaf .leaf) .leaf)) [] ir=(∀p gb g r (E:Pd) rm (m:Mem) A c (l:List Ent),∀Q,(E.n=m.S∧l=E.aj∧(E.on m).has p=true∧Q ⟨(.bool ((E.on m).clause 4 p)),none,[],[],[]⟩)→wR p gb g r E rm m A c l Q):=by kernel_rfl
section
attribute [local grind=] DB.qn DB.is own DB.du
theorem wQ:LV Un Tryz.prog 61 ir:=verify Tryz.func61 aa (tb:= [(56,cA),(51,rj)]) ⟨im,Fe,trivial⟩ (by kernel_rfl) (wS.mpr fun p gb g r E rm m A c l Q h=>by
 obtain⟨hp0,hp1,hp2,h⟩:=h
 subst hp1
 exact fun f1 f2=>bH ((!((E.on m).is p 1)) || (((E.aj.getD p.toNat Ent.free).refs:Int)==((((own (E.on m) p).length):Nat):Int))) (ai ‹_› fun s3=>ai (by rfl) fun s4=>ai ‹_› fun s5=>ae (fun c1=>(by grind)) fun c1=>ai (by grind) fun s6=>ai ‹_› fun s7=>fun A1 c1=>fun l1 h_l1=>(by grind))<| bF h (by grind))
end
def iq:Ctr Un:=⟨[.one (.int .i64),.one (.ptr 0)],[],[.blk [.ptr 1] 53,.blk [.obj 2 0,.sl 4] 58,.ob 1 [(1,3,0)],.ob 0 [],.lst 4 false 99],[],fun p gb g r E rm m A c l K=>E.n=m.S∧l=E.aj∧(E.on m).has p=true∧K ⟨(.bool ((E.on m).clause 12 p)),none,[],[],[]⟩⟩
def wO(p:Int)(gb:Nat)(g:Nat)(r:Nat→Nat)(E:Pd)(rm:Nat→Nat)(m:Mem)(A:Option Addr)(c:Nat)(l:List Ent)(Q:Ou Un→Prop):Prop:=
 Pd.Ok E→
 Mem.Wf m→
 ∃J:Bool→Prop,(
  E.n=m.S∧
  l=E.aj∧
  (E.on m).has p=true∧
  split (!((E.on m).is p 6)) (
   J true) (
   E.n=m.S∧
   l=E.aj∧
   (0≤(0:Int)∧(1024:Int)≤1024)∧
   J ((E.on m).zero p 0 1024)))∧∀(_gv:Nat→Value)(x3:Bool),J x3→
 Q ⟨(.bool x3),none,[],[],[]⟩
theorem wP:Vc2 Un Tryz.prog (aV [(56,cA),(58,eA)]) [] Tryz.f69 (.r' (.two (.node [] (some ⟨[(3,(.one .bool))],[],upN 3 10,[]⟩) [] [] .leaf .leaf) .leaf)) [] iq=(∀p gb g r (E:Pd) rm (m:Mem) A c (l:List Ent),∀Q,(E.n=m.S∧l=E.aj∧(E.on m).has p=true∧Q ⟨(.bool ((E.on m).clause 12 p)),none,[],[],[]⟩)→wO p gb g r E rm m A c l Q):=by kernel_rfl
section
attribute [local grind=] DB.kx DB.is
theorem wM:LV Un Tryz.prog 69 iq:=verify Tryz.func69 aa (tb:= [(56,cA),(58,eA)]) ⟨im,mu,trivial⟩ (by kernel_rfl) (wP.mpr fun p gb g r E rm m A c l Q h=>by
 obtain⟨hp0,hp1,hp2,h⟩:=h
 subst hp1
 exact fun f1 f2=>bH ((!((E.on m).is p 6)) || ((E.on m).zero p 0 1024)) (ai ‹_› fun s3=>ai (by rfl) fun s4=>ai ‹_› fun s5=>ae (fun c1=>(by grind)) fun c1=>ai ‹_› fun s6=>ai (by rfl) fun s7=>ai (by omega) fun s8=>(by grind))<| bF h (by grind))
end
def cQ(g gb:Nat)(n:Int):Value:=
 if n=1 then .func (.func 55) #[] #[.pointer (some ⟨gb,0,none⟩)]
 else if n=2 then .func (.func 57) #[] #[.pointer (some ⟨gb,0,none⟩)]
 else if n=3 then .func (.func 59) #[] #[.pointer (some ⟨gb,0,none⟩)]
 else if n=4 then .func (.func 61) #[] #[.pointer (some ⟨gb,0,none⟩)]
 else if n=5 then .func (.func 62) #[.pointer (some ⟨g,0,none⟩)] #[]
 else if n=6 then .func (.func 63) #[.pointer (some ⟨g,0,none⟩)] #[]
 else if n=7 then .func (.func 64) #[.pointer (some ⟨g,0,none⟩)] #[]
 else if n=8 then .func (.func 65) #[.pointer (some ⟨g,0,none⟩)] #[]
 else if n=9 then .func (.func 66) #[.pointer (some ⟨g,0,none⟩)] #[]
 else if n=10 then .func (.func 67) #[.pointer (some ⟨g,0,none⟩)] #[]
 else if n=11 then .func (.func 68) #[.pointer (some ⟨g,0,none⟩)] #[]
 else .func (.func 69) #[] #[.pointer (some ⟨gb,0,none⟩)]
def kC:Ctr Un:=⟨[.one (.ptr 0),.one (.int .i64)],[],[.blk [.obj 1 0,.sl 3] 58,.ob 1 [(1,2,0)],.ob 0 [],.lst 4 false 99],[],fun n g r E rm m A c l K=>E.n=m.S∧l=E.aj∧∀(gb:Nat)(v:Value),v=cQ g gb n→K ⟨v,none,[],[(.blk gb [(.pointer (some (Addr.mk g 0 none)))] 53)],[(.c 4 0,.p (.loc 0 0))]⟩⟩
def BY(n:Int)(g:Nat)(r:Nat→Nat)(E:Pd)(rm:Nat→Nat)(m:Mem)(A:Option Addr)(c:Nat)(l:List Ent)(Q:Ou Un→Prop):Prop:=
 Pd.Ok E→
 Mem.Wf m→
 ∀(gv:Nat),
 ∀x6:Bool,x6=((n:Int)==1)→
 split x6 (
  ∃J:Value→Prop,(
   J (.func (.func 55) #[] #[(.pointer (some (Addr.mk gv 0 none)))]))∧∀(_gv1:Nat→Value)(x4:Value),J x4→
  Q ⟨x4,none,[],[(.blk gv [(.pointer (some (Addr.mk g 0 none)))] 53)],[(.c 4 0,.p (.loc 0 0))]⟩) (
  ∀x9:Bool,x9=((n:Int)==2)→
  split x9 (
   ∃J:Value→Prop,(
    J (.func (.func 57) #[] #[(.pointer (some (Addr.mk gv 0 none)))]))∧∀(_gv1:Nat→Value)(x4:Value),J x4→
   Q ⟨x4,none,[],[(.blk gv [(.pointer (some (Addr.mk g 0 none)))] 53)],[(.c 4 0,.p (.loc 0 0))]⟩) (
   ∀x12:Bool,x12=((n:Int)==3)→
   split x12 (
    ∃J:Value→Prop,(
     J (.func (.func 59) #[] #[(.pointer (some (Addr.mk gv 0 none)))]))∧∀(_gv1:Nat→Value)(x4:Value),J x4→
    Q ⟨x4,none,[],[(.blk gv [(.pointer (some (Addr.mk g 0 none)))] 53)],[(.c 4 0,.p (.loc 0 0))]⟩) (
    ∀x15:Bool,x15=((n:Int)==4)→
    split x15 (
     ∃J:Value→Prop,(
      J (.func (.func 61) #[] #[(.pointer (some (Addr.mk gv 0 none)))]))∧∀(_gv1:Nat→Value)(x4:Value),J x4→
     Q ⟨x4,none,[],[(.blk gv [(.pointer (some (Addr.mk g 0 none)))] 53)],[(.c 4 0,.p (.loc 0 0))]⟩) (
     ∀x18:Bool,x18=((n:Int)==5)→
     split x18 (
      ∃J:Value→Prop,(
       J (.func (.func 62) #[(.pointer (some (Addr.mk g 0 none)))] #[]))∧∀(_gv1:Nat→Value)(x4:Value),J x4→
      Q ⟨x4,none,[],[(.blk gv [(.pointer (some (Addr.mk g 0 none)))] 53)],[(.c 4 0,.p (.loc 0 0))]⟩) (
      ∀x22:Bool,x22=((n:Int)==6)→
      split x22 (
       ∃J:Value→Prop,(
        J (.func (.func 63) #[(.pointer (some (Addr.mk g 0 none)))] #[]))∧∀(_gv1:Nat→Value)(x4:Value),J x4→
       Q ⟨x4,none,[],[(.blk gv [(.pointer (some (Addr.mk g 0 none)))] 53)],[(.c 4 0,.p (.loc 0 0))]⟩) (
       ∀x26:Bool,x26=((n:Int)==7)→
       split x26 (
        ∃J:Value→Prop,(
         J (.func (.func 64) #[(.pointer (some (Addr.mk g 0 none)))] #[]))∧∀(_gv1:Nat→Value)(x4:Value),J x4→
        Q ⟨x4,none,[],[(.blk gv [(.pointer (some (Addr.mk g 0 none)))] 53)],[(.c 4 0,.p (.loc 0 0))]⟩) (
        ∀x30:Bool,x30=((n:Int)==8)→
        split x30 (
         ∃J:Value→Prop,(
          J (.func (.func 65) #[(.pointer (some (Addr.mk g 0 none)))] #[]))∧∀(_gv1:Nat→Value)(x4:Value),J x4→
         Q ⟨x4,none,[],[(.blk gv [(.pointer (some (Addr.mk g 0 none)))] 53)],[(.c 4 0,.p (.loc 0 0))]⟩) (
         ∀x34:Bool,x34=((n:Int)==9)→
         split x34 (
          ∃J:Value→Prop,(
           J (.func (.func 66) #[(.pointer (some (Addr.mk g 0 none)))] #[]))∧∀(_gv1:Nat→Value)(x4:Value),J x4→
          Q ⟨x4,none,[],[(.blk gv [(.pointer (some (Addr.mk g 0 none)))] 53)],[(.c 4 0,.p (.loc 0 0))]⟩) (
          ∀x38:Bool,x38=((n:Int)==10)→
          split x38 (
           ∃J:Value→Prop,(
            J (.func (.func 67) #[(.pointer (some (Addr.mk g 0 none)))] #[]))∧∀(_gv1:Nat→Value)(x4:Value),J x4→
           Q ⟨x4,none,[],[(.blk gv [(.pointer (some (Addr.mk g 0 none)))] 53)],[(.c 4 0,.p (.loc 0 0))]⟩) (
           ∀x42:Bool,x42=((n:Int)==11)→
           split x42 (
            ∃J:Value→Prop,(
             J (.func (.func 68) #[(.pointer (some (Addr.mk g 0 none)))] #[]))∧∀(_gv1:Nat→Value)(x4:Value),J x4→
            Q ⟨x4,none,[],[(.blk gv [(.pointer (some (Addr.mk g 0 none)))] 53)],[(.c 4 0,.p (.loc 0 0))]⟩) (
            ∃J:Value→Prop,(
             J (.func (.func 69) #[] #[(.pointer (some (Addr.mk gv 0 none)))]))∧∀(_gv1:Nat→Value)(x4:Value),J x4→
            Q ⟨x4,none,[],[(.blk gv [(.pointer (some (Addr.mk g 0 none)))] 53)],[(.c 4 0,.p (.loc 0 0))]⟩)))))))))))
theorem BZ:Vc2 Un Tryz.prog (aV []) [6,9,12,15,18,22,26,30,34,38,42] Tryz.f22 (.r' (.two (.r' (.two (.r' (.two (.two (.node [] (some ⟨[(4,(.one .val))],[],[4,8],[]⟩) [] [] .leaf .leaf) .leaf) (.r' (.two (.two (.node [] (some ⟨[(4,(.one .val))],[],[4,11],[]⟩) [] [] .leaf .leaf) .leaf) (.r' (.two (.two (.node [] (some ⟨[(4,(.one .val))],[],[4,14],[]⟩) [] [] .leaf .leaf) .leaf) (.r' (.two (.two (.node [] (some ⟨[(4,(.one .val))],[],[4,17],[]⟩) [] [] .leaf .leaf) .leaf) (.r' (.two (.two (.node [] (some ⟨[(4,(.one .val))],[],[4,20,21],[]⟩) [] [] .leaf .leaf) .leaf) (.r' (.two (.two (.node [] (some ⟨[(4,(.one .val))],[],[4,24,25],[]⟩) [] [] .leaf .leaf) .leaf) (.r' (.two (.two (.node [] (some ⟨[(4,(.one .val))],[],[4,28,29],[]⟩) [] [] .leaf .leaf) .leaf) (.r' (.two (.two (.node [] (some ⟨[(4,(.one .val))],[],[4,32,33],[]⟩) [] [] .leaf .leaf) .leaf) (.r' (.two (.two (.node [] (some ⟨[(4,(.one .val))],[],[4,36,37],[]⟩) [] [] .leaf .leaf) .leaf) (.r' (.two (.two (.node [] (some ⟨[(4,(.one .val))],[],[4,40,41],[]⟩) [] [] .leaf .leaf) .leaf) (.r' (.two (.two (.node [] (some ⟨[(4,(.one .val))],[],[4,44,45],[]⟩) [] [] .leaf .leaf) .leaf) .leaf)))))))))))))))))))))) .leaf)) (.two (.node [] (some ⟨[(4,(.one .val))],[],[4,46],[]⟩) [] [] .leaf .leaf) .leaf))) [4] kC=(∀n g r (E:Pd) rm (m:Mem) A c (l:List Ent),∀Q,(E.n=m.S∧l=E.aj∧∀(gb:Nat)(v:Value),v=cQ g gb n→Q ⟨v,none,[],[(.blk gb [(.pointer (some (Addr.mk g 0 none)))] 53)],[(.c 4 0,.p (.loc 0 0))]⟩)→BY n g r E rm m A c l Q):=by kernel_rfl
theorem BX:LV Un Tryz.prog 22 kC:=verify Tryz.func22 aa (tb:= []) trivial (by kernel_rfl) (BZ.mpr fun n g r E rm m A c l Q h=>by
 obtain⟨hp0,hp1,h⟩:=h
 subst hp1
 exact fun f1 f2=>fun gv=>allEq<| aK (fun c1=>oy<| aG (h gv (.func (.func 55) #[] #[(.pointer (some (Addr.mk gv 0 none)))]) (by simp [cQ,c1])) rfl rfl (af (congrArg (fun l=>Res.blk (U:=Un) _ l _) rfl) rfl)) fun c1=>allEq<| aK (fun c2=>oy<| aG (h gv (.func (.func 57) #[] #[(.pointer (some (Addr.mk gv 0 none)))]) (by simp [cQ,c1,c2])) rfl rfl (af (congrArg (fun l=>Res.blk (U:=Un) _ l _) rfl) rfl)) fun c2=>allEq<| aK (fun c3=>oy<| aG (h gv (.func (.func 59) #[] #[(.pointer (some (Addr.mk gv 0 none)))]) (by simp [cQ,c1,c2,c3])) rfl rfl (af (congrArg (fun l=>Res.blk (U:=Un) _ l _) rfl) rfl)) fun c3=>allEq<| aK (fun c4=>oy<| aG (h gv (.func (.func 61) #[] #[(.pointer (some (Addr.mk gv 0 none)))]) (by simp [cQ,c1,c2,c3,c4])) rfl rfl (af (congrArg (fun l=>Res.blk (U:=Un) _ l _) rfl) rfl)) fun c4=>allEq<| aK (fun c5=>oy<| aG (h gv (.func (.func 62) #[(.pointer (some (Addr.mk g 0 none)))] #[]) (by simp [cQ,c1,c2,c3,c4,c5])) rfl rfl (af (congrArg (fun l=>Res.blk (U:=Un) _ l _) rfl) rfl)) fun c5=>allEq<| aK (fun c6=>oy<| aG (h gv (.func (.func 63) #[(.pointer (some (Addr.mk g 0 none)))] #[]) (by simp [cQ,c1,c2,c3,c4,c5,c6])) rfl rfl (af (congrArg (fun l=>Res.blk (U:=Un) _ l _) rfl) rfl)) fun c6=>allEq<| aK (fun c7=>oy<| aG (h gv (.func (.func 64) #[(.pointer (some (Addr.mk g 0 none)))] #[]) (by simp [cQ,c1,c2,c3,c4,c5,c6,c7])) rfl rfl (af (congrArg (fun l=>Res.blk (U:=Un) _ l _) rfl) rfl)) fun c7=>allEq<| aK (fun c8=>oy<| aG (h gv (.func (.func 65) #[(.pointer (some (Addr.mk g 0 none)))] #[]) (by simp [cQ,c1,c2,c3,c4,c5,c6,c7,c8])) rfl rfl (af (congrArg (fun l=>Res.blk (U:=Un) _ l _) rfl) rfl)) fun c8=>allEq<| aK (fun c9=>oy<| aG (h gv (.func (.func 66) #[(.pointer (some (Addr.mk g 0 none)))] #[]) (by simp [cQ,c1,c2,c3,c4,c5,c6,c7,c8,c9])) rfl rfl (af (congrArg (fun l=>Res.blk (U:=Un) _ l _) rfl) rfl)) fun c9=>allEq<| aK (fun c10=>oy<| aG (h gv (.func (.func 67) #[(.pointer (some (Addr.mk g 0 none)))] #[]) (by simp [cQ,c1,c2,c3,c4,c5,c6,c7,c8,c9,c10])) rfl rfl (af (congrArg (fun l=>Res.blk (U:=Un) _ l _) rfl) rfl)) fun c10=>allEq<| aK (fun c11=>oy<| aG (h gv (.func (.func 68) #[(.pointer (some (Addr.mk g 0 none)))] #[]) (by simp [cQ,c1,c2,c3,c4,c5,c6,c7,c8,c9,c10,c11])) rfl rfl (af (congrArg (fun l=>Res.blk (U:=Un) _ l _) rfl) rfl)) fun c11=>oy<| aG (h gv (.func (.func 69) #[] #[(.pointer (some (Addr.mk gv 0 none)))]) (by simp [cQ,c1,c2,c3,c4,c5,c6,c7,c8,c9,c10,c11])) rfl rfl (af (congrArg (fun l=>Res.blk (U:=Un) _ l _) rfl) rfl))
section
attribute [local grind=] DB.holds
end
def nt:Ctr Un:=⟨[.one (.obj 0 0)],[],[.ob 1 [(1,1,0)],.ob 0 []],[],fun r E rm m K=>E.n=m.S∧K ⟨(.tuple #[(.int .i64 ((E.on m).broken.1)),(.int .i64 ((E.on m).broken.2))]),(some (.t [none,none])),[],[],[]⟩⟩
def B3(r:Nat→Nat)(E:Pd)(rm:Nat→Nat)(m:Mem)(Q:Ou Un→Prop):Prop:=
 Pd.Ok E→
 Mem.Wf m→
 E.n=m.S∧
 ∀(gv:Nat)(A:Option Addr)(c:Nat),
 ∀(l:List Ent),l=E.aj→
 ∃I:Nat→Int→Int→Int→Prop,(∃m1,I m1 0 0 0)∧∀(m1:Nat)(_gv1:Nat→Value)(number:Int)(aq:Int)(x10:Int),I m1 number aq x10→
 split (decide (x10<12)) (
  E.n=m.S∧
  l=E.aj∧
  ∀(gb:Nat)(v:Value),
  v=cQ gv gb (i64.wrap (x10+1))→
  ∃I1:Nat→Int→Int→Int→Prop,(∃m3,I1 m3 number aq 0)∧∀(m3:Nat)(_gv2:Nat→Value)(number1:Int)(page1:Int)(x22:Int),I1 m3 number1 page1 x22→
  split (decide (x22<(E.aj.length:Int))) (
   ∃b:Bool,(
    (v=(.func (.func 55) #[] #[(.pointer (some (Addr.mk gb 0 none)))])∧
     E.n=m.S∧
     l=E.aj∧
     (E.on m).has x22=true∧
     ((.bool ((E.on m).clause 1 x22)):Value)=(.bool b))∨
    (v=(.func (.func 57) #[] #[(.pointer (some (Addr.mk gb 0 none)))])∧
     E.n=m.S∧
     l=E.aj∧
     (E.on m).has x22=true∧
     ((.bool ((E.on m).clause 2 x22)):Value)=(.bool b))∨
    (v=(.func (.func 59) #[] #[(.pointer (some (Addr.mk gb 0 none)))])∧
     E.n=m.S∧
     l=E.aj∧
     (E.on m).has x22=true∧
     ((.bool ((E.on m).clause 3 x22)):Value)=(.bool b))∨
    (v=(.func (.func 61) #[] #[(.pointer (some (Addr.mk gb 0 none)))])∧
     E.n=m.S∧
     l=E.aj∧
     (E.on m).has x22=true∧
     ((.bool ((E.on m).clause 4 x22)):Value)=(.bool b))∨
    (v=(.func (.func 62) #[(.pointer (some (Addr.mk gv 0 none)))] #[])∧
     E.n=m.S∧
     l=E.aj∧
     (E.on m).has x22=true∧
     ((.bool ((E.on m).clause 5 x22)):Value)=(.bool b))∨
    (v=(.func (.func 63) #[(.pointer (some (Addr.mk gv 0 none)))] #[])∧
     E.n=m.S∧
     l=E.aj∧
     (E.on m).has x22=true∧
     ((.bool ((E.on m).clause 6 x22)):Value)=(.bool b))∨
    (v=(.func (.func 64) #[(.pointer (some (Addr.mk gv 0 none)))] #[])∧
     E.n=m.S∧
     l=E.aj∧
     (E.on m).has x22=true∧
     ((.bool ((E.on m).clause 7 x22)):Value)=(.bool b))∨
    (v=(.func (.func 65) #[(.pointer (some (Addr.mk gv 0 none)))] #[])∧
     E.n=m.S∧
     l=E.aj∧
     (E.on m).has x22=true∧
     ((.bool ((E.on m).clause 8 x22)):Value)=(.bool b))∨
    (v=(.func (.func 66) #[(.pointer (some (Addr.mk gv 0 none)))] #[])∧
     E.n=m.S∧
     l=E.aj∧
     (E.on m).has x22=true∧
     ((.bool ((E.on m).clause 9 x22)):Value)=(.bool b))∨
    (v=(.func (.func 67) #[(.pointer (some (Addr.mk gv 0 none)))] #[])∧
     E.n=m.S∧
     l=E.aj∧
     (E.on m).has x22=true∧
     ((.bool ((E.on m).clause 10 x22)):Value)=(.bool b))∨
    (v=(.func (.func 68) #[(.pointer (some (Addr.mk gv 0 none)))] #[])∧
     E.n=m.S∧
     l=E.aj∧
     (E.on m).has x22=true∧
     ((.bool ((E.on m).clause 11 x22)):Value)=(.bool b))∨
    (v=(.func (.func 69) #[] #[(.pointer (some (Addr.mk gb 0 none)))])∧
     E.n=m.S∧
     l=E.aj∧
     (E.on m).has x22=true∧
     ((.bool ((E.on m).clause 12 x22)):Value)=(.bool b)))∧
   split (!b) (
    Q ⟨(.tuple #[(.int .i64 (i64.wrap (x10+1))),(.int .i64 x22)]),(some (.t [none,none])),[],[],[]⟩) (
    ∃m4,m4<m3∧I1 m4 number1 page1 (i64.wrap (x22+1)))) (
   ∃m2,m2<m1∧I m2 number1 page1 (i64.wrap (x10+1)))) (
  Q ⟨(.tuple #[(.int .i64 number),(.int .i64 aq)]),(some (.t [none,none])),[],[],[]⟩)
theorem B4:Vc2 Un Tryz.prog ⟨AW [(21,my),(22,kC),(55,iy),(57,iw),(59,iu),(61,ir),(62,kD),(63,mw),(64,mB),(65,mA),(66,oP),(67,kB),(68,kz),(69,iq)],.bool,[(55,[],[(.loc 4 0)]),(57,[],[(.loc 4 0)]),(59,[],[(.loc 4 0)]),(61,[],[(.loc 4 0)]),(62,[(.loc 2 0)],[]),(63,[(.loc 2 0)],[]),(64,[(.loc 2 0)],[]),(65,[(.loc 2 0)],[]),(66,[(.loc 2 0)],[]),(67,[(.loc 2 0)],[]),(68,[(.loc 2 0)],[]),(69,[],[(.loc 4 0)])]⟩ [] Tryz.f7 (.r' (.two (.r' (.r' (.two (.r' (.two (.node [] (some ⟨[(2,(.one (.int .i64))),(3,(.one (.int .i64))),(10,(.one (.int .i64)))],[],[2,3,5,6,7]++upN 10 24,[]⟩) [] [] (.r' (.r' (.two (.two (.r' (.r' (.r' (.two (.node [] (some ⟨[(2,(.one (.int .i64))),(3,(.one (.int .i64))),(22,(.one (.int .i64)))],[],[2,3,7]++upN 22 11,[]⟩) [] [] .leaf .leaf) .leaf)))) .leaf) .leaf))) .leaf) .leaf)) .leaf))) .leaf)) [] nt=(∀r (E:Pd) rm (m:Mem),∀Q,(nt.body r E rm m Q)→B3 r E rm m Q):=by kernel_rfl
theorem B0:LV Un Tryz.prog 7 nt:=verify Tryz.func7 aa (tb:= [(21,my),(22,kC),(55,iy),(57,iw),(59,iu),(61,ir),(62,kD),(63,mw),(64,mB),(65,mA),(66,oP),(67,kB),(68,kz),(69,iq)]) ⟨Gk,BX,wZ,wW,wT,wQ,B5,Eo,Ey,Ev,Gn,BU,BR,wM,trivial⟩ (by kernel_rfl) (B4.mpr fun r E rm m Q h=>by
 obtain⟨hp0,h⟩:=h
 exact fun f1 f2=>ai ‹_› fun s3=>fun gv A c=>fun l h_l=>⟨fun m1 number aq x10=>(m1=(12 - x10).toNat)∧(number=0∧aq=0)∧(0≤x10∧x10≤12)∧((E.on m).eZ (13 - (x10+1)).toNat (x10+1)=(E.on m).broken),⟨_,rfl,(by omega),(by omega),(by rfl)⟩,fun m1 _ number aq x10 ⟨hm,hn,hc,hb⟩=>aB (fun c1=>ai ‹_› fun s4=>ai ‹_› fun s5=>fun gb v f6=>(by(have hv:=(by assumption:v=cQ gv gb (i64.wrap (x10+1))));(rw [ah (x:=x10+1) (by omega)]at hv);exact⟨fun m3 number1 page1 x22=>(m3=((E.n:Int) - x22).toNat)∧(number1=0∧page1=0)∧(0≤x22∧x22≤(E.n:Int))∧(ia ((E.on m).clause (x10+1)) 0 x22=true),⟨_,rfl,‹_›,(by omega),(iS (Int.le_refl _))⟩,fun m3 _ number1 page1 x22 ⟨hm,hn2,hi1,hz⟩=>aB (fun c2=>(by(have hhas:(E.on m).has x22=true:=by grind);exact⟨((E.on m).clause (x10+1) x22),(by rcases(show x10+1=1∨x10+1=2∨x10+1=3∨x10+1=4∨x10+1=5∨x10+1=6∨x10+1=7∨x10+1=8∨x10+1=9∨x10+1=10∨x10+1=11∨x10+1=12 from by omega)with hk | hk | hk | hk | hk | hk | hk | hk | hk | hk | hk | hk<;>first | exact .inl ⟨by rw [hv,hk];rfl,hp0,h_l,hhas,by rw [hk]⟩ | exact .inr (.inl ⟨by rw [hv,hk];rfl,hp0,h_l,hhas,by rw [hk]⟩) | exact .inr (.inr (.inl ⟨by rw [hv,hk];rfl,hp0,h_l,hhas,by rw [hk]⟩)) | exact .inr (.inr (.inr (.inl ⟨by rw [hv,hk];rfl,hp0,h_l,hhas,by rw [hk]⟩))) | exact .inr (.inr (.inr (.inr (.inl ⟨by rw [hv,hk];rfl,hp0,h_l,hhas,by rw [hk]⟩)))) | exact .inr (.inr (.inr (.inr (.inr (.inl ⟨by rw [hv,hk];rfl,hp0,h_l,hhas,by rw [hk]⟩))))) | exact .inr (.inr (.inr (.inr (.inr (.inr (.inl ⟨by rw [hv,hk];rfl,hp0,h_l,hhas,by rw [hk]⟩)))))) | exact .inr (.inr (.inr (.inr (.inr (.inr (.inr (.inl ⟨by rw [hv,hk];rfl,hp0,h_l,hhas,by rw [hk]⟩))))))) | exact .inr (.inr (.inr (.inr (.inr (.inr (.inr (.inr (.inl ⟨by rw [hv,hk];rfl,hp0,h_l,hhas,by rw [hk]⟩)))))))) | exact .inr (.inr (.inr (.inr (.inr (.inr (.inr (.inr (.inr (.inl ⟨by rw [hv,hk];rfl,hp0,h_l,hhas,by rw [hk]⟩))))))))) | exact .inr (.inr (.inr (.inr (.inr (.inr (.inr (.inr (.inr (.inr (.inl ⟨by rw [hv,hk];rfl,hp0,h_l,hhas,by rw [hk]⟩)))))))))) | exact .inr (.inr (.inr (.inr (.inr (.inr (.inr (.inr (.inr (.inr (.inr (⟨by rw [hv,hk];rfl,hp0,h_l,hhas,by rw [hk]⟩)))))))))))),bn (fun c3=>aG h (congrArg (fun l=>Value.tuple (List.toArray l)) (af (congrArg (Value.int .i64) (by(rw [ah (x:=x10+1) (by omega),DB.qp ⟨by omega,by omega⟩ hb hz c3 ⟨hi1.1,by grind⟩]))) (af (congrArg (Value.int .i64) (by(rw [DB.qp ⟨by omega,by omega⟩ hb hz c3 ⟨hi1.1,by grind⟩]))) rfl))) rfl rfl) fun c3=>⟨_,(by(have h9:=ah (x:=x22+1) (by grind));grind),rfl,‹_›,(by(have h9:=ah (x:=x22+1) (by grind));grind),(fm hz (by grind) (ah (by grind)))⟩⟩)) fun c2=>⟨_,(by(have h8:=ah (x:=x10+1) (by omega));omega),rfl,(hn2),(by(have h8:=ah (x:=x10+1) (by omega));omega),(by rw [ah (x:=x10+1) (by omega)];exact DB.wm ⟨by omega,by omega⟩ hb (show x22=((E.on m).S:Int)by grind) hz)⟩⟩)) fun c1=>aG h (congrArg (fun l=>Value.tuple (List.toArray l)) (af (congrArg (Value.int .i64) (by rw [DB.n5 (by omega) (by omega) hb];omega)) (af (congrArg (Value.int .i64) (by rw [DB.n5 (by omega) (by omega) hb];omega)) rfl))) rfl rfl⟩)
end Go.Proofs.YtbjlecpmgocoeaaGreatDoor
end
section
set_option maxRecDepth 100000
set_option maxHeartbeats 1000000
namespace Go.Proofs.YtbjlecpmgocoeaaGreatDoor
open Go Go.RowKit V
open Go.IntKind (i64 u32 u64)
open Go.Proofs (Tryz.prog)
def zJ:Ctr Un:=⟨[.one (.int .i64),.one (.int .i64)],[],[],[],fun s i K=>((1≤(s:Int)∧(s:Int)≤64)∧(1≤(i:Int)∧(i:Int)≤64))∧∀(rN:Nat→Nat),K ⟨(.tuple #[(.pointer (some (Addr.mk (rN 0) 0 none))),(.int .i64 0)]),(some (.t [(some (.obj 0 0 0)),none])),[],[(.ob 0 rN (Mem.fresh s.toNat i.toNat))],[]⟩⟩
theorem H5:LV Un Tryz.prog 27 zJ:=by
 show ∀(s:Int)(i:Int),∀Q:Ou Un→Prop,(((1≤(s:Int)∧(s:Int)≤64)∧(1≤(i:Int)∧(i:Int)≤64))∧∀(rN:Nat→Nat),Q ⟨(.tuple #[(.pointer (some (Addr.mk (rN 0) 0 none))),(.int .i64 0)]),(some (.t [(some (.obj 0 0 0)),none])),[],[(.ob 0 rN (Mem.fresh s.toNat i.toNat))],[]⟩)→∀(X:Nat→Nat→Prop)(w:World),Sat (U:=Un) [] X w→aA (U:=Un) [] fr0 []→Calls Tryz.prog 27 #[(.int .i64 s),(.int .i64 i)] w (aS (U:=Un) [] [] X w Q)
 intro s i Q hQ X w hs hl
 obtain⟨⟨h1,h2⟩,hQ⟩:=hQ
 refine(I8 s i h1 h2).mono ?_
 rintro e w' ⟨u,rfl,L,rfl,hM,hf,q⟩
 exact aS.vD (Z:=L.X) hs q (show RS (U:=Un) L.X w' (.ob 0 (fun _=>L.g) (Mem.fresh s.toNat i.toNat))from(⟨L,rfl,fun _=>Iff.rfl,hM⟩:bo 0 (fun _=>L.g) (Mem.fresh s.toNat i.toNat) L.X w')) hf (hQ (fun _=>L.g)) (KnO.pair rfl) (fun _ _ h=>by cases h)
def qO:Ctr Un:=⟨[.one (.int .i64),.one (.int .i64)],[],[],[],fun s i K=>((1≤(s:Int)∧(s:Int)≤64)∧(1≤(i:Int)∧(i:Int)≤64))∧∀(rN:Nat→Nat),K ⟨(.tuple #[(.pointer (some (Addr.mk (rN 0) 0 none))),(.int .i64 0)]),(some (.t [(some (.obj 0 0 0)),none])),[],[(.ob 2 rN (Mem.fresh s.toNat i.toNat))],[]⟩⟩
theorem EM:LV Un Tryz.prog 30 qO:=by
 show ∀(s:Int)(i:Int),∀Q:Ou Un→Prop,(((1≤(s:Int)∧(s:Int)≤64)∧(1≤(i:Int)∧(i:Int)≤64))∧∀(rN:Nat→Nat),Q ⟨(.tuple #[(.pointer (some (Addr.mk (rN 0) 0 none))),(.int .i64 0)]),(some (.t [(some (.obj 0 0 0)),none])),[],[(.ob 2 rN (Mem.fresh s.toNat i.toNat))],[]⟩)→∀(X:Nat→Nat→Prop)(w:World),Sat (U:=Un) [] X w→aA (U:=Un) [] fr0 []→Calls Tryz.prog 30 #[(.int .i64 s),(.int .i64 i)] w (aS (U:=Un) [] [] X w Q)
 intro s i Q hQ X w hs hl
 obtain⟨⟨h1,h2⟩,hQ⟩:=hQ
 refine(Hr s i h1 h2).mono ?_
 rintro e w' ⟨u,rfl,g,L,rfl,hM,hf,q⟩
 exact aS.vD (Z:=L.X) hs q (show RS (U:=Un) L.X w' (.ob 2 (fun _=>g) (Mem.fresh s.toNat i.toNat))from(⟨L,fun _=>Iff.rfl,hM⟩:bo 2 (fun _=>g) (Mem.fresh s.toNat i.toNat) L.X w')) hf (hQ (fun _=>g)) (KnO.pair rfl) (fun _ _ h=>by cases h)
def zX:Ctr Un:=⟨[.one (.obj 0 0)],[],[.ob 0 []],[0],fun rm m K=>1≤m.S∧∀(rN:Nat→Nat),K ⟨(.pointer (some (Addr.mk (rN 0) 0 none))),(some (.p (.obj 1 0 0))),[.ob 0 (m.bu m.S)],[(.ob 1 rN ((DB.new m).pd))],[(.l 1 1,.p (.obj 0 0 0))]⟩⟩
theorem H8:LV Un Tryz.prog 29 zX:=by
 show ∀(rm:Nat→Nat)(m:Mem),∀Q:Ou Un→Prop,(1≤m.S∧∀(rN:Nat→Nat),Q ⟨(.pointer (some (Addr.mk (rN 0) 0 none))),(some (.p (.obj 1 0 0))),[.ob 0 (m.bu m.S)],[(.ob 1 rN ((DB.new m).pd))],[(.l 1 1,.p (.obj 0 0 0))]⟩)→∀(X:Nat→Nat→Prop)(w:World),Sat (U:=Un) [(.ob 0 rm m)] X w→aA (U:=Un) [(.ob 0 rm m)] fr0 []→Calls Tryz.prog 29 #[(.pointer (some (Addr.mk (rm 0) 0 none)))] w (aS (U:=Un) [(.ob 0 rm m)] [0] X w Q)
 intro rm m Q hQ X w hs hl
 obtain⟨hS,hQ⟩:=hQ
 obtain⟨L,hg,hM,hX⟩:=Af hs
 rw [hg]
 refine(Jb hM hS).mono ?_
 rintro e w' ⟨u,rfl,g,a,rfl,hM2,hD,⟨hb1,hb2⟩,q⟩
 have hlt:∀k,L.X k→k<w.heap.size:=hM.lt
 exact aS.Hv (k:=some (.p (.obj 1 0 0))) (kc:= [(.l 1 1,.p (.obj 0 0 0))]) (Z0:=X 0) (Z1:=fun k=>k=g∨k=a) (q.mono fun k hk=>(hX k).1 hk) (show bo 0 rm (m.bu m.S) (X 0) w' from⟨L,hg,hX,hM2⟩) (fun k hk=>.inl hk) (show RS (U:=Un) (fun k=>k=g∨k=a) w' (.ob 1 (fun i=>if i=0 then g else L.g) (DB.new m).pd)from(⟨a,fun k=>Iff.rfl,hD.pd⟩:bo 1 (fun i=>if i=0 then g else L.g) (DB.new m).pd (fun k=>k=g∨k=a) w'))
  (fun k hk=>by rcases hk with rfl | rfl;exact hb1;exact hb2) (fun k hk hk2=>by have:=hlt k ((hX k).2 hk);rcases hk2 with rfl | rfl<;>omega) (hQ (fun i=>if i=0 then g else L.g)) rfl (nd ⟨_,_,_,rfl,show some (Value.pointer (some ⟨rm 0,0,none⟩))=some (.pointer (some ⟨L.g,0,none⟩))by rw [hg]⟩)
def qZ:Ctr Un:=⟨[.one (.obj 0 0)],[],[.ob 1 [(1,1,0)],.ob 0 []],[],fun r E rm m K=>E.n=m.S∧∀(A:Option Addr)(c:Nat),K ⟨(.slice A (((E.on m).words.map U32.mk).length) c),(some (.p (.sl 2 0))),[],[(.lst 1 true 22 A c ((E.on m).words.map U32.mk))],[]⟩⟩
theorem E8:LV Un Tryz.prog 52 qZ:=by
 show ∀(r:Nat→Nat)(E:Pd)(rm:Nat→Nat)(m:Mem),∀Q:Ou Un→Prop,(E.n=m.S∧∀(A:Option Addr)(c:Nat),Q ⟨(.slice A (((E.on m).words.map U32.mk).length) c),(some (.p (.sl 2 0))),[],[(.lst 1 true 22 A c ((E.on m).words.map U32.mk))],[]⟩)→∀(X:Nat→Nat→Prop)(w:World),Sat (U:=Un) [(.ob 1 r E),(.ob 0 rm m)] X w→aA (U:=Un) [(.ob 1 r E),(.ob 0 rm m)] fr0 [(.l 0 1,.p (.obj 1 0 0))]→Calls Tryz.prog 52 #[(.pointer (some (Addr.mk (r 0) 0 none)))] w (aS (U:=Un) [(.ob 1 r E),(.ob 0 rm m)] [] X w Q)
 intro r E rm m Q hQ X w hs hl
 obtain⟨hn,hQ⟩:=hQ
 obtain⟨a,L,hg,hr,hD,hX0,hX1⟩:=ry hs hl hn
 refine(HJ hD).mono ?_
 rintro e w' ⟨u,rfl,g,n,rfl,ho,hz,q⟩
 have hl2:=ho.len
 subst hl2
 exact aS.more hs q (tL (U:=Un) (t:=1) ho) (fun k hk=>by have:=hk.1;omega) (hQ _ _) rfl
def lE:Ctr Un:=⟨[.one (.obj 0 0)],[],[.ob 3 [(1,1,0)],.ob 2 []],[],fun r E rm m K=>E.n=m.S∧∀(A:Option Addr)(c:Nat),K ⟨(.slice A (((E.on m).words.map U32.mk).length) c),(some (.p (.sl 2 0))),[],[(.lst 1 true 22 A c ((E.on m).words.map U32.mk))],[]⟩⟩
theorem zr:LV Un Tryz.prog 93 lE:=by
 show ∀(r:Nat→Nat)(E:Pd)(rm:Nat→Nat)(m:Mem),∀Q:Ou Un→Prop,(E.n=m.S∧∀(A:Option Addr)(c:Nat),Q ⟨(.slice A (((E.on m).words.map U32.mk).length) c),(some (.p (.sl 2 0))),[],[(.lst 1 true 22 A c ((E.on m).words.map U32.mk))],[]⟩)→∀(X:Nat→Nat→Prop)(w:World),Sat (U:=Un) [(.ob 3 r E),(.ob 2 rm m)] X w→aA (U:=Un) [(.ob 3 r E),(.ob 2 rm m)] fr0 [(.l 0 1,.p (.obj 1 0 0))]→Calls Tryz.prog 93 #[(.pointer (some (Addr.mk (r 0) 0 none)))] w (aS (U:=Un) [(.ob 3 r E),(.ob 2 rm m)] [] X w Q)
 intro r E rm m Q hQ X w hs hl
 obtain⟨hn,hQ⟩:=hQ
 obtain⟨L,hD⟩:=Ii hs hl hn
 refine(Dk hD).mono ?_
 rintro e w' ⟨u,rfl,Z',A',N',C',rfl,ho,hz,q⟩
 have hl2:=ho.len
 subst hl2
 exact aS.more hs q (tL (U:=Un) (t:=1) ho) (fun k hk=>hz k hk.1) (hQ _ _) rfl
def zo:Ctr Un:=⟨[],[],[],[],fun K=>∀(rN:Nat→Nat),K ⟨(.pointer (some (Addr.mk (rN 0) 0 none))),(some (.p (.obj 0 0 0))),[],[(.ob 4 rN Dg.new)],[]⟩⟩
theorem H2:LV Un Tryz.prog 87 zo:=by
 show ∀Q:Ou Un→Prop,(∀(rN:Nat→Nat),Q ⟨(.pointer (some (Addr.mk (rN 0) 0 none))),(some (.p (.obj 0 0 0))),[],[(.ob 4 rN Dg.new)],[]⟩)→∀(X:Nat→Nat→Prop)(w:World),Sat (U:=Un) [] X w→aA (U:=Un) [] fr0 []→Calls Tryz.prog 87 #[] w (aS (U:=Un) [] [] X w Q)
 intro Q hQ X w hs hl
 refine I0.mono ?_
 rintro e w' ⟨u,rfl,g,L,rfl,hD,hf,q⟩
 exact aS.vD (Z:=L.X g) hs q (show RS (U:=Un) (L.X g) w' (.ob 4 (fun _=>g) Dg.new)from(⟨L,fun _=>Iff.rfl,hD⟩:bo 4 (fun _=>g) Dg.new (L.X g) w')) hf (hQ (fun _=>g)) rfl (fun _ _ h=>by cases h)
def zq:Ctr Un:=⟨[.one (.obj 0 0),.one (.sl 1)],[(2,5)],[.ob 4 [],.lst 1 false 22,.ob 5 []],[0],fun r d A c l rk kk K=>d.Ok∧l.length≤1099511627776∧K ⟨(.tuple #[]),(some (.t [])),[.ob 4 (d.add kk l)],[],[]⟩⟩
theorem H3:LV Un Tryz.prog 89 zq:=by
 show ∀(r:Nat→Nat)(d:Dg)(A:Option Addr)(c:Nat)(l:List U32)(rk:Nat→Nat)(kk:List Int),∀Q:Ou Un→Prop,(d.Ok∧l.length≤1099511627776∧Q ⟨(.tuple #[]),(some (.t [])),[.ob 4 (d.add kk l)],[],[]⟩)→∀(X:Nat→Nat→Prop)(w:World),Sat (U:=Un) [(.ob 4 r d),(.lst 1 false 22 A c l),(.ob 5 rk kk)] X w→aA (U:=Un) [(.ob 4 r d),(.lst 1 false 22 A c l),(.ob 5 rk kk)] fr0 []→Calls Tryz.prog 89 #[(.pointer (some (Addr.mk (r 0) 0 none))),(.slice A l.length c)] w (aS (U:=Un) [(.ob 4 r d),(.lst 1 false 22 A c l),(.ob 5 rk kk)] [0] X w Q)
 intro r d A c l rk kk Q hQ X w hs hl
 obtain⟨hok,hlen,hQ⟩:=hQ
 obtain⟨L,hX,hD⟩:=(hs.res 0 _ rfl:bo 4 r d (X 0) w)
 have hr:Rd w (X 1) A l.length c l:=hs.res 1 _ rfl
 obtain⟨hX2,hK⟩:=(hs.res 2 _ rfl:bo 5 rk kk (X 2) w)
 have h0:X 0 (r 0):=(hX _).1 (.inl rfl)
 refine(I3 hD hr hK hok hlen (fun h=>hs.dis 0 1 (by simp) (by simp) (by omega) _ h0 h) (fun h=>hs.dis 0 2 (by simp) (by simp) (by omega) _ h0 ((hX2 _).1 h))).mono ?_
 rintro e w' ⟨u,rfl,L',rfl,hD',hg,q⟩
 exact aS.first (Z:=L'.X (r 0)) hs (q.mono fun k hk=>(hX k).1 hk) (show bo 4 r (d.add kk l) (L'.X (r 0)) w' from⟨L',fun _=>Iff.rfl,hD'⟩) (fun k hk=>(hg k hk).imp (fun h=>(hX k).1 h) id) hQ (KnO.tup _ (by simp))
def uy:Ctr Un:=⟨[.one (.obj 0 0)],[],[.ob 4 []],[],fun r d K=>d.Ok∧K ⟨(.agg ⟨Dg.sv d⟩),none,[],[],[]⟩⟩
theorem Gs:LV Un Tryz.prog 91 uy:=by
 show ∀(r:Nat→Nat)(d:Dg),∀Q:Ou Un→Prop,(d.Ok∧Q ⟨(.agg ⟨Dg.sv d⟩),none,[],[],[]⟩)→∀(X:Nat→Nat→Prop)(w:World),Sat (U:=Un) [(.ob 4 r d)] X w→aA (U:=Un) [(.ob 4 r d)] fr0 []→Calls Tryz.prog 91 #[(.pointer (some (Addr.mk (r 0) 0 none)))] w (aS (U:=Un) [(.ob 4 r d)] [] X w Q)
 intro r d Q hQ X w hs hl
 obtain⟨hok,hQ⟩:=hQ
 obtain⟨L,hX,hD⟩:=(hs.res 0 _ rfl:bo 4 r d (X 0) w)
 refine(Ig hD hok).mono ?_
 rintro e w' ⟨u,rfl,rfl,q⟩
 rw [vi (by rw [Dg.pr hok])]
 exact aS.pu hs q hQ trivial
def qR:Ctr Un:=⟨[],[],[],[],fun K=>K ⟨(.agg #[(.int .u32 S8.first.a),(.int .u32 S8.first.b),(.int .u32 S8.first.c),(.int .u32 S8.first.d),(.int .u32 S8.first.e),(.int .u32 S8.first.f),(.int .u32 S8.first.g),(.int .u32 S8.first.h),(.slice none 0 0),(.int .i64 0)]),none,[],[],[]⟩⟩
theorem EN:LV Un Tryz.prog 88 qR:=by
 show ∀Q:Ou Un→Prop,(Q ⟨(.agg #[(.int .u32 S8.first.a),(.int .u32 S8.first.b),(.int .u32 S8.first.c),(.int .u32 S8.first.d),(.int .u32 S8.first.e),(.int .u32 S8.first.f),(.int .u32 S8.first.g),(.int .u32 S8.first.h),(.slice none 0 0),(.int .i64 0)]),none,[],[],[]⟩)→∀(X:Nat→Nat→Prop)(w:World),Sat (U:=Un) [] X w→aA (U:=Un) [] fr0 []→Calls Tryz.prog 88 #[] w (aS (U:=Un) [] [] X w Q)
 intro Q hQ X w hs hl
 refine Hs.mono ?_
 rintro e w' ⟨u,rfl,rfl,q⟩
 exact aS.pu hs q hQ trivial
def qU:Ctr Un:=⟨[.agg [.int .u32,.int .u32,.int .u32,.int .u32,.int .u32,.int .u32,.int .u32,.int .u32,.sl 0,.int .i64],.one (.sl 1)],[(2,6)],[.lst 1 true 22,.lst 1 false 22,.ob 6 []],[0],fun da db dc dd de df dg dh dn A0 c0 l0 A c l rk kk K=>(Dg.mk (S8.mk da db dc dd de df dg dh) dn l0).Ok∧(l.length≤1099511627776∧(l.length:Int)≤36028797018963968 - dn)∧∀(A1:Option Addr)(c1:Nat),K ⟨(.agg #[(.int .u32 (((Dg.mk (S8.mk da db dc dd de df dg dh) dn l0).add kk l).st.a)),(.int .u32 (((Dg.mk (S8.mk da db dc dd de df dg dh) dn l0).add kk l).st.b)),(.int .u32 (((Dg.mk (S8.mk da db dc dd de df dg dh) dn l0).add kk l).st.c)),(.int .u32 (((Dg.mk (S8.mk da db dc dd de df dg dh) dn l0).add kk l).st.d)),(.int .u32 (((Dg.mk (S8.mk da db dc dd de df dg dh) dn l0).add kk l).st.e)),(.int .u32 (((Dg.mk (S8.mk da db dc dd de df dg dh) dn l0).add kk l).st.f)),(.int .u32 (((Dg.mk (S8.mk da db dc dd de df dg dh) dn l0).add kk l).st.g)),(.int .u32 (((Dg.mk (S8.mk da db dc dd de df dg dh) dn l0).add kk l).st.h)),(.slice A1 (((Dg.mk (S8.mk da db dc dd de df dg dh) dn l0).add kk l).waits.length) c1),(.int .i64 (((Dg.mk (S8.mk da db dc dd de df dg dh) dn l0).add kk l).n))]),(some (.ag [none,none,none,none,none,none,none,none,(some (.sl 0 0)),none])),[.lst 1 A1 c1 (((Dg.mk (S8.mk da db dc dd de df dg dh) dn l0).add kk l).waits)],[],[]⟩⟩
theorem EO:LV Un Tryz.prog 90 qU:=by
 show ∀(da:Int)(db:Int)(dc:Int)(dd:Int)(de:Int)(df:Int)(dg:Int)(dh:Int)(dn:Int)(A0:Option Addr)(c0:Nat)(l0:List U32)(A:Option Addr)(c:Nat)(l:List U32)(rk:Nat→Nat)(kk:List Int),∀Q:Ou Un→Prop,((Dg.mk (S8.mk da db dc dd de df dg dh) dn l0).Ok∧(l.length≤1099511627776∧(l.length:Int)≤36028797018963968 - dn)∧∀(A1:Option Addr)(c1:Nat),Q ⟨(.agg #[(.int .u32 (((Dg.mk (S8.mk da db dc dd de df dg dh) dn l0).add kk l).st.a)),(.int .u32 (((Dg.mk (S8.mk da db dc dd de df dg dh) dn l0).add kk l).st.b)),(.int .u32 (((Dg.mk (S8.mk da db dc dd de df dg dh) dn l0).add kk l).st.c)),(.int .u32 (((Dg.mk (S8.mk da db dc dd de df dg dh) dn l0).add kk l).st.d)),(.int .u32 (((Dg.mk (S8.mk da db dc dd de df dg dh) dn l0).add kk l).st.e)),(.int .u32 (((Dg.mk (S8.mk da db dc dd de df dg dh) dn l0).add kk l).st.f)),(.int .u32 (((Dg.mk (S8.mk da db dc dd de df dg dh) dn l0).add kk l).st.g)),(.int .u32 (((Dg.mk (S8.mk da db dc dd de df dg dh) dn l0).add kk l).st.h)),(.slice A1 (((Dg.mk (S8.mk da db dc dd de df dg dh) dn l0).add kk l).waits.length) c1),(.int .i64 (((Dg.mk (S8.mk da db dc dd de df dg dh) dn l0).add kk l).n))]),(some (.ag [none,none,none,none,none,none,none,none,(some (.sl 0 0)),none])),[.lst 1 A1 c1 (((Dg.mk (S8.mk da db dc dd de df dg dh) dn l0).add kk l).waits)],[],[]⟩)→∀(X:Nat→Nat→Prop)(w:World),Sat (U:=Un) [(.lst 1 true 22 A0 c0 l0),(.lst 1 false 22 A c l),(.ob 6 rk kk)] X w→aA (U:=Un) [(.lst 1 true 22 A0 c0 l0),(.lst 1 false 22 A c l),(.ob 6 rk kk)] fr0 []→Calls Tryz.prog 90 #[(.agg #[(.int .u32 da),(.int .u32 db),(.int .u32 dc),(.int .u32 dd),(.int .u32 de),(.int .u32 df),(.int .u32 dg),(.int .u32 dh),(.slice A0 l0.length c0),(.int .i64 dn)]),(.slice A l.length c)] w (aS (U:=Un) [(.lst 1 true 22 A0 c0 l0),(.lst 1 false 22 A c l),(.ob 6 rk kk)] [0] X w Q)
 intro da db dc dd de df dg dh dn A0 c0 l0 A c l rk kk Q hQ X w hs hl
 obtain⟨hok,⟨hlen,hle⟩,hQ⟩:=hQ
 obtain⟨hO,hOl⟩:Own w (X 0) 22 A0 l0.length c0 l0∧∀k,X 0 k→k<w.heap.size:=hs.res 0 _ rfl
 have hr:Rd w (X 1) A l.length c l:=hs.res 1 _ rfl
 obtain⟨hX2,hK⟩:=(hs.res 2 _ rfl:bo 6 rk kk (X 2) w)
 refine(Ht hO.rd hr hK da db dc dd de df dg dh dn hok hlen).mono ?_
 rintro e w' ⟨u,rfl,Z',A',N',C',rfl,hr2,_,ho,q⟩
 obtain⟨ho,hz⟩:=ho hle
 have hl2:=hr2.len
 subst hl2
 exact aS.HF (Z:=fun k=>Z' k∧k<w'.heap.size) hs (q.mono fun k hk=>hk.elim) (tL (U:=Un) (t:=1) ho) (fun k hk=>.inr (hz k hk.1)) (hQ A' C') ⟨_,rfl,fun j k hj=>by
  match j,hj with
  | 8,hj=>simp only [nth,Option.some.injEq]at hj;subst hj;exact⟨_,rfl,rfl⟩
  | 0,hj | 1,hj | 2,hj | 3,hj | 4,hj | 5,hj | 6,hj | 7,hj | 9,hj=>simp [nth]at hj
  | j+10,hj=>simp [nth]at hj⟩
def nA:Ctr Un:=⟨[.agg [.int .u32,.int .u32,.int .u32,.int .u32,.int .u32,.int .u32,.int .u32,.int .u32,.sl 0,.int .i64]],[],[.lst 1 true 22],[],fun da db dc dd de df dg dh dn A0 c0 l0 K=>(Dg.mk (S8.mk da db dc dd de df dg dh) dn l0).Ok∧K ⟨(.agg ⟨Dg.sv (Dg.mk (S8.mk da db dc dd de df dg dh) dn l0)⟩),none,[],[],[]⟩⟩
theorem Cr:LV Un Tryz.prog 92 nA:=by
 show ∀(da:Int)(db:Int)(dc:Int)(dd:Int)(de:Int)(df:Int)(dg:Int)(dh:Int)(dn:Int)(A0:Option Addr)(c0:Nat)(l0:List U32),∀Q:Ou Un→Prop,((Dg.mk (S8.mk da db dc dd de df dg dh) dn l0).Ok∧Q ⟨(.agg ⟨Dg.sv (Dg.mk (S8.mk da db dc dd de df dg dh) dn l0)⟩),none,[],[],[]⟩)→∀(X:Nat→Nat→Prop)(w:World),Sat (U:=Un) [(.lst 1 true 22 A0 c0 l0)] X w→aA (U:=Un) [(.lst 1 true 22 A0 c0 l0)] fr0 []→Calls Tryz.prog 92 #[(.agg #[(.int .u32 da),(.int .u32 db),(.int .u32 dc),(.int .u32 dd),(.int .u32 de),(.int .u32 df),(.int .u32 dg),(.int .u32 dh),(.slice A0 l0.length c0),(.int .i64 dn)])] w (aS (U:=Un) [(.lst 1 true 22 A0 c0 l0)] [] X w Q)
 intro da db dc dd de df dg dh dn A0 c0 l0 Q hQ X w hs hl
 obtain⟨hok,hQ⟩:=hQ
 obtain⟨hO,hOl⟩:Own w (X 0) 22 A0 l0.length c0 l0∧∀k,X 0 k→k<w.heap.size:=hs.res 0 _ rfl
 refine(FF hO.rd da db dc dd de df dg dh dn hok).mono ?_
 rintro e w' ⟨u,rfl,rfl,q⟩
 rw [vi (by rw [Dg.pr hok])]
 exact aS.pu hs q hQ trivial
end Go.Proofs.YtbjlecpmgocoeaaGreatDoor
end
