/- SvcDraws returns true for every input of bulk at most 1048576; each argument reads behind the call as it read before. -/
import Derived.Test.YtfmcaoaaiganbaaGreatDoorD3
import Derived.KernelRfl
set_option linter.unusedVariables false
set_option linter.unusedSimpArgs false
namespace Go.Proofs.YtfmcaoaaiganbaaGreatDoor
open Go.Proofs.Tryz (prog)
open Go Go.RowKit V
open Go.IntKind (i64 u32 u64)
section
set_option maxRecDepth 100000
set_option maxHeartbeats 1000000
attribute [local irreducible] Vc2 VcD
def iM:Ctr Un:=⟨[.one (.int .i64)],[],[],[],fun p K=>K ⟨(.tuple #[(.int .u32 (eI p)),(.int .i64 (cF p))]),(some (.t [none,none])),[],[],[]⟩⟩
def BO(p:Int)(Q:Ou Un→Prop):Prop:=
 ∃J:Bool→Prop,(
  split (decide (p<0)) (
   J true) (
   J (decide (p≥64))))∧∀(Ic:Nat→Value)(x9:Bool),J x9→
 split x9 (
  Q ⟨(.tuple #[(.int .u32 0),(.int .i64 4)]),(some (.t [none,none])),[],[],[]⟩) (
  Q ⟨(.tuple #[(.int .u32 (u32.wrap (BitVec.ofInt u32.bits (u32.wrap ((u32.wrap p)*2 ^ 8)) ||| BitVec.ofInt u32.bits 1).toNat)),(.int .i64 0)]),(some (.t [none,none])),[],[],[]⟩)
theorem BP:Vc2 Un prog (aN []) [] Tryz.f215 (.r' (.two (.two (.node [] (some ⟨[(9,(.one .bool))],[],upN 4 6,[]⟩) [] [] .leaf .leaf) .leaf) .leaf)) [] iM=(∀p,∀Q,(iM.body p Q)→BO p Q):=by kernel_rfl
theorem BN:LV Un prog 215 iM:=verify Tryz.func215 aa (tb:= []) trivial (by kernel_rfl) (BP.mpr fun p Q h=>bB ((decide ((p:Int)<0)) || (decide ((p:Int)≥64))) (ae (fun c1=>(by grind)) fun c1=>(by grind))<| aL (fun c2=>aF h (by(have h:¬(0≤p∧p<64):=by grind);simp [eI,cF,h]) rfl rfl) fun c2=>aF h (by(have h:0≤p∧p<64:=by grind);rw [AI h];simp [eI,cF,h]) rfl rfl)
def cW:Ctr Un:=⟨[.one (.int .u32),.one (.int .i64),.one (.fn 215)],[],[],[],fun v x K=>∀(ra:Int)(re:Int),((ra=(if v≠0∧cF x=0∧eI x=v then x else 0)∧re=(if v=0 then 92 else if cF x=0∧eI x=v then 0 else 90)))→K ⟨(.tuple #[(.int .i64 ra),(.int .i64 re)]),(some (.t [none,none])),[],[],[]⟩⟩
def oX(v:Int)(x:Int)(Q:Ou Un→Prop):Prop:=
 split (v==0) (
  Q ⟨(.tuple #[(.int .i64 0),(.int .i64 92)]),(some (.t [none,none])),[],[],[]⟩) (
  ∃J:Bool→Prop,(
   split ((cF x) !=0) (
    J true) (
    J ((eI x) !=v)))∧∀(Ic:Nat→Value)(Jl:Bool),J Jl→
  split Jl (
   Q ⟨(.tuple #[(.int .i64 0),(.int .i64 90)]),(some (.t [none,none])),[],[],[]⟩) (
   Q ⟨(.tuple #[(.int .i64 x),(.int .i64 0)]),(some (.t [none,none])),[],[],[]⟩))
theorem oY:Vc2 Un prog (aN [(215,iM)]) [] Tryz.f214 (.r' (.r' (.r' (.two (.r' (.two (.node [] (some ⟨[(26,(.one .bool))],[],upN 20 7,[]⟩) [] [] .leaf .leaf) .leaf)) .leaf)))) [] cW=(∀v x,∀Q,(cW.body v x Q)→oX v x Q):=by kernel_rfl
theorem oW:LV Un prog 214 cW:=verify Tryz.func214 aa (tb:= [(215,iM)]) ⟨BN,trivial⟩ (by kernel_rfl) (oY.mpr fun v x Q h=>by
 try skip
 exact aC (fun c1=>(h 0 92 (by omega))) fun c1=>bB ((((cF x):Int) !=0) || (((eI x):Int) !=v)) (ae (fun c2=>(by grind)) fun c2=>(by grind))<| aL (fun c3=>(h 0 90 (by grind))) fun c3=>(h x 0 (by grind)))
def cX:Ctr Un:=⟨[.one (.int .u32)],[],[],[],fun v K=>(0≤(v:Int)∧(v:Int)<4294967296)∧K ⟨(.tuple #[(.int .i64 (aG v)),(.int .i64 (iA v))]),(some (.t [none,none])),[],[],[]⟩⟩
def o0(v:Int)(Q:Ou Un→Prop):Prop:=
 ∀(ra:Int)(re:Int),
 ((ra=(if v≠0∧cF (i64.wrap (v.fdiv (2 ^ 8)))=0∧eI (i64.wrap (v.fdiv (2 ^ 8)))=v then(i64.wrap (v.fdiv (2 ^ 8)))else 0)∧re=(if v=0 then 92 else if cF (i64.wrap (v.fdiv (2 ^ 8)))=0∧eI (i64.wrap (v.fdiv (2 ^ 8)))=v then 0 else 90)))→
 Q ⟨(.tuple #[(.int .i64 ra),(.int .i64 re)]),(some (.t [none,none])),[],[],[]⟩
theorem o2:Vc2 Un prog (aN [(214,cW)]) [] Tryz.f181 .leaf [] cX=(∀v,∀Q,(cX.body v Q)→o0 v Q):=by kernel_rfl
theorem oZ:LV Un prog 181 cX:=verify Tryz.func181 aa (tb:= [(214,cW)]) ⟨oW,trivial⟩ (by kernel_rfl) (o2.mpr fun v Q h=>by
 obtain⟨Hw,h⟩:=h
 exact fun ra re f1=>(by(have e0:i64.wrap ((v:Int).fdiv (2 ^ 8))=v / 256:=by rw [nV,ah (by omega)];rfl);rw [e0]at f1;(have h1:(cF (v / 256)=0∧eI (v / 256)=v)↔yB v=true:=(by simp only [cF,eI,yB,decide_eq_true_eq];constructor<;>intro h<;>grind));(have h2:v=0→yB v=false:=by intro h;subst h;decide);exact aF h (by simp only [h1]at f1;rw [f1.1,f1.2];simp only [aG,iA]<;>grind) rfl rfl))
def lI:Ctr Un:=⟨[.agg [.bool,.int .i64,.bool,.bool]],[],[],[],fun ma mb mc md K=>K ⟨(.tuple #[(.int .u32 ((Mp.mk ma mb mc md).word)),(.int .i64 ((Mp.mk ma mb mc md).err))]),(some (.t [none,none])),[],[],[]⟩⟩
theorem zh:LV Un prog 217 lI:=by
 show ∀(ma:Bool)(mb:Int)(mc:Bool)(md:Bool),∀Q:Ou Un→Prop,(Q ⟨(.tuple #[(.int .u32 ((Mp.mk ma mb mc md).word)),(.int .i64 ((Mp.mk ma mb mc md).err))]),(some (.t [none,none])),[],[],[]⟩)→∀(X:Nat→Nat→Prop)(w:World),Sat (U:=Un) [] X w→ar (U:=Un) [] fr0 []→Calls prog 217 #[(.agg #[(.bool ma),(.int .i64 mb),(.bool mc),(.bool md)])] w (bd (U:=Un) [] [] X w Q)
 intro ma mb mc md Q hQ X w hs hl
 refine(CT ma mb mc md).mono ?_
 rintro e w' ⟨u,rfl,rfl,q⟩
 exact bd.pu hs q hQ (KnO.tup _ (by simp))
def bO:Ctr Un:=⟨[.one (.int .u32),.agg [.bool,.int .i64,.bool,.bool],.one (.fn 217)],[],[],[],fun v ma mb mc md K=>∀(ra:Bool)(rb:Int)(rc:Bool)(rd:Bool)(re:Int),((Mp.mk ra rb rc rd=(if v≠0∧(Mp.mk ma mb mc md).err=0∧(Mp.mk ma mb mc md).word=v then(Mp.mk ma mb mc md)else Mp.nil)∧re=(if v=0 then 92 else if(Mp.mk ma mb mc md).err=0∧(Mp.mk ma mb mc md).word=v then 0 else 90)))→K ⟨(.tuple #[(.agg #[(.bool ra),(.int .i64 rb),(.bool rc),(.bool rd)]),(.int .i64 re)]),(some (.t [none,none])),[],[],[]⟩⟩
def jV(v:Int)(ma:Bool)(mb:Int)(mc:Bool)(md:Bool)(Q:Ou Un→Prop):Prop:=
 ∀(gv:Nat),
 ∀(Hm:Nat),
 ∀(IF:Nat),
 split (v==0) (
  Q ⟨(.tuple #[(.agg #[(.bool false),(.int .i64 0),(.bool false),(.bool false)]),(.int .i64 92)]),(some (.t [none,none])),[],[],[]⟩) (
  ∃J:Bool→Prop,(
   split ((Mp.mk ma mb mc md).err !=0) (
    J true) (
    J ((Mp.mk ma mb mc md).word !=v)))∧∀(Kj:Nat→Value)(Jl:Bool),J Jl→
  split Jl (
   Q ⟨(.tuple #[(.agg #[(.bool false),(.int .i64 0),(.bool false),(.bool false)]),(.int .i64 90)]),(some (.t [none,none])),[],[],[]⟩) (
   Q ⟨(.tuple #[(.agg #[(.bool ma),(.int .i64 mb),(.bool mc),(.bool md)]),(.int .i64 0)]),(some (.t [none,none])),[],[],[]⟩))
theorem jW:Vc2 Un prog (aN [(217,lI)]) [] Tryz.f216 (.r' (.r' (.r' (.two (.r' (.two (.node [] (some ⟨[(26,(.one .bool))],[],upN 20 7,[]⟩) [] [] .leaf .leaf) .leaf)) .leaf)))) [] bO=(∀v ma mb mc md,∀Q,(bO.body v ma mb mc md Q)→jV v ma mb mc md Q):=by kernel_rfl
theorem jU:LV Un prog 216 bO:=verify Tryz.func216 aa (tb:= [(217,lI)]) ⟨zh,trivial⟩ (by kernel_rfl) (jW.mpr fun v ma mb mc md Q h gv Hm IF=>aC (fun c1=>(h false 0 false false 92 (by(grind)))) fun c1=>bB ((((Mp.mk ma mb mc md).err:Int) !=0) || (((Mp.mk ma mb mc md).word:Int) !=v)) (ae (fun c2=>(by grind)) fun c2=>(by grind))<| aL (fun c3=>(h false 0 false false 90 (by(grind)))) fun c3=>(h ma mb mc md 0 (by(grind))))
def bP:Ctr Un:=⟨[.one (.int .u32)],[],[],[],fun v K=>(0≤(v:Int)∧(v:Int)<4294967296)∧K ⟨(.tuple #[(.agg #[(.bool ((bz v).aW)),(.int .i64 ((bz v).ak)),(.bool ((bz v).write)),(.bool ((bz v).exec))]),(.int .i64 (kd v))]),(some (.t [none,none])),[],[],[]⟩⟩
def oh(v:Int)(Q:Ou Un→Prop):Prop:=
 ∀(gv:Nat),
 ∀x7:Bool,x7=((u32.wrap (BitVec.ofInt u32.bits v &&& BitVec.ofInt u32.bits 2).toNat:Int) !=0)→
 ∀HE:Int,HE=(i64.wrap ((v:Int).fdiv (2 ^ 8)))→
 ∀H4:Bool,H4=((u32.wrap (BitVec.ofInt u32.bits v &&& BitVec.ofInt u32.bits 4).toNat:Int) !=0)→
 ∀Iu:Bool,Iu=((u32.wrap (BitVec.ofInt u32.bits v &&& BitVec.ofInt u32.bits 8).toNat:Int) !=0)→
 ∀(ra:Bool)(rb:Int)(rc:Bool)(rd:Bool)(re:Int),
 ((Mp.mk ra rb rc rd=(if v≠0∧(Mp.mk x7 HE H4 Iu).err=0∧(Mp.mk x7 HE H4 Iu).word=v then(Mp.mk x7 HE H4 Iu)else Mp.nil)∧re=(if v=0 then 92 else if(Mp.mk x7 HE H4 Iu).err=0∧(Mp.mk x7 HE H4 Iu).word=v then 0 else 90)))→
 Q ⟨(.tuple #[(.agg #[(.bool ra),(.int .i64 rb),(.bool rc),(.bool rd)]),(.int .i64 re)]),(some (.t [none,none])),[],[],[]⟩
theorem om:Vc2 Un prog (aN [(216,bO)]) [7,10,14,17] Tryz.f182 .leaf [] bP=(∀v,∀Q,(bP.body v Q)→oh v Q):=by kernel_rfl
theorem iL:LV Un prog 182 bP:=verify Tryz.func182 aa (tb:= [(216,bO)]) ⟨jU,trivial⟩ (by kernel_rfl) (om.mpr fun v Q h=>by
 obtain⟨Hw,h⟩:=h
 exact fun gv x7 Rl HE Nx H4 IN Iu Nu ra rb rc rd re f1=>(by(have e0:i64.wrap ((v:Int).fdiv (2 ^ 8))=v / 256:=by rw [nV,ah (by omega)];rfl);(rw [eS 1 2 (by decide) (by omega) Hw]at Rl);rw [e0]at Nx;(rw [eS 2 4 (by decide) (by omega) Hw]at IN);(rw [eS 3 8 (by decide) (by omega) Hw]at Nu);(have hg:Mp.mk x7 HE H4 Iu=Mp.xG v:=by rw [Rl,Nx,IN,Nu];rfl);rw [hg]at f1;exact aF h (by(have hm:bz v=Mp.mk ra rb rc rd∧kd v=re:=by grind [bz,kd,qU]);rw [hm.1,hm.2]) rfl rfl))
def iX:Ctr Un:=⟨[.enc 6],[],[],[],fun f K=>K ⟨(.int .u32 (File.flags f)),none,[],[],[]⟩⟩
def CF(f:Fl)(Q:Ou Un→Prop):Prop:=
 ∀(gv:Nat),
 ∀(s:Fl),s=(Fl.norm f)→
 Fl.Ok s→
 split (Fl.z s) (
  Q ⟨(.int .u32 1),none,[],[],[]⟩) (
  ∀wv:Int,wv=0→
  split (Fl.n s) (
   ∀Hb:Int,Hb=(u32.wrap (BitVec.ofInt u32.bits wv ||| BitVec.ofInt u32.bits 2).toNat)→
   split (Fl.l s) (
    ∀He:Int,He=(u32.wrap (BitVec.ofInt u32.bits Hb ||| BitVec.ofInt u32.bits 4).toNat)→
    Q ⟨(.int .u32 He),none,[],[],[]⟩) (
    Q ⟨(.int .u32 Hb),none,[],[],[]⟩)) (
   split (Fl.l s) (
    ∀Hb:Int,Hb=(u32.wrap (BitVec.ofInt u32.bits wv ||| BitVec.ofInt u32.bits 4).toNat)→
    Q ⟨(.int .u32 Hb),none,[],[],[]⟩) (
    Q ⟨(.int .u32 wv),none,[],[],[]⟩)))
theorem CG:Vc2 Un prog (aN []) [3] Tryz.f230 .leaf [] iX=(∀(f:Fl),∀Q,(iX.body f Q)→CF f Q):=by kernel_rfl
theorem CE:LV Un prog 230 iX:=verify Tryz.func230 aa (tb:= []) trivial (by kernel_rfl) (CG.mpr fun f Q h gv s J8 f1=>ae (fun c1=>dN h (by subst_vars;simp only [Fl.norm]at *;(simp [File.flags, *];done))) fun c1 wv h_wv=>ae (fun c2 Hb Rm=>ae (fun c3 He h_wv2=>dN h (by subst_vars;simp only [Fl.norm]at *;(simp only [File.flags, *];rfl))) fun c3=>dN h (by subst_vars;simp only [Fl.norm]at *;(simp only [File.flags, *];rfl))) fun c2=>ae (fun c4 Hb Rm=>dN h (by subst_vars;simp only [Fl.norm]at *;(simp only [File.flags, *];rfl))) fun c4=>dN h (by subst_vars;simp only [Fl.norm]at *;(simp [File.flags, *];done)))
def fA:Ctr Un:=⟨[.enc 6,.one (.int .u32)],[],[],[],fun f w K=>Fl.Ok f∧(0≤(w:Int)∧(w:Int)<4294967296)∧K ⟨(.tuple #[(.agg ⟨Fl.cells (File.dj f w)⟩),(.int .i64 (File.eg w))]),(some (.t [none,none])),[],[],[]⟩⟩
def wF(f:Fl)(w:Int)(Q:Ou Un→Prop):Prop:=
 ∀(gv:Nat),
 ∀(s:Fl),s=(Fl.norm f)→
 Fl.Ok s→
 ∀(Hm:Nat),
 ∀(s1:Fl),s1=Fl.zero→
 Fl.Ok s1→
 ∀x8:Bool,x8=((u32.wrap (BitVec.ofInt u32.bits w &&& BitVec.ofInt u32.bits 1).toNat:Int) !=0)→
 ∀H3:Bool,H3=((u32.wrap (BitVec.ofInt u32.bits w &&& BitVec.ofInt u32.bits 2).toNat:Int) !=0)→
 ∀H4:Bool,H4=((u32.wrap (BitVec.ofInt u32.bits w &&& BitVec.ofInt u32.bits 4).toNat:Int) !=0)→
 True∧
 ∀(s2:Fl),s2=({s with z:=x8}:Fl)→
 Fl.Ok s2→
 True∧
 ∀(s3:Fl),s3=({s2 with n:=H3}:Fl)→
 Fl.Ok s3→
 True∧
 ∀(s4:Fl),s4=({s3 with l:=H4}:Fl)→
 Fl.Ok s4→
 True∧
 split ((File.flags (Fl.norm s4)) !=w) (
  True∧
  ∀(s5:Fl),s5=Fl.zero→
  Fl.Ok s5→
  True∧
  Q ⟨(.tuple #[(.agg ⟨Fl.cells s5⟩),(.int .i64 80)]),(some (.t [none,none])),[],[],[]⟩) (
  True∧
  True∧
  ∀(s5:Fl),s5=(Fl.norm s4)→
  Fl.Ok s5→
  True∧
  Q ⟨(.tuple #[(.agg ⟨Fl.cells s5⟩),(.int .i64 0)]),(some (.t [none,none])),[],[],[]⟩)
theorem wG:Vc2 Un prog (aN [(230,iX)]) [8,11,14] Tryz.f218 .leaf [] fA=(∀(f:Fl) w,∀Q,(fA.body f w Q)→wF f w Q):=by kernel_rfl
theorem wE:LV Un prog 218 fA:=verify Tryz.func218 aa (tb:= [(230,iX)]) ⟨CE,trivial⟩ (by kernel_rfl) (wG.mpr fun f w Q h=>by
 obtain⟨Hw,HB,h⟩:=h
 exact fun gv s J8 f1 Hm s1 JL f2 x8 Mc H3 IP H4 IN=>af trivial fun _ s2 Is f4=>af trivial fun _ s3 IK f6=>af trivial fun _ s4 IB f8=>af trivial fun _=>aX (fun c1=>af trivial fun _ s5 J7 f11=>af trivial fun _=>(by(have e4:Fl.norm s4= {f with z:=x8,n:=H3,l:=H4}:=by rw [Fl.norm_eq (show Fl.Ok s4 by assumption),IB,IK,Is,J8,Fl.norm_eq Hw]);(rw [eS 0 1 (by decide) (by omega) HB]at Mc);(rw [eS 1 2 (by decide) (by omega) HB]at IP);(rw [eS 2 4 (by decide) (by omega) HB]at IN);have hi:=File.tp HB;(have h0:File.eH w=false:=(by rw [e4,Mc,IP,IN]at c1;simp only [File.flags]at c1;rw [hi]at c1;simpa using c1));exact aF h (congrArg (fun l=>Value.tuple (List.toArray l)) (ab (congrArg (fun s:Fl=>Value.agg ⟨Fl.cells s⟩) (by rw [File.tn h0,J7])) (ab (bp (by rw [File.tq h0])) rfl))) rfl rfl)) fun c1=>af trivial fun _=>af trivial fun _ s5 J7 f15=>af trivial fun _=>(by(have e4:Fl.norm s4= {f with z:=x8,n:=H3,l:=H4}:=by rw [Fl.norm_eq (show Fl.Ok s4 by assumption),IB,IK,Is,J8,Fl.norm_eq Hw]);(rw [eS 0 1 (by decide) (by omega) HB]at Mc);(rw [eS 1 2 (by decide) (by omega) HB]at IP);(rw [eS 2 4 (by decide) (by omega) HB]at IN);have hi:=File.tp HB;(have h0:File.eH w=true:=(by rw [e4,Mc,IP,IN]at c1;simp only [File.flags]at c1;rw [hi]at c1;simpa using c1));have h2:=File.yO h0;exact aF h (congrArg (fun l=>Value.tuple (List.toArray l)) (ab (congrArg (fun s:Fl=>Value.agg ⟨Fl.cells s⟩) (by rw [File.vM h0,J7,e4,Mc,IP,IN,h2.1,h2.2.1,h2.2.2])) (ab (bp (by rw [File.vN h0])) rfl))) rfl rfl))
def jq:Ctr Un:=⟨[.one (.sl 0)],[],[.lst 1 false 23],[],fun A c l K=>((∀x∈l,0≤x.v∧x.v<4294967296))∧K ⟨(.tuple #[(.agg ⟨Fl.cells (File.unpack l)⟩),(.int .i64 (File.dO l))]),(some (.t [none,none])),[],[],[]⟩⟩
def zT(A:Option Addr)(c:Nat)(l:List U32)(Q:Ou Un→Prop):Prop:=
 ∀(gv:Nat),
 ∀(s:Fl),s=Fl.zero→
 Fl.Ok s→
 split ((l.length:Int) !=17) (
  True∧
  ∀(s1:Fl),s1=Fl.zero→
  Fl.Ok s1→
  True∧
  Q ⟨(.tuple #[(.agg ⟨Fl.cells s1⟩),(.int .i64 80)]),(some (.t [none,none])),[],[],[]⟩) (
  (0<l.length∧15≤l.length)∧
  (15≤l.length)∧
  (0≤(15:Int)∧(15:Int)<(l.length:Int))∧
  ∀(Hm:Nat),
  ∀(s1:Fl),s1=Fl.zero→
  Fl.Ok s1→
  True∧
  ∀(s2:Fl),s2=(Fl.mk [U32.mk ((l.getD 0 (U32.mk 0)).v),U32.mk ((l.getD 1 (U32.mk 0)).v),U32.mk ((l.getD 2 (U32.mk 0)).v),U32.mk ((l.getD 3 (U32.mk 0)).v),U32.mk ((l.getD 4 (U32.mk 0)).v),U32.mk ((l.getD 5 (U32.mk 0)).v),U32.mk ((l.getD 6 (U32.mk 0)).v),U32.mk ((l.getD 7 (U32.mk 0)).v),U32.mk ((l.getD 8 (U32.mk 0)).v),U32.mk ((l.getD 9 (U32.mk 0)).v),U32.mk ((l.getD 10 (U32.mk 0)).v),U32.mk ((l.getD 11 (U32.mk 0)).v),U32.mk ((l.getD 12 (U32.mk 0)).v),U32.mk ((l.getD 13 (U32.mk 0)).v),U32.mk ((l.getD 14 (U32.mk 0)).v)] ((l.getD (Int.toNat 15) (U32.mk 0)).v) false false false)→
  Fl.Ok s2→
  True∧
  (0≤(16:Int)∧(16:Int)<(l.length:Int))∧
  Fl.Ok (Fl.norm s2)∧
  (0≤((l.getD (Int.toNat 16) (U32.mk 0)).v)∧((l.getD (Int.toNat 16) (U32.mk 0)).v)<4294967296)∧
  True∧
  ∀(s3:Fl),s3=(Fl.norm (File.dj (Fl.norm s2) ((l.getD (Int.toNat 16) (U32.mk 0)).v)))→
  Fl.Ok s3→
  ∃J:Bool→Prop,(
   split ((File.eg ((l.getD (Int.toNat 16) (U32.mk 0)).v))==0) (
    True∧
    J (aY ⟨Fl.cells s3⟩ ⟨Fl.cells Fl.zero⟩)) (
    J false))∧∀(I7:Nat→Value)(x31:Bool),J x31→
  split x31 (
   True∧
   ∀(s4:Fl),s4=Fl.zero→
   Fl.Ok s4→
   True∧
   Q ⟨(.tuple #[(.agg ⟨Fl.cells s4⟩),(.int .i64 0)]),(some (.t [none,none])),[],[],[]⟩) (
   True∧
   True∧
   ∀(s4:Fl),s4=(Fl.norm s3)→
   Fl.Ok s4→
   True∧
   Q ⟨(.tuple #[(.agg ⟨Fl.cells s4⟩),(.int .i64 (File.eg ((l.getD (Int.toNat 16) (U32.mk 0)).v)))]),(some (.t [none,none])),[],[],[]⟩))
theorem zU:Vc2 Un prog (aN [(218,fA)]) [] Tryz.f184 (.r' (.r' (.two (.node [] none [] [(2,[0]),(5,[0])] .leaf .leaf) (.two (.node [] none [] [(0,[2]),(3,[0])] .leaf .leaf) (.two (.two (.node [] (some ⟨[(31,(.one .bool))],[],upN 25 7,[]⟩) [] [] .leaf .leaf) .leaf) .leaf))))) [] jq=(∀A c (l:List U32),∀Q,(((∀x∈l,0≤x.v∧x.v<4294967296))∧Q ⟨(.tuple #[(.agg ⟨Fl.cells (File.unpack l)⟩),(.int .i64 (File.dO l))]),(some (.t [none,none])),[],[],[]⟩)→zT A c l Q):=by kernel_rfl
theorem zS:LV Un prog 184 jq:=verify Tryz.func184 aa (tb:= [(218,fA)]) ⟨wE,trivial⟩ (by kernel_rfl) (zU.mpr fun A c l Q h=>by
 obtain⟨Hw,h⟩:=h
 exact fun gv s J8 f1=>aX (fun c1=>af trivial fun _ s1 JL f3=>af trivial fun _=>(by(have h0:¬l.length=17:=by omega);exact aF h (congrArg (fun l=>Value.tuple (List.toArray l)) (ab (congrArg (fun s:Fl=>Value.agg ⟨Fl.cells s⟩) (by rw [(File.nc h0).1,JL])) (ab (bp (by rw [(File.nc h0).2])) rfl))) rfl rfl)) fun c1=>af (by omega) fun s5=>af (by omega) fun s6=>af (by omega) fun s7 Hm s1 JL f8=>af trivial fun _ s2 Is f10=>af trivial fun _=>af (by omega) fun Mj=>af (Fl.Di _) fun LK=>af (File.vL Hw _) fun Mi=>af trivial fun _ s3 IK f16=>bB ((((File.eg ((l.getD (Int.toNat 16) (U32.mk 0)).v)):Int)==0) && (aY ⟨Fl.cells s3⟩ ⟨Fl.cells Fl.zero⟩)) (ae (fun c2=>af trivial fun _=>(by grind)) fun c2=>(by grind))<| bW (fun c3=>af trivial fun _ s4 IB f19=>af trivial fun _=>(by(have h0:l.length=17:=by omega);have hu:=File.lR h0;(have e2:Fl.norm s2=File.bare l:=by rw [Fl.norm_eq (show Fl.Ok s2 by assumption),Is,File.bare_eq h0]);(have e3:s3=File.dj (File.bare l) (l.getD 16 (U32.mk 0)).v:=by rw [IK,e2];exact Fl.norm_eq (File.nT h0 _));(have hz:=Fl.Du (show Fl.Ok s3 by assumption) c3.2);exact aF h (congrArg (fun l=>Value.tuple (List.toArray l)) (ab (congrArg (fun s:Fl=>Value.agg ⟨Fl.cells s⟩) (by rw [hu.1,← e3,hz,IB])) (ab (bp (by(rw [hu.2];simpa using c3.1))) rfl))) rfl rfl)) fun c3=>af trivial fun _=>af trivial fun _ s4 IB f23=>af trivial fun _=>(by(have h0:l.length=17:=by omega);have hu:=File.lR h0;(have e2:Fl.norm s2=File.bare l:=by rw [Fl.norm_eq (show Fl.Ok s2 by assumption),Is,File.bare_eq h0]);(have e3:s3=File.dj (File.bare l) (l.getD 16 (U32.mk 0)).v:=by rw [IK,e2];exact Fl.norm_eq (File.nT h0 _));exact aF h (congrArg (fun l=>Value.tuple (List.toArray l)) (ab (congrArg (fun s:Fl=>Value.agg ⟨Fl.cells s⟩) (by(rw [hu.1,← e3,IB];exact(Fl.norm_eq ‹_›).symm))) (ab (bp (by exact hu.2)) rfl))) rfl rfl))
end
section
set_option maxRecDepth 100000
def qv(R:ax)(w:World):Prop:=
 ∀(gv:Nat)(wv:World),gv=w.heap.size→wv=w.alloc (.cells (#[(.int .u32 0),(.int .u32 0),(.int .u32 0),(.int .u32 0),(.int .u32 0),(.int .u32 0),(.int .u32 0),(.int .u32 0)]) 24)→
 aD wv (Addr.mk gv 0 none) [(.int .u32 1779033703),(.int .u32 3144134277),(.int .u32 1013904242),(.int .u32 2773480762),(.int .u32 1359893119),(.int .u32 2600822924),(.int .u32 528734635),(.int .u32 1541459225)] fun Hb=>
 ∃KF:Int,∃KE:Int,∃LO:Int,∃LN:Int,∃LM:Int,∃r0f:Int,∃r0g:Int,∃r0h:Int,(Hb.cell? ((Addr.mk gv 0 none).add 0)=some (.int .u32 KF)∧Hb.cell? ((Addr.mk gv 0 none).add 1)=some (.int .u32 KE)∧Hb.cell? ((Addr.mk gv 0 none).add 2)=some (.int .u32 LO)∧Hb.cell? ((Addr.mk gv 0 none).add 3)=some (.int .u32 LN)∧Hb.cell? ((Addr.mk gv 0 none).add 4)=some (.int .u32 LM)∧Hb.cell? ((Addr.mk gv 0 none).add 5)=some (.int .u32 r0f)∧Hb.cell? ((Addr.mk gv 0 none).add 6)=some (.int .u32 r0g)∧Hb.cell? ((Addr.mk gv 0 none).add 7)=some (.int .u32 r0h))∧
 R (.agg #[(.int .u32 KF),(.int .u32 KE),(.int .u32 LO),(.int .u32 LN),(.int .u32 LM),(.int .u32 r0f),(.int .u32 r0g),(.int .u32 r0h)]) Hb
def zy:Ann:= .leaf
theorem SFirst_eq(R:ax)(w:World):qv R w=vcF prog aE [] Tryz.f148 zy [] R none w:=by kernel_rfl
theorem rK {R:ax} {w:World}(h:qv R w):Calls prog 148 #[] w fun e w'=>∃v,e= .returned v∧R v w':=
 ai Tryz.func148 au aa ((SFirst_eq R w).mp h)
end
end Go.Proofs.YtfmcaoaaiganbaaGreatDoor
namespace Go.Proofs.YtfmcaoaaiganbaaGreatDoor
open Go.Proofs.Tryz (prog)
open Go Go.RowKit V
open Go.IntKind (i64 u32 u64)
section
set_option maxRecDepth 10000
set_option maxHeartbeats 1000000
theorem Ei:S1 prog 31 23 (.int .u32 0) 4:=S1.of (by kernel_rfl) (by kernel_rfl) rfl
theorem Eh:SN prog 31 23 (.int .u32 0) 1 4:=Ei.sn
theorem ER {w:World}:
 Calls prog 148 #[] w fun e w'=>∃v,e= .returned v∧v= .agg #[(.int .u32 S8.first.a),(.int .u32 S8.first.b),(.int .u32 S8.first.c),(.int .u32 S8.first.d),(.int .u32 S8.first.e),(.int .u32 S8.first.f),(.int .u32 S8.first.g),(.int .u32 S8.first.h)]∧Pu w w':=by
 refine rK ?_
 have hp:=Ch.refl (fun _=>False) w
 refine mkd fun gv wv Hg=>?_
 have Hp:=Hg.lo hp
 have Ha:=Hg.blk
 refine pH Ha rfl fun Hb JD=>?_
 have Ha:=JD.blk
 refine⟨_,_,_,_,_,_,_,_,⟨Ha.at rfl,Ha.at rfl,Ha.at rfl,Ha.at rfl,Ha.at rfl,Ha.at rfl,Ha.at rfl,Ha.at rfl⟩,?_⟩
 have hp:=Ch.call (Ch.made hp Hg) JD.ch (by exact fun k e=>.inr (e▸Hp))
 exact⟨congrArg Value.agg (G8 (congrArg (Value.int .u32) (by rfl)) (congrArg (Value.int .u32) (by rfl)) (congrArg (Value.int .u32) (by rfl)) (congrArg (Value.int .u32) (by rfl)) (congrArg (Value.int .u32) (by rfl)) (congrArg (Value.int .u32) (by rfl)) (congrArg (Value.int .u32) (by rfl)) (congrArg (Value.int .u32) (by rfl))),hp⟩
end
end Go.Proofs.YtfmcaoaaiganbaaGreatDoor
namespace Go.Proofs.YtfmcaoaaiganbaaGreatDoor
open Go.Proofs.Tryz (prog)
open Go Go.RowKit V
open Go.IntKind (i64 u32 u64)
section
set_option maxRecDepth 100000
def uD(wordsA:Option Addr)(wordsN:Nat)(wordsC:Nat)(R:ax)(w:World):Prop:=
 split ((((wordsN:Nat):Int):Int) !=26) (
  R (.tuple #[(.pointer none),(.int .i64 20)]) w) (
  (0≤(8:Int)∧(8:Int)<((wordsN:Nat):Int))∧
  av wordsA fun NL=>
  ∃H4:Int,w.drew.cell? (NL.add (Int.toNat 8*1))=some (.int .u32 H4)∧
  (0≤(9:Int)∧(9:Int)<((wordsN:Nat):Int))∧
  av wordsA fun RB=>
  ∃Hz:Int,w.drew.cell? (RB.add (Int.toNat 9*1))=some (.int .u32 Hz)∧
  ∀n:Int,n=(u64.wrap (BitVec.ofInt u64.bits (u64.wrap ((u64.wrap H4:Int)*2 ^ 32)) ||| BitVec.ofInt u64.bits (u64.wrap Hz)).toNat)→
  (0≤(8:Int)∧(8:Int)≤((wordsC:Nat):Int))∧
  (0≤(8:Int)∧(8:Int)≤((Int.toNat 8:Nat):Int))∧
  ∀KP:Option Addr,KP=(if(Int.toNat 8)=0 then wordsA else(wordsA:Option Addr).map (·.add (0*1)))→∀KO:Nat,KO=(Int.toNat 8) - 0→∀Lo:Nat,Lo=(Int.toNat 8) - 0→
  8≤KO∧
  av KP fun Mk=>
  ∃Ll:Int,∃MA:Int,∃Mz:Int,∃My:Int,∃Mx:Int,∃PO:Int,∃PN:Int,∃PM:Int,(w.drew.cell? (Mk.add 0)=some (.int .u32 Ll)∧w.drew.cell? (Mk.add 1)=some (.int .u32 MA)∧w.drew.cell? (Mk.add 2)=some (.int .u32 Mz)∧w.drew.cell? (Mk.add 3)=some (.int .u32 My)∧w.drew.cell? (Mk.add 4)=some (.int .u32 Mx)∧w.drew.cell? (Mk.add 5)=some (.int .u32 PO)∧w.drew.cell? (Mk.add 6)=some (.int .u32 PN)∧w.drew.cell? (Mk.add 7)=some (.int .u32 PM))∧
  ∀(gv:Nat)(wv:World),gv=w.drew.heap.size→wv=w.drew.alloc (.cells #[(.int .u32 Ll),(.int .u32 MA),(.int .u32 Mz),(.int .u32 My),(.int .u32 Mx),(.int .u32 PO),(.int .u32 PN),(.int .u32 PM),(.int .i64 (i64.wrap n)),(.slice none 0 0)] 191)→
  ∃J:Bool→World→Prop,(
   ∃b:Nat→Nat→Prop,
   split (decide ((n:Int)>36028797018963968)) (
    J true wv.drew) (
    split (decide ((n:Int)<16)) (
     b 9 (((Addr.mk gv 0 none).add 0).block)∧
     ∃Pe:Int,∃Pc:Int,∃Pb:Int,∃Pa:Int,∃O9:Int,∃O8:Int,∃O7:Int,∃O6:Int,(wv.drew.cell? (((Addr.mk gv 0 none).add 0).add 0)=some (.int .u32 Pe)∧wv.drew.cell? (((Addr.mk gv 0 none).add 0).add 1)=some (.int .u32 Pc)∧wv.drew.cell? (((Addr.mk gv 0 none).add 0).add 2)=some (.int .u32 Pb)∧wv.drew.cell? (((Addr.mk gv 0 none).add 0).add 3)=some (.int .u32 Pa)∧wv.drew.cell? (((Addr.mk gv 0 none).add 0).add 4)=some (.int .u32 O9)∧wv.drew.cell? (((Addr.mk gv 0 none).add 0).add 5)=some (.int .u32 O8)∧wv.drew.cell? (((Addr.mk gv 0 none).add 0).add 6)=some (.int .u32 O7)∧wv.drew.cell? (((Addr.mk gv 0 none).add 0).add 7)=some (.int .u32 O6))∧
     Calls prog 148 #[] wv.drew fun e Hb=>
     ∃O3:Int,∃O1:Int,∃O0:Int,∃OZ:Int,∃OY:Int,∃OX:Int,∃OW:Int,∃OV:Int,e= .returned (.agg #[(.int .u32 O3),(.int .u32 O1),(.int .u32 O0),(.int .u32 OZ),(.int .u32 OY),(.int .u32 OX),(.int .u32 OW),(.int .u32 OV)])∧
     Kept (fm b [0,6,7,8,9]) wv.drew Hb∧∃b1:Nat→Nat→Prop,(∀i k,b i k→b1 i k)∧
     J (!(aY #[(.int .u32 Pe),(.int .u32 Pc),(.int .u32 Pb),(.int .u32 Pa),(.int .u32 O9),(.int .u32 O8),(.int .u32 O7),(.int .u32 O6)] #[(.int .u32 O3),(.int .u32 O1),(.int .u32 O0),(.int .u32 OZ),(.int .u32 OY),(.int .u32 OX),(.int .u32 OW),(.int .u32 OV)])) Hb) (
     J false wv.drew)))∧∀(Hn:Nat→Value)(It:Bool),∀Hb,J It Hb→
  split It (
   R (.tuple #[(.pointer none),(.int .i64 20)]) Hb) (
   ∀waits:Int,waits=(i64.wrap ((n:Int).tmod 16))→
   (0≤(i64.wrap (10+waits):Int)∧(i64.wrap (10+waits):Int)≤((wordsN:Nat):Int))∧
   ∀IQ:Option Addr,IQ=(if wordsC=(Int.toNat (i64.wrap (10+waits)))then wordsA else(wordsA:Option Addr).map (·.add ((Int.toNat (i64.wrap (10+waits)))*1)))→∀Ie:Nat,Ie=wordsN - (Int.toNat (i64.wrap (10+waits)))→∀Jt:Nat,Jt=wordsC - (Int.toNat (i64.wrap (10+waits)))→
   ∃I:Nat→Int→World→Prop,(∃m,I m 0 Hb)∧∀(m:Nat)(I7:Nat→Value)(I9:Int),∀He,I m I9 He→
   split (decide ((I9:Int)<((Ie:Nat):Int))) (
    (0≤(I9:Int)∧(I9:Int)<((Ie:Nat):Int))∧
    av IQ fun p54=>
    ∃M4:Int,He.cell? (p54.add (Int.toNat I9*1))=some (.int .u32 M4)∧
    split ((M4:Int) !=0) (
     R (.tuple #[(.pointer none),(.int .i64 20)]) He) (
     ∃m1,m1<m∧I m1 (i64.wrap (I9+1)) He)) (
    (0≤(i64.wrap (10+waits):Int)∧(i64.wrap (10+waits):Int)≤((wordsC:Nat):Int))∧
    (0≤(i64.wrap (10+waits):Int)∧(i64.wrap (10+waits):Int)≤((Int.toNat (i64.wrap (10+waits)):Nat):Int))∧
    (0≤(10:Int)∧(10:Int)≤((Int.toNat (i64.wrap (10+waits)):Nat):Int))∧
    ∀Mu:Option Addr,Mu=(if(Int.toNat (i64.wrap (10+waits)))=(Int.toNat 10)then wordsA else(wordsA:Option Addr).map (·.add ((Int.toNat 10)*1)))→∀JA:Nat,JA=(Int.toNat (i64.wrap (10+waits))) - (Int.toNat 10)→∀Mt:Nat,Mt=(Int.toNat (i64.wrap (10+waits))) - (Int.toNat 10)→
    ∃OJ:Option Addr,∃OH:Nat,∃OI:Nat,∃Hf,(Builtin.append_ #[31,31] 31 #[(.slice none 0 0),(.slice Mu JA Mt)]:Sem Value).run prog He= .ok (.slice OJ OH OI) Hf∧
    aD Hf ((Addr.mk gv 0 none).add 9) [(.slice OJ OH OI)] fun Hl=>
    R (.tuple #[(.pointer (some (Addr.mk gv 0 none))),(.int .i64 0)]) Hl)))
def Ce:Ann:=(.node none .leaf (.node none .leaf (.node none .leaf (.node none .leaf (.node none (.node none (.node (some ⟨[(43,.one (.bool))],[30,31,32,33,34,35,36,37,38,39,40,41,42,43]⟩) .leaf .leaf) .leaf) (.node none .leaf (.node none (.node none .leaf (.node none (.node (some ⟨[(52,.one (.int .i64))],[2,3,8,52,53,54,55,56,57,58]⟩) .leaf .leaf) .leaf)) .leaf)))))))
theorem SLoad_eq(wordsA:Option Addr)(wordsN:Nat)(wordsC:Nat)(R:ax)(w:World):uD wordsA wordsN wordsC R w=vcF prog aE [4,6] Tryz.f177 Ce [(.slice wordsA wordsN wordsC)] R none w:=by kernel_rfl
theorem uE(wordsA:Option Addr)(wordsN:Nat)(wordsC:Nat) {R:ax} {w:World}(h:uD wordsA wordsN wordsC R w):Calls prog 177 #[(.slice wordsA wordsN wordsC)] w fun e w'=>∃v,e= .returned v∧R v w':=
 ai Tryz.func177 au aa ((SLoad_eq wordsA wordsN wordsC R w).mp h)
end
end Go.Proofs.YtfmcaoaaiganbaaGreatDoor
namespace Go.Proofs.YtfmcaoaaiganbaaGreatDoor
open Go.Proofs.Tryz (prog)
open Go Go.RowKit V
open Go.IntKind (i64 u32 u64)
section
set_option maxRecDepth 10000
set_option maxHeartbeats 1000000
theorem F0 {Z:Nat→Prop} {wordsA:Option Addr} {wordsN:Nat} {wordsC:Nat} {l:List U32} {w:World}(hz:Rd w Z wordsA wordsN wordsC l)(hw:∀x∈l,0≤x.v∧x.v<4294967296):
 Calls prog 177 #[(.slice wordsA wordsN wordsC)] w fun e w'=>∃v,e= .returned v∧∃p:Option Addr,v= .tuple #[(.pointer p),(.int .i64 (Dg.bu l))]∧(Dg.bu l=0→∃g L,p=some (Addr.mk g 0 none)∧po w' g L (Dg.load l)∧∀k,L.X g k→w.heap.size≤k)∧Pu w w':=by
 refine uE _ _ _ ?_
 have hl:=hz.len
 have Re:=hz.cap
 have hp:=Ch.refl (fun _=>False) w
 have lt_hz:=hz.lt
 refine aX (fun c1=>?_) (fun c1=>?_)
 ·exact⟨none,congrArg Value.tuple (oU (rfl) (congrArg (Value.int .i64) (by rw [Dg.kt (by omega)]))),fun h=>absurd h (by rw [Dg.kt (by omega)];omega),hp⟩
 ·have I4:l.length=26:=by omega
  have QP:=Dg.nOf_eq hw I4
  refine⟨by omega,?_⟩
  obtain⟨p2,Rk,Sr,L9⟩:=hz.u32 (by omega)
  refine ao p2 Rk ?_
  have hz:=hz.pu (Pu.dh _)
  refine⟨_,L9 8 (by omega),⟨by omega,?_⟩⟩
  obtain⟨p3,Oy,hz3,S9⟩:=hz.u32 (by omega)
  refine ao p3 Oy ⟨_,S9 9 (by omega),?_⟩
  rintro n e_n
  obtain rfl:n=Dg.nOf l:=e_n.trans (by exact QP.1)
  refine⟨by omega,⟨by omega,?_⟩⟩
  rintro KP Oc KO Oa Lo Ob
  have NK:=Rd.cut (lo:=0) (hi:=(Int.toNat 8)) hz Oc Oa Ob (by omega) (by omega) (by omega)
  refine⟨by omega,?_⟩
  obtain⟨p4,ha4,hz4,L8⟩:=NK.u32 (by omega)
  refine ao p4 ha4 ⟨_,_,_,_,_,_,_,_,⟨L8 0 (by omega),L8 1 (by omega),L8 2 (by omega),L8 3 (by omega),L8 4 (by omega),L8 5 (by omega),L8 6 (by omega),L8 7 (by omega)⟩,?_⟩
  have hp:=Ch.drew hp
  refine mkd fun gv wv Hg=>?_
  have Hp:=Hg.lo hp
  have Ha:=Hg.blk
  refine⟨_,?_,fun _ It Hb h=>h⟩
  refine⟨bXU [9] [] wv.drew (fun _=>False),?_⟩
  refine aA (fun c5=>?_) (fun c5=>?_)
  ·refine jd ?_
   have hp:=Ch.drew (Ch.made hp Hg)
   exact⟨none,congrArg Value.tuple (oU (rfl) (congrArg (Value.int .i64) (by rw [Dg.eR I4 (.inl c5)]))),fun h=>absurd h (by rw [Dg.eR I4 (.inl c5)];omega),hp⟩
  ·refine aA (fun c6=>?_) (fun c6=>?_)
   ·have Ha:=Blk.drew Ha
    refine⟨.inr ⟨by decide,bX.ld Ha (fun h=>h) _⟩,_,_,_,_,_,_,_,_,⟨Ha.at2 rfl,Ha.at2 rfl,Ha.at2 rfl,Ha.at2 rfl,Ha.at2 rfl,Ha.at2 rfl,Ha.at2 rfl,Ha.at2 rfl⟩,?_⟩
    refine Calls.mono (ER) ?_
    rintro e Hb ⟨_,rfl,rfl,Hc⟩
    refine⟨_,_,_,_,_,_,_,_,rfl,?_⟩
    refine bXU.xu Hc (by decide) ?_
    refine br (fun c7=>?_) (fun c7=>?_)
    ·have Jg:Dg.jI l≠S8.first:=by intro h;simp [Dg.jI,S8.first]at h;simp [aY,eqL,js,S8.first,h]at c7
     have hp:=Ch.pu (Ch.drew (Ch.made hp Hg)) Hc
     exact⟨none,congrArg Value.tuple (oU (rfl) (congrArg (Value.int .i64) (by rw [Dg.eR I4 (.inr ⟨c6,Jg⟩)]))),fun h=>absurd h (by rw [Dg.eR I4 (.inr ⟨c6,Jg⟩)];omega),hp⟩
    ·have Jg:Dg.jI l=S8.first:=by simp [aY,eqL,js,S8.first]at c7;simp [Dg.jI,S8.first,c7]
     have hg:¬(Dg.nOf l>36028797018963968∨(Dg.nOf l<16∧Dg.jI l≠S8.first)):=by rintro(h | h);exact c5 h;exact h.2 Jg
     rintro waits Jw
     obtain rfl:waits=Dg.nOf l % 16:=Jw.trans (by rw [Int.tmod_eq_emod_of_nonneg QP.2.1,ah (by omega)])
     refine⟨by(simp only [IntKind.wrap_i64];omega),?_⟩
     have hz:=((hz.pu Hg.pu).pu (Pu.dh _)).pu Hc
     rintro IQ Kh Ie Kf Jt Kg
     have H5:=Rd.from_ (lo:=(Int.toNat (i64.wrap (10+(Dg.nOf l % 16))))) hz Kh Kf Kg (by(rw [Dg.lo_eq];omega)) (by have:=hz.cap;omega)
     have hp:=Ch.pu (Ch.drew (Ch.made hp Hg)) Hc
     have Ha:=Pu.blk Hc Ha
     refine⟨fun mz I9 W=>mz=(Ie - I9).toNat∧(0≤I9∧I9≤Ie)∧(∀(i:Nat)(x:U32),i<I9.toNat→(l.drop (10+(Dg.nOf l % 16).toNat))[i]? =some x→x.v=0)∧Ch (fun _=>False) w W∧Rd W Z wordsA wordsN wordsC l∧Blk W gv #[(.int .u32 ((((l.drop 0).take ((Int.toNat 8) - 0)).getD 0 ⟨0⟩).v)),(.int .u32 ((((l.drop 0).take ((Int.toNat 8) - 0)).getD 1 ⟨0⟩).v)),(.int .u32 ((((l.drop 0).take ((Int.toNat 8) - 0)).getD 2 ⟨0⟩).v)),(.int .u32 ((((l.drop 0).take ((Int.toNat 8) - 0)).getD 3 ⟨0⟩).v)),(.int .u32 ((((l.drop 0).take ((Int.toNat 8) - 0)).getD 4 ⟨0⟩).v)),(.int .u32 ((((l.drop 0).take ((Int.toNat 8) - 0)).getD 5 ⟨0⟩).v)),(.int .u32 ((((l.drop 0).take ((Int.toNat 8) - 0)).getD 6 ⟨0⟩).v)),(.int .u32 ((((l.drop 0).take ((Int.toNat 8) - 0)).getD 7 ⟨0⟩).v)),(.int .i64 (i64.wrap (Dg.nOf l))),(.slice none 0 0)] 191∧Rd W Z IQ Ie Jt (l.drop (Int.toNat (i64.wrap (10+(Dg.nOf l % 16))))),⟨_,rfl,(by omega),(by intro i x h;omega),hp,hz,Ha,H5⟩,?_⟩
     rintro _ _ I9 He ⟨rfl,h0,hq,hp,hz,Ha,H5⟩
     refine aA (fun c8=>?_) (fun c8=>?_)
     ·obtain⟨p9,x9,ha9,Oj,Oi,hc9⟩:=H5.ld (i:=I9) (by omega) (by omega)
      refine⟨by constructor<;>omega,ao p9 ha9 ⟨_,hc9 0 (by decide),?_⟩⟩
      refine aX (fun Ki=>?_) (fun Ki=>?_)
      ·exact⟨none,congrArg Value.tuple (oU (rfl) (congrArg (Value.int .i64) (by rw [Dg.lo_eq]at Oj;rw [Dg.et I4 hg Oj Ki]))),fun h=>absurd h (by rw [Dg.et I4 hg (Dg.lo_eq▸Oj) Ki];omega),hp⟩
      ·exact⟨_,by rw [IntKind.wrap_i64];omega,rfl,by rw [IntKind.wrap_i64];omega,by rw [ah (by omega)];intro i x hi hx;by_cases he:i=I9.toNat;(subst he;(rw [Dg.lo_eq]at Oj;rw [hx]at Oj;injection Oj with e;rw [e];simpa using Ki));exact hq i x (by omega) hx,hp,hz,Ha,H5⟩
     ·have Oi:=hp
      have hgw:gv<He.heap.size:=Ha.lt
      refine⟨by(simp only [IntKind.wrap_i64];omega),⟨by(simp only [IntKind.wrap_i64];omega),⟨by(simp only [IntKind.wrap_i64];omega),?_⟩⟩⟩
      rintro Mu Ke JA Kc Mt Kd
      have JV:=Rd.cut (lo:=10) (hi:=(Int.toNat (i64.wrap (10+(Dg.nOf l % 16))))) hz Ke Kc Kd (by(rw [Dg.lo_eq];omega)) (by(rw [Dg.lo_eq];omega)) (by omega)
      refine mP Eh JV (by have:= @Dg.lo_eq l;omega) (by have:= @Dg.lo_eq l;omega) fun A_wv3 JM Hf IL HL=>?_
      have Ha:=Pu.blk HL Ha
      refine bY Ha (by simp) fun Hl IY=>?_
      have Ha:Blk Hl gv #[(.int .u32 ((((l.drop 0).take ((Int.toNat 8) - 0)).getD 0 ⟨0⟩).v)),(.int .u32 ((((l.drop 0).take ((Int.toNat 8) - 0)).getD 1 ⟨0⟩).v)),(.int .u32 ((((l.drop 0).take ((Int.toNat 8) - 0)).getD 2 ⟨0⟩).v)),(.int .u32 ((((l.drop 0).take ((Int.toNat 8) - 0)).getD 3 ⟨0⟩).v)),(.int .u32 ((((l.drop 0).take ((Int.toNat 8) - 0)).getD 4 ⟨0⟩).v)),(.int .u32 ((((l.drop 0).take ((Int.toNat 8) - 0)).getD 5 ⟨0⟩).v)),(.int .u32 ((((l.drop 0).take ((Int.toNat 8) - 0)).getD 6 ⟨0⟩).v)),(.int .u32 ((((l.drop 0).take ((Int.toNat 8) - 0)).getD 7 ⟨0⟩).v)),(.int .i64 (i64.wrap (Dg.nOf l))),(.slice A_wv3 JA JM)] _:=IY.blk.cast (by kernel_rfl)
      have IL:=IL.ch IY.ch (fun k hx e=>absurd hx.1 (by omega))
      have hp:=Ch.call (Ch.pu hp HL) IY.ch (by exact fun k e=>.inr (e▸Hp))
      exact⟨_,congrArg Value.tuple (oU (rfl) (congrArg (Value.int .i64) (by rw [(Dg.nL I4 hg (fun i x hx=>hq i x (by have:=(List.getElem?_eq_some_iff.1 hx).1;rw [List.length_drop]at this;have:= @Dg.lo_eq l;omega) hx))]))),fun _=>⟨gv,⟨fun k=>(He.heap.size≤k∧k<Hf.heap.size)∧k<Hl.heap.size,A_wv3,JA,JM⟩,rfl,⟨⟨_,Blk.cast Ha (by simp [Dg.load,Dg.jI];have:=QP.2;exact(ah (x:=Dg.nOf l) (by omega)).symm)⟩,by have h9:=(IL).rd;have h8:= @Dg.lo_eq l;have e:Dg.load l=⟨Dg.jI l,Dg.nOf l,(l.drop 10).take (Int.toNat (i64.wrap (10+Dg.nOf l % 16)) - 10)⟩:=(by rw [h8,Nat.add_sub_cancel_left];rfl);rw [e];exact h9,by intro h;exact absurd h.1.1 (by have:=Hg.num;have:=Oi.size;omega)⟩,fun k hk=>hk.elim (fun e=>by rw [e];exact Hp) (fun h=>by have:=Oi.size;have:=h.1.1;omega)⟩,hp⟩
   ·have hg:¬(Dg.nOf l>36028797018963968∨(Dg.nOf l<16∧Dg.jI l≠S8.first)):=by rintro(h | h);exact c5 h;exact c6 h.1
    refine gR ?_
    rintro waits Jw
    obtain rfl:waits=Dg.nOf l % 16:=Jw.trans (by rw [Int.tmod_eq_emod_of_nonneg QP.2.1,ah (by omega)])
    refine⟨by(simp only [IntKind.wrap_i64];omega),?_⟩
    have hz:=(hz.pu Hg.pu).pu (Pu.dh _)
    rintro IQ Kh Ie Kf Jt Kg
    have H5:=Rd.from_ (lo:=(Int.toNat (i64.wrap (10+(Dg.nOf l % 16))))) hz Kh Kf Kg (by(rw [Dg.lo_eq];omega)) (by have:=hz.cap;omega)
    have hp:=Ch.drew (Ch.made hp Hg)
    have Ha:=Blk.drew Ha
    refine⟨fun mz I9 W=>mz=(Ie - I9).toNat∧(0≤I9∧I9≤Ie)∧(∀(i:Nat)(x:U32),i<I9.toNat→(l.drop (10+(Dg.nOf l % 16).toNat))[i]? =some x→x.v=0)∧Ch (fun _=>False) w W∧Rd W Z wordsA wordsN wordsC l∧Blk W gv #[(.int .u32 ((((l.drop 0).take ((Int.toNat 8) - 0)).getD 0 ⟨0⟩).v)),(.int .u32 ((((l.drop 0).take ((Int.toNat 8) - 0)).getD 1 ⟨0⟩).v)),(.int .u32 ((((l.drop 0).take ((Int.toNat 8) - 0)).getD 2 ⟨0⟩).v)),(.int .u32 ((((l.drop 0).take ((Int.toNat 8) - 0)).getD 3 ⟨0⟩).v)),(.int .u32 ((((l.drop 0).take ((Int.toNat 8) - 0)).getD 4 ⟨0⟩).v)),(.int .u32 ((((l.drop 0).take ((Int.toNat 8) - 0)).getD 5 ⟨0⟩).v)),(.int .u32 ((((l.drop 0).take ((Int.toNat 8) - 0)).getD 6 ⟨0⟩).v)),(.int .u32 ((((l.drop 0).take ((Int.toNat 8) - 0)).getD 7 ⟨0⟩).v)),(.int .i64 (i64.wrap (Dg.nOf l))),(.slice none 0 0)] 191∧Rd W Z IQ Ie Jt (l.drop (Int.toNat (i64.wrap (10+(Dg.nOf l % 16))))),⟨_,rfl,(by omega),(by intro i x h;omega),hp,hz,Ha,H5⟩,?_⟩
    rintro _ _ I9 He ⟨rfl,h0,hq,hp,hz,Ha,H5⟩
    refine aA (fun K1=>?_) (fun K1=>?_)
    ·obtain⟨p12,HU,Ti,KV,hz12,Ta⟩:=H5.ld (i:=I9) (by omega) (by omega)
     refine⟨by constructor<;>omega,ao p12 Ti ⟨_,Ta 0 (by decide),?_⟩⟩
     refine aX (fun Le=>?_) (fun Le=>?_)
     ·exact⟨none,congrArg Value.tuple (oU (rfl) (congrArg (Value.int .i64) (by rw [Dg.lo_eq]at KV;rw [Dg.et I4 hg KV Le]))),fun h=>absurd h (by rw [Dg.et I4 hg (Dg.lo_eq▸KV) Le];omega),hp⟩
     ·exact⟨_,by rw [IntKind.wrap_i64];omega,rfl,by rw [IntKind.wrap_i64];omega,by rw [ah (by omega)];intro i x hi hx;by_cases he:i=I9.toNat;(subst he;(rw [Dg.lo_eq]at KV;rw [hx]at KV;injection KV with e;rw [e];simpa using Le));exact hq i x (by omega) hx,hp,hz,Ha,H5⟩
    ·have Oi:=hp
     have hgw:gv<He.heap.size:=Ha.lt
     refine⟨by(simp only [IntKind.wrap_i64];omega),⟨by(simp only [IntKind.wrap_i64];omega),⟨by(simp only [IntKind.wrap_i64];omega),?_⟩⟩⟩
     rintro Mu Ke JA Kc Mt Kd
     have JV:=Rd.cut (lo:=10) (hi:=(Int.toNat (i64.wrap (10+(Dg.nOf l % 16))))) hz Ke Kc Kd (by(rw [Dg.lo_eq];omega)) (by(rw [Dg.lo_eq];omega)) (by omega)
     refine mP Eh JV (by have:= @Dg.lo_eq l;omega) (by have:= @Dg.lo_eq l;omega) fun A_wv3 JM Hf IL HL=>?_
     have Ha:=Pu.blk HL Ha
     refine bY Ha (by simp) fun Hl IY=>?_
     have Ha:Blk Hl gv #[(.int .u32 ((((l.drop 0).take ((Int.toNat 8) - 0)).getD 0 ⟨0⟩).v)),(.int .u32 ((((l.drop 0).take ((Int.toNat 8) - 0)).getD 1 ⟨0⟩).v)),(.int .u32 ((((l.drop 0).take ((Int.toNat 8) - 0)).getD 2 ⟨0⟩).v)),(.int .u32 ((((l.drop 0).take ((Int.toNat 8) - 0)).getD 3 ⟨0⟩).v)),(.int .u32 ((((l.drop 0).take ((Int.toNat 8) - 0)).getD 4 ⟨0⟩).v)),(.int .u32 ((((l.drop 0).take ((Int.toNat 8) - 0)).getD 5 ⟨0⟩).v)),(.int .u32 ((((l.drop 0).take ((Int.toNat 8) - 0)).getD 6 ⟨0⟩).v)),(.int .u32 ((((l.drop 0).take ((Int.toNat 8) - 0)).getD 7 ⟨0⟩).v)),(.int .i64 (i64.wrap (Dg.nOf l))),(.slice A_wv3 JA JM)] _:=IY.blk.cast (by kernel_rfl)
     have IL:=IL.ch IY.ch (fun k hx e=>absurd hx.1 (by omega))
     have hp:=Ch.call (Ch.pu hp HL) IY.ch (by exact fun k e=>.inr (e▸Hp))
     exact⟨_,congrArg Value.tuple (oU (rfl) (congrArg (Value.int .i64) (by rw [(Dg.nL I4 hg (fun i x hx=>hq i x (by have:=(List.getElem?_eq_some_iff.1 hx).1;rw [List.length_drop]at this;have:= @Dg.lo_eq l;omega) hx))]))),fun _=>⟨gv,⟨fun k=>(He.heap.size≤k∧k<Hf.heap.size)∧k<Hl.heap.size,A_wv3,JA,JM⟩,rfl,⟨⟨_,Blk.cast Ha (by simp [Dg.load,Dg.jI];have:=QP.2;exact(ah (x:=Dg.nOf l) (by omega)).symm)⟩,by have h9:=(IL).rd;have h8:= @Dg.lo_eq l;have e:Dg.load l=⟨Dg.jI l,Dg.nOf l,(l.drop 10).take (Int.toNat (i64.wrap (10+Dg.nOf l % 16)) - 10)⟩:=(by rw [h8,Nat.add_sub_cancel_left];rfl);rw [e];exact h9,by intro h;exact absurd h.1.1 (by have:=Hg.num;have:=Oi.size;omega)⟩,fun k hk=>hk.elim (fun e=>by rw [e];exact Hp) (fun h=>by have:=Oi.size;have:=h.1.1;omega)⟩,hp⟩
end
end Go.Proofs.YtfmcaoaaiganbaaGreatDoor
namespace Go.Proofs.YtfmcaoaaiganbaaGreatDoor
open Go.Proofs.Tryz (prog)
open Go Go.RowKit V
open Go.IntKind (i64 u32 u64)
section
set_option maxRecDepth 100000
set_option maxHeartbeats 1000000
attribute [local irreducible] Vc2 VcD
attribute [local grind=] Pd.bN Pd.bt Pd.fX Pd.gu Pd.ep Pd.du Pd.dG Pd.dX Pd.jt
attribute [local grind .] Pd.Ok.ent
attribute [local grind→] Pd.Ok.most
theorem ej {E:Pd} {m:Mem}(h:m.Wf)(p o:Int):0≤(E.on m).word p o∧(E.on m).word p o<4294967296:=by
 show 0≤m.ba true p o∧m.ba true p o<_
 unfold Mem.ba
 split
 ·exact h.1 _ _ _
 ·omega
theorem q8(D:DB)(p:Int) {n:Int}(h:0≤n):D.fG p (n+1)=D.fG p n+(if D.of n 4 (D.at_ p).owner then bR (D.gY p n) 1024 else 0):=by
 unfold DB.fG
 rw [show(n+1).toNat=n.toNat+1 by omega,List.range_succ,List.map_append,List.sum_append]
 simp only [List.map_cons,List.map_nil,List.sum_cons,List.sum_nil,Int.add_zero,show((n.toNat:Nat):Int)=n by omega]
structure vg(D:DB)(p:Int)(l:List I64)(n:Int):Prop where
 len:l.length=D.S
 val:∀q:Int,0≤q→q<(D.S:Int)→(l.getD q.toNat (I64.mk 0)).v=D.named p n q
theorem fj(D:DB)(p q:Int) {n:Int}(h:0≤n):D.named p (n+1) q=D.named p n q+(if D.word p n !=0 && aG (D.word p n)==q then 1 else 0):=cx h
theorem vg.zero(D:DB)(p:Int)(n:Nat)(h:n=D.S):vg D p (List.replicate n (I64.mk 0)) 0:=
 ⟨by simp [h],fun q h1 h2=>by rw [List.getD_eq_getElem?_getD,List.getElem?_replicate,if_pos (by omega)];rfl⟩
theorem vg.skip {D:DB} {p n:Int} {l:List I64}(h:vg D p l n)(h0:0≤n)(hw:D.word p n=0):vg D p l (n+1):=
 ⟨h.len,fun q h1 h2=>by rw [h.val q h1 h2,fj D p q h0,hw];simp⟩
theorem vg.put {D:DB} {p n:Int} {l:List I64}(h:vg D p l n)(h0:0≤n∧n<256)(hw:¬D.word p n=0)(hp:0≤aG (D.word p n)∧aG (D.word p n)<(D.S:Int)):
 vg D p (l.set (aG (D.word p n)).toNat (I64.mk (i64.wrap ((l.getD (aG (D.word p n)).toNat (I64.mk 0)).v+1)))) (n+1):=by
 refine⟨by simp [h.len],fun q h1 h2=>?_⟩
 have hr:=kC (f:=fun i=>D.word p i !=0 && aG (D.word p i)==aG (D.word p n)) h0.1
 have Ol:=fK (f:=fun i=>D.word p i !=0 && aG (D.word p i)==aG (D.word p n)) (n:=n)
 have hv:=h.val _ hp.1 hp.2
 rw [fj D p q h0.1,List.getD_eq_getElem?_getD,List.getElem?_set]
 by_cases hq:aG (D.word p n)=q
 ·subst hq
  rw [if_pos rfl,if_pos (by rw [h.len];omega)]
  show i64.wrap _=_
  rw [hv]
  unfold DB.named at *
  rw [ah (by omega)]
  simp [hw]
 ·rw [if_neg (by omega),← List.getD_eq_getElem?_getD,h.val q h1 h2]
  simp [hq]
theorem su {E:Pd} {m:Mem}(h:m.Wf)(p lo:Int)(n:Nat):∀x∈(E.on m).some_ p lo n,0≤x.v∧x.v<4294967296:=by
 intro x hx
 obtain⟨i,_,rfl⟩:=List.mem_map.1 hx
 exact ej h p _
end
end Go.Proofs.YtfmcaoaaiganbaaGreatDoor
namespace Go.Proofs.YtfmcaoaaiganbaaGreatDoor
open Go.Proofs.Tryz (prog)
open Go Go.RowKit V
open Go.IntKind (i64 u32 u64)
theorem xh(w:Int):0≤(bz w).ak∧(bz w).ak<64:=by
 unfold bz
 split
 ·rename_i h
  have h:=h.2
  unfold qU Mp.err at h
  simp only [decide_eq_true_eq]at h
  have h:=h.1
  split at h
  ·assumption
  ·omega
 ·exact⟨by decide,by decide⟩
theorem mH {w:Int}(hw:0≤w):0≤aG w∧aG w<64:=by
 unfold aG
 split
 ·rename_i h
  unfold yB at h
  simp only [decide_eq_true_eq]at h
  omega
 ·omega
theorem eqF(a b:Bool)(x y:Int):aY #[.bool a,.int .i64 x] #[.bool b,.int .i64 y]=((a==b) && (x==y)):=by
 simp [aY,eqL,js]
theorem yV {f:Int→Bool} {a b:Int}(h:a≤b):bR f a≤bR f b:=by
 by_cases h0:a<0
 ·have e:bR f a=0:=by unfold bR;rw [show a.toNat=0 by omega];rfl
  rw [e];exact fK
 obtain⟨k,rfl⟩:∃k:Nat,b=a+k:=⟨(b - a).toNat,by omega⟩
 clear h
 induction k with
 | zero=>simp
 | succ k ih=>
  have:=cx (f:=f) (n:=a+(k:Int)) (by omega)
  rw [show a+((k+1:Nat):Int)=a+k+1 by omega,this]
  split<;>omega
theorem jj {f:Int→Bool} {n:Int}(h:∀x,0≤x→x<n→f x=false):bR f n=0:=by
 unfold bR
 have:(List.range n.toNat).countP (fun(i:Nat)=>f (i:Int))=0:=by
  rw [List.countP_eq_zero]
  intro i hi
  have:=List.mem_range.1 hi
  rw [h _ (by omega) (by omega)];simp
 omega
theorem tJ {f g:Int→Bool} {q:Int}:∀ {n:Nat},0≤q→f q=false→g q=true→(∀x,0≤x→x<(n:Int)→x≠q→g x=f x)→bR g n=bR f n+(if q<(n:Int)then 1 else 0)
 | 0,h0,_,_,_=>by rw [if_neg (by omega)];rfl
 | n+1,h0,hf,hg,h=>by
  have ih:=tJ (n:=n) h0 hf hg fun x a b c=>h x a (by omega) c
  have e1:=cx (f:=f) (n:=(n:Int)) (by omega)
  have e2:=cx (f:=g) (n:=(n:Int)) (by omega)
  rw [show((n+1:Nat):Int)=(n:Int)+1 by omega,e1,e2,ih]
  by_cases hq:q=(n:Int)
  ·subst hq
   have a:¬(n:Int)<n:=by omega
   have b:(n:Int)<n+1:=by omega
   simp [hf,hg,b]
  ·rw [h _ (by omega) (by omega) (fun e=>hq e.symm)]
   by_cases h1:q<(n:Int)
   ·rw [if_pos h1,if_pos (show q<(n:Int)+1 by omega)];omega
   ·rw [if_neg h1,if_neg (show ¬q<(n:Int)+1 by omega)];omega
theorem yi {E:Pd} {i:Int}(h:0≤i∧i<(E.n:Int)):E.aj.take i.toNat++ [E.ent i.toNat]=E.aj.take (i+1).toNat:=by
 rw [show(i+1).toNat=i.toNat+1 by omega,List.take_add_one,Pd.nW (by omega)];rfl
structure jA(D:DB)(p lo:Int)(n:Nat)(x:Int)(l:List U32):Prop where
 len:l.length=n
 val:∀i:Nat,(i:Int)<x→i<n→l[i]? =some ⟨D.word p (lo+(i:Int))⟩
theorem jA.init(D:DB)(p lo:Int)(n:Nat):jA D p lo n 0 (List.replicate n (U32.mk 0)):=⟨by simp,fun i h=>by omega⟩
theorem jA.next {D:DB} {p lo x:Int} {n:Nat} {l:List U32}(h:jA D p lo n x l)(h0:0≤x)(hx:x<(n:Int))(hl:0≤lo∧lo<1024∧n<1024):jA D p lo n (i64.wrap (x+1)) (l.set x.toNat ⟨D.word p (i64.wrap (lo+x))⟩):=by
 rw [ah (by omega),ah (by omega)]
 refine⟨by simp [h.len],fun i hi hn=>?_⟩
 rw [List.getElem?_set]
 by_cases K7:x.toNat=i
 ·rw [if_pos K7,if_pos (by rw [h.len];omega),show(i:Int)=x by omega]
 ·rw [if_neg K7];exact h.val i (by omega) hn
theorem jA.done {D:DB} {p lo x:Int} {n:Nat} {l:List U32}(h:jA D p lo n x l)(hx:(n:Int)≤x):D.some_ p lo n=l:=by
 apply List.ext_getElem?
 intro i
 by_cases hi:i<n
 ·rw [h.val i (by omega) hi]
  simp [DB.some_,hi]
 ·rw [List.getElem?_eq_none (by simp [DB.some_];omega),List.getElem?_eq_none (by rw [h.len];omega)]
namespace DB
def bE(D:DB)(p:Int):Int:=if D.is (D.at_ p).owner 1 then(D.at_ p).owner else -1
def pgs(D:DB)(t o:Int)(n:Nat):List I64:=((List.range n).filter fun(q:Nat)=>(D.at_ (q:Int)).typ==t && (D.at_ (q:Int)).owner==o).map fun(q:Nat)=>⟨(q:Int)⟩
theorem sM(D:DB)(t o:Int) {i:Int}(h:0≤i∧i<9000000000000000000):D.pgs t o (i64.wrap (i+1)).toNat=if((D.at_ i).typ==t && (D.at_ i).owner==o)=true then D.pgs t o i.toNat++ [⟨i⟩]else D.pgs t o i.toNat:=by
 rw [ah (by omega),show(i+1).toNat=i.toNat+1 by omega]
 unfold pgs
 rw [List.range_succ,List.filter_append,List.map_append]
 have e:((i.toNat:Nat):Int)=i:=by omega
 split<;>rename_i hc<;>simp [e,hc]
theorem gU(D:DB)(t o:Int)(n:Nat):(D.pgs t o n).length≤n:=by
 unfold pgs
 rw [List.length_map]
 have:=List.length_filter_le (fun(q:Nat)=>(D.at_ (q:Int)).typ==t && (D.at_ (q:Int)).owner==o) (List.range n)
 rwa [List.length_range]at this
theorem vy {D:DB} {t o:Int} {x:I64}:x∈D.pgs t o D.S↔D.of x.v t o=true:=by
 unfold pgs of is has
 rw [List.mem_map]
 constructor
 ·rintro⟨q,hq,rfl⟩
  rw [List.mem_filter,List.mem_range]at hq
  have h2:=hq.2
  simp only [Bool.and_eq_true]at h2 ⊢
  exact⟨⟨by simp;exact hq.1,h2.1⟩,h2.2⟩
 ·intro h
  simp only [Bool.and_eq_true,decide_eq_true_eq]at h
  refine⟨x.v.toNat,?_,?_⟩
  ·rw [List.mem_filter,List.mem_range,show((x.v.toNat:Nat):Int)=x.v by omega]
   exact⟨by omega,by rw [Bool.and_eq_true];exact⟨h.1.2,h.2⟩⟩
  ·rw [show((x.v.toNat:Nat):Int)=x.v by omega]
theorem qV(D:DB)(t o:Int):((D.pgs t o D.S).length:Int)=bR (fun q=>D.of q t o) D.S:=by
 unfold pgs bR
 rw [List.length_map,← List.countP_eq_length_filter,Int.toNat_natCast]
 congr 1
 apply List.countP_congr
 intro q hq
 have:=List.mem_range.1 hq
 simp only [of,is,has]
 rw [show decide (0≤(q:Int)∧(q:Int)<(D.S:Int))=true by simp;omega,Bool.true_and]
theorem Dc {D:DB} {t o:Int}(h:((D.pgs t o D.S).length:Int)=1)(x:Int):D.of x t o=(x==((D.pgs t o D.S).getD (Int.toNat 0) (I64.mk 0)).v):=by
 have hx:=vy (D:=D) (t:=t) (o:=o) (x:=⟨x⟩)
 obtain⟨y,hy⟩:=List.length_eq_one_iff.1 (show(D.pgs t o D.S).length=1 by omega)
 rw [hy]at hx ⊢
 rw [List.mem_singleton]at hx
 rw [Bool.eq_iff_iff,← hx,beq_iff_eq]
 show I64.mk x=y↔x=y.v
 cases y
 simp
theorem first_eq {D:DB} {p:Int}(hS:D.S≤64):(((((D.pgs 3 p D.S).length:Nat):Int)==1) && (D.word p 0==u32.wrap ((D.pgs 3 p D.S).getD (Int.toNat 0) (I64.mk 0)).v))=(bR (fun q=>D.of q 3 p) D.S==1 && D.of (D.word p 0) 3 p):=by
 rw [qV]
 by_cases h:bR (fun q=>D.of q 3 p) D.S=1
 ·have h1:((D.pgs 3 p D.S).length:Int)=1:=by rw [qV];exact h
  have h2:=Dc h1
  have h3:=h2 ((D.pgs 3 p D.S).getD (Int.toNat 0) (I64.mk 0)).v
  rw [beq_self_eq_true]at h3
  unfold of is has at h3
  simp only [Bool.and_eq_true,decide_eq_true_eq]at h3
  rw [h2,bM (by omega)]
 ·rw [show(bR (fun q=>D.of q 3 p) D.S==1)=false by simpa using h];rfl
theorem Dh {D:DB} {t o q:Int} {l:List I64}(hl:l=D.pgs t o D.S)(h:∀j:Nat,(j:Int)<(l.length:Int)→¬(l.getD j (I64.mk 0)).v=q):D.of q t o=false:=by
 cases hc:D.of q t o
 ·rfl
 ·exfalso
  have hm:=vy (x:=⟨q⟩).2 hc
  rw [← hl]at hm
  obtain⟨j,hj,he⟩:=List.mem_iff_getElem.1 hm
  exact h j (by omega) (by rw [List.getD_eq_getElem?_getD,List.getElem?_eq_getElem hj,he];rfl)
theorem Fg {D:DB} {t o q x:Int} {l:List I64}(hl:l=D.pgs t o D.S)(hx:0≤x∧x<(l.length:Int))(h:(l.getD x.toNat (I64.mk 0)).v=q):D.of q t o=true:=by
 have hi:x.toNat<l.length:=by omega
 rw [List.getD_eq_getElem?_getD,List.getElem?_eq_getElem hi]at h
 have hm:l[x.toNat]∈l:=List.getElem_mem hi
 have Jo:l[x.toNat]∈D.pgs t o D.S:=hl▸hm
 rw [← h]
 exact vy.1 Jo
theorem tP(D:DB)(p:Int):D.clause 1 p=((D.at_ p).typ !=1 || (D.at_ p).owner==p):=rfl
theorem tO(D:DB)(p:Int):D.clause 2 p=((D.at_ p).typ !=0 || D.zero p 0 1024):=rfl
theorem tN(D:DB)(p:Int):D.clause 3 p=((D.at_ p).typ==1 || ((D.at_ p).typ==0 || D.is (D.at_ p).owner 1)):=rfl
theorem tM(D:DB)(p:Int):D.clause 4 p=((D.at_ p).typ !=1 || (D.at_ p).refs==((D.cy p D.S).length:Int)):=rfl
theorem kD(D:DB)(p:Int):D.clause 5 p=((D.at_ p).typ !=1 || D.gP p):=rfl
theorem tL(D:DB)(p:Int):D.clause 6 p=((D.at_ p).typ !=1 || D.qK p):=rfl
theorem tK(D:DB)(p:Int):D.clause 7 p=((D.at_ p).typ !=1 || D.qL p):=rfl
theorem gC(D:DB)(p:Int):D.clause 8 p=((D.at_ p).typ !=3 || (!D.alive p || D.gO p)):=rfl
theorem iJ(D:DB)(p:Int):D.clause 9 p=((D.at_ p).typ !=4 || (!D.alive p || D.pB p)):=rfl
theorem lE(D:DB)(p:Int):D.clause 10 p=((D.at_ p).typ !=5 || (!D.alive p || D.pz p)):=rfl
theorem qi(D:DB)(p:Int):D.clause 11 p=((D.at_ p).typ !=2 || D.mD p):=rfl
theorem qh(D:DB)(p:Int):D.clause 12 p=((D.at_ p).typ !=6 || D.zero p 0 1024):=rfl
structure Nms(D:DB)(p x count:Int)(l:List Bl):Prop where
 len:l.length=64
 ok:fB (D.gV p) 0 x=true
 once:∀q:Int,0≤q→q<64→D.named p x q≤1∧(l.getD q.toNat (Bl.mk false)).v=(D.named p x q==1)
 cnt:count=bR (fun q=>D.named p x q==1) D.S
theorem Nms.init(D:DB)(p:Int):Nms D p 0 0 (List.replicate (Int.toNat 64) (Bl.mk false)):=by
 refine⟨by simp,gE (Int.le_refl _),fun q h1 h2=>⟨by show(0:Int)≤1;omega,?_⟩,?_⟩
 ·rw [List.getD_eq_getElem?_getD,List.getElem?_replicate,if_pos (by omega)];rfl
 ·exact(jj (f:=fun q=>D.named p 0 q==1) fun x _ _=>rfl).symm
theorem sZ {D:DB} {p x q:Int}(hx:0≤x)(hw:D.word p x=0):D.named p (x+1) q=D.named p x q:=by
 rw [fj D p q hx,hw];simp
theorem Nms.skip {D:DB} {p x c:Int} {l:List Bl}(h:Nms D p x c l)(hx:0≤x)(hw:D.word p x=0):Nms D p (x+1) c l:=by
 refine⟨h.len,dW h.ok (by unfold gV;rw [hw];rfl) rfl,fun q h1 h2=>by rw [sZ hx hw];exact h.once q h1 h2,?_⟩
 rw [h.cnt]
 exact n0 fun q _ _=>by rw [sZ hx hw]
theorem Nms.put {D:DB} {p x c:Int} {l:List Bl}(h:Nms D p x c l)(hx:0≤x)(Sx:0≤D.word p x)(hw:¬D.word p x=0)(he:iA (D.word p x)=0)(hl:(l.getD (aG (D.word p x)).toNat (Bl.mk false)).v=false)(ho:D.of (aG (D.word p x)) 4 (D.at_ p).owner=true):
 Nms D p (x+1) (c+1) (l.set (aG (D.word p x)).toNat (Bl.mk true)):=by
 have hp:=mH Sx
 have Jb:0≤aG (D.word p x)∧aG (D.word p x)<(D.S:Int):=by
  unfold of is has at ho
  simp only [Bool.and_eq_true,decide_eq_true_eq]at ho
  exact ho.1.1
 have step:∀q,D.named p (x+1) q=D.named p x q+(if aG (D.word p x)=q then 1 else 0):=fun q=>by
  rw [fj D p q hx]
  by_cases hq:aG (D.word p x)=q<;>simp [hq,hw]
 have h1:=h.once _ hp.1 hp.2
 rw [hl]at h1
 have h0:D.named p x (aG (D.word p x))=0:=by
  have L5:0≤D.named p x (aG (D.word p x)):=fK
  have h2:=h1.2
  have:¬D.named p x (aG (D.word p x))=1:=by simpa using h2.symm
  omega
 refine⟨by simp [h.len],dW h.ok (by unfold gV;rw [he,ho];simp) rfl,fun q a b=>?_,?_⟩
 ·rw [step,List.getD_eq_getElem?_getD,List.getElem?_set]
  by_cases hq:aG (D.word p x)=q
  ·subst hq
   rw [if_pos rfl,if_pos rfl,if_pos (by rw [h.len];omega),h0]
   exact⟨by omega,rfl⟩
  ·rw [if_neg hq,if_neg (by omega),← List.getD_eq_getElem?_getD,Int.add_zero]
   exact h.once q a b
 ·rw [tJ (f:=fun q=>D.named p x q==1) (q:=aG (D.word p x)) Jb.1 (by rw [h0];rfl) (by rw [step,h0,if_pos rfl];rfl) (fun y _ _ hy=>by rw [step,if_neg (fun e=>hy e.symm),Int.add_zero]),if_pos Jb.2,← h.cnt]
theorem Nms.bad {D:DB} {p x c:Int} {l:List Bl}(h:Nms D p x c l)(hx:0≤x∧x<256)(Sx:0≤D.word p x)(hw:¬D.word p x=0)(hb:iA (D.word p x)=0→D.of (aG (D.word p x)) 4 (D.at_ p).owner=true→(l.getD (aG (D.word p x)).toNat (Bl.mk false)).v=true):D.gO p=false:=by
 unfold gO
 by_cases hn:D.gV p x=true
 ·unfold gV at hn
  simp only [Bool.or_eq_true,beq_iff_eq,hw,false_or,Bool.and_eq_true]at hn
  have hp:=mH Sx
  have h1:=h.once _ hp.1 hp.2
  rw [hb hn.1 hn.2]at h1
  have h1:D.named p x (aG (D.word p x))=1:=by simpa using h1.2.symm
  have h2:D.named p (x+1) (aG (D.word p x))=2:=by
   rw [fj D p _ hx.1,h1];simp [hw]
  have h3:D.named p (x+1) (aG (D.word p x))≤D.named p 256 (aG (D.word p x)):=yV (by omega)
  have ho:=hn.2
  unfold of is has at ho
  simp only [Bool.and_eq_true,decide_eq_true_eq]at ho
  rw [fp (f:=fun q=>!(decide (D.named p 256 q>1) || (D.of q 4 (D.at_ p).owner && D.named p 256 q==0))) ho.1.1.1 ho.1.1.2 (by simp;omega)]
  simp
 ·rw [fp (f:=D.gV p) hx.1 hx.2 (by simpa using hn)]
  simp
theorem Nms.done {D:DB} {p c:Int} {l:List Bl}(hS:D.S≤64)(h:Nms D p 256 c l)(hz:D.zero p 256 1024=true):D.gO p=(c==((D.pgs 4 (D.at_ p).owner D.S).length:Int)):=by
 have MN:=tI (f:=fun q=>D.named p 256 q==1) (g:=fun q=>D.of q 4 (D.at_ p).owner) (n:=(D.S:Int)) (by omega) fun q h1 h2 hq=>by
  have hq:D.named p 256 q=1:=by simpa using hq
  have:∃i,0≤i∧i<256∧(D.word p i !=0 && aG (D.word p i)==q)=true:=by
   apply Classical.byContradiction
   intro hn
   have:=jj (f:=fun i=>D.word p i !=0 && aG (D.word p i)==q) (n:=256) fun i a b=>by
    cases hc:(D.word p i !=0 && aG (D.word p i)==q)
    ·rfl
    ·exact absurd ⟨i,a,b,hc⟩ hn
   unfold named at hq
   omega
  obtain⟨i,a,b,hi⟩:=this
  have hk:=bC.1 h.ok i a b
  simp only [Bool.and_eq_true,bne_iff_ne,ne_eq,beq_iff_eq]at hi
  unfold gV at hk
  simp only [Bool.or_eq_true,beq_iff_eq,hi.1,false_or,Bool.and_eq_true]at hk
  rw [← hi.2];exact hk.2
 unfold gO
 rw [hz,h.ok,Bool.true_and,Bool.true_and,qV,h.cnt,Bool.eq_iff_iff,bC,beq_iff_eq]
 constructor
 ·intro hA
  refine Int.le_antisymm MN.1 ?_
  refine(tI (by omega) fun q a b hq=>?_).1
  have:=hA q a b
  simp only [hq,Bool.true_and,Bool.not_eq_true',Bool.or_eq_false_iff,decide_eq_false_iff_not,beq_eq_false_iff_ne]at this
  have L5:0≤D.named p 256 q:=fK
  simp only [beq_iff_eq]
  omega
 ·intro he q a b
  have h1:=(h.once q a (by omega)).1
  cases ho:D.of q 4 (D.at_ p).owner
  ·simp;omega
  ·have:=MN.2 he q a b ho
   have:D.named p 256 q=1:=by simpa using this
   simp [this]
def gm(D:DB)(p:Int)(l:List I64)(x:Int):Int:=((l.take x.toNat).map fun q=>bR (D.gY p q.v) 1024).sum
theorem nd {D:DB} {p:Int} {l:List I64} {x:Int}(h:0≤x∧x<(l.length:Int)):D.gm p l (x+1)=D.gm p l x+bR (D.gY p (l.getD x.toNat (I64.mk 0)).v) 1024:=by
 unfold gm
 have hx:x.toNat<l.length:=by omega
 rw [show(x+1).toNat=x.toNat+1 by omega,List.take_add_one,List.getElem?_eq_getElem hx,List.map_append,List.sum_append,List.getD_eq_getElem?_getD,List.getElem?_eq_getElem hx]
 simp
theorem pF {D:DB} {p:Int} {l:List I64} {x:Int}(hx:0≤x):0≤D.gm p l x∧D.gm p l x≤1024*x:=by
 obtain⟨n,rfl⟩:=Int.eq_ofNat_of_zero_le hx
 induction n with
 | zero=>simp [gm]
 | succ n ih=>
  by_cases hn:n<l.length
  ·have h1:=nd (D:=D) (p:=p) (l:=l) (x:=(n:Int)) ⟨by omega,by omega⟩
   have h2:=ih (by omega)
   have h3:=fK (f:=D.gY p (l.getD n (I64.mk 0)).v) (n:=1024)
   have h4:=kC (f:=D.gY p (l.getD n (I64.mk 0)).v) (n:=1024) (by omega)
   rw [Int.toNat_natCast]at h1
   rw [show((n+1:Nat):Int)=(n:Int)+1 by omega,h1]
   omega
  ·have e:D.gm p l ((n+1:Nat):Int)=D.gm p l (n:Int):=by
    unfold gm
    rw [List.take_of_length_le (by omega),List.take_of_length_le (by omega)]
   rw [e]
   have:=ih (by omega)
   omega
theorem pG {D:DB} {p:Int}:∀ {n:Nat},n≤D.S→D.fG p (n:Int)=((D.pgs 4 (D.at_ p).owner n).map fun q=>bR (D.gY p q.v) 1024).sum
 | 0,_=>rfl
 | n+1,h=>by
  have h1:=q8 D p (n:=(n:Int)) (by omega)
  have h2:D.pgs 4 (D.at_ p).owner (n+1)=if((D.at_ (n:Int)).typ==4 && (D.at_ (n:Int)).owner==(D.at_ p).owner)=true then D.pgs 4 (D.at_ p).owner n++ [⟨(n:Int)⟩]else D.pgs 4 (D.at_ p).owner n:=by
   unfold pgs
   rw [List.range_succ,List.filter_append,List.map_append]
   split<;>rename_i hc<;>simp [hc]
  have h3:D.of (n:Int) 4 (D.at_ p).owner=((D.at_ (n:Int)).typ==4 && (D.at_ (n:Int)).owner==(D.at_ p).owner):=by
   unfold of is has
   rw [show decide (0≤(n:Int)∧(n:Int)<(D.S:Int))=true by simp;omega,Bool.true_and]
  rw [show((n+1:Nat):Int)=(n:Int)+1 by omega,h1,pG (by omega),h2,h3]
  split
  ·simp
  ·simp
theorem once_eq {D:DB} {p n x:Int}(hx:x=((D.pgs 4 (D.at_ p).owner D.S).length:Int))(h:n=D.gm p (D.pgs 4 (D.at_ p).owner D.S) x):D.pz p=(n==1):=by
 unfold pz
 rw [pG (Nat.le_refl _),h,hx]
 unfold gm
 rw [Int.toNat_natCast,List.take_length]
end DB
def sz(n:Int):Int:=Int.tmod (Int.tmod n 8+8) 8+1
theorem Aj(n:Int):1≤sz n∧sz n≤8:=by
 have h:=Int.tmod_lt_of_pos n (show(0:Int)<8 by decide)
 have h2:=Int.lt_tmod_of_pos n (show(0:Int)<8 by decide)
 have h3:=Int.tmod_lt_of_pos (Int.tmod n 8+8) (show(0:Int)<8 by decide)
 have h4:=Int.tmod_nonneg (a:=Int.tmod n 8+8) 8 (by omega)
 unfold sz;omega
namespace DB
def wr(D:DB)(p o v:Int):DB:=D.aK (D.mem.write true p o v)
theorem sk(D:DB)(p o v:Int):(D.wr p o v).pd=D.pd:=by
 show Pd.mk (D.mem.write true p o v).S D.aq D.ent=Pd.mk D.mem.S D.aq D.ent
 rw [Mem.dJ]
theorem qE(D:DB)(p o v:Int):(D.wr p o v).mem=D.mem.write true p o v:=rfl
def act(D:DB)(k a b c v:Int):DB:=
 if k=1 then D.aw a b else if k=2 then D.take a b c else if k=5 then D.setState a b else D.wr a b v
def begun(n i:Int):DB:=DB.new (Mem.fresh (sz n).toNat (sz i).toNat)
end DB
namespace DB
theorem CQ(D:DB)(p o v q x:Int):(D.wr p o v).word q x=if(q=p∧x=o)∧D.has p=true∧Mem.bS o=true then v else D.word q x:=by
 show(D.mem.write true p o v).ba true q x=_
 unfold Mem.write
 by_cases h:D.mem.has true p && Mem.bS o
 ·rw [if_pos h]
  simp only [Bool.and_eq_true]at h
  have hp:=Mem.b9 h.1
  have ho:=Mem.dR h.2
  show(if(((D.mem.put true p.toNat o.toNat v).tick 1).has true q && Mem.bS x)=true then _ else _)=_
  rw [show((D.mem.put true p.toNat o.toNat v).tick 1).has true q=D.mem.has true q from rfl]
  by_cases hq:D.mem.has true q && Mem.bS x
  ·rw [if_pos hq]
   simp only [Bool.and_eq_true]at hq
   have RG:=Mem.b9 hq.1
   have hx1:=Mem.dR hq.2
   have hw:D.word q x=D.mem.pg true q.toNat x.toNat:=by show D.mem.ba true q x=_;unfold Mem.ba;rw [if_pos (by simp [hq])]
   rw [hw]
   show(if(true=true∧q.toNat=p.toNat)then(if x.toNat=o.toNat then v else D.mem.pg true p.toNat x.toNat)else D.mem.pg true q.toNat x.toNat)=_
   have hh:D.has p=true:=h.1
   by_cases h1:q=p
   ·subst h1
    by_cases h2:x=o
    ·subst h2;rw [if_pos ⟨rfl,rfl⟩,if_pos rfl,if_pos ⟨⟨rfl,rfl⟩,hh,h.2⟩]
    ·rw [if_pos ⟨rfl,rfl⟩,if_neg (by omega),if_neg (fun h=>h2 h.1.2)]
   ·rw [if_neg (by omega),if_neg (fun h=>h1 h.1.1)]
  ·rw [if_neg hq]
   have hw:D.word q x=0:=by show D.mem.ba true q x=_;unfold Mem.ba;rw [if_neg hq]
   rw [hw,if_neg]
   rintro⟨⟨rfl,rfl⟩,h3,h4⟩
   exact hq (by simp [h])
 ·rw [if_neg h,if_neg]
  ·rfl
  ·rintro⟨_,h3,h4⟩
   exact h (by rw [show D.mem.has true p=D.has p from rfl,h3,h4];rfl)
theorem rC {D:DB} {c:Int}(h1:1≤c)(h2:c≤13)(h:∀c',1≤c'→c'<c→D.fZ c'=true):D.eh (13 - c).toNat c=D.broken:=by
 obtain⟨n,rfl⟩:∃n:Nat,c=1+(n:Int):=⟨(c - 1).toNat,by omega⟩
 induction n with
 | zero=>rfl
 | succ n ih=>
  rw [← ih (by omega) (by omega) (fun c' a b=>h c' a (by omega)),show(13 - (1+(n:Int))).toNat=(13 - (1+((n+1:Nat):Int))).toNat+1 by omega]
  show _=if D.fZ (1+(n:Int))then _ else _
  rw [if_pos (h _ (by omega) (by omega)),show 1+(n:Int)+1=1+((n+1:Nat):Int)by omega]
theorem yZ {D:DB}(h:∀c,1≤c→c≤12→D.fZ c=true):D.broken=(0,0):=by
 rw [← rC (c:=13) (by omega) (by omega) fun c a b=>h c a (by omega)];rfl
theorem si(m:Mem):∀(k:Nat),k≤m.S→∀(p o:Nat),p<k→(m.bx k).pg true p o=0
 | 0,_,p,o,h=>by omega
 | k+1,hk,p,o,h=>by
  show((m.bx k).zero true k).pg true p o=0
  unfold Mem.zero
  rw [if_pos (by unfold Mem.has Mem.cnt;simp;omega)]
  show(if true=true∧p=(k:Int).toNat then 0 else(m.bx k).pg true p o)=0
  by_cases h1:p=k
  ·rw [if_pos (by simp [h1])]
  ·rw [if_neg (by simp;omega)]
   exact si m k (by omega) p o (by omega)
theorem AN(m:Mem)(p o:Int):(DB.new m).word p o=0:=by
 show(m.bx m.S).ba true p o=0
 unfold Mem.ba
 split
 ·rename_i h
  simp only [Bool.and_eq_true]at h
  refine si m m.S (Nat.le_refl _) _ _ ?_
  have:=Mem.cr h.1
  have e:(m.bx m.S).cnt true=m.S:=Mem.gM m m.S
  omega
 ·rfl
theorem sg {D:DB} {p lo hi:Int}:D.zero p lo hi=true↔∀o,lo≤o→o<hi→D.word p o=0:=by
 unfold zero
 rw [bC]
 exact⟨fun h o a b=>by simpa using h o a b,fun h o a b=>by simpa using h o a b⟩
end DB
def fU:List bf:= [bf.mk 1 6 7 0 0 none 0 0,bf.mk 5 6 2 0 0 none 0 0,bf.mk 1 0 1 0 0 none 0 0,bf.mk 2 2 4 0 0 none 0 0,bf.mk 7 1 0 0 513 none 0 0,bf.mk 2 3 5 0 0 none 0 0,bf.mk 7 2 1 0 775 none 0 0,bf.mk 7 2 2 0 261 none 0 0,bf.mk 2 4 6 0 0 none 0 0,bf.mk 2 5 2 0 0 none 0 0,bf.mk 5 0 2 0 0 none 0 0]
theorem Fm {P:Int→Prop}(h:P 0∧P 1∧P 2∧P 3∧P 4∧P 5∧P 6∧P 7∧P 8∧P 9∧P 10)(p:Int)(h0:0≤p)(h1:p<11):P p:=by
 obtain⟨a,b,c,d,e,f,g,i,j,k,l⟩:=h
 rcases(show p=0∨p=1∨p=2∨p=3∨p=4∨p=5∨p=6∨p=7∨p=8∨p=9∨p=10 by omega)with rfl | rfl | rfl | rfl | rfl | rfl | rfl | rfl | rfl | rfl | rfl<;>assumption
theorem wU(i:Int)(h:0≤i∧i<11):((fU.getD i.toNat (bf.mk 0 0 0 0 0 none 0 0)).k=1∨(fU.getD i.toNat (bf.mk 0 0 0 0 0 none 0 0)).k=2∨(fU.getD i.toNat (bf.mk 0 0 0 0 0 none 0 0)).k=5∨(fU.getD i.toNat (bf.mk 0 0 0 0 0 none 0 0)).k=7)∧0≤(fU.getD i.toNat (bf.mk 0 0 0 0 0 none 0 0)).v∧(fU.getD i.toNat (bf.mk 0 0 0 0 0 none 0 0)).v<4294967296:=
 Fm (P:=fun i=>((fU.getD i.toNat (bf.mk 0 0 0 0 0 none 0 0)).k=1∨(fU.getD i.toNat (bf.mk 0 0 0 0 0 none 0 0)).k=2∨(fU.getD i.toNat (bf.mk 0 0 0 0 0 none 0 0)).k=5∨(fU.getD i.toNat (bf.mk 0 0 0 0 0 none 0 0)).k=7)∧0≤(fU.getD i.toNat (bf.mk 0 0 0 0 0 none 0 0)).v∧(fU.getD i.toNat (bf.mk 0 0 0 0 0 none 0 0)).v<4294967296) (by simp [fU]) i h.1 h.2
theorem xN {f:Int→Bool} {a:Int}:∀(m:Nat),0≤a→a<(m:Int)→f a=true→bR f m=bR (fun x=>f x && x !=a) m+1
 | 0,h0,h1,_=>by omega
 | m+1,h0,h1,hf=>by
  have e:((m+1:Nat):Int)=(m:Int)+1:=by omega
  rw [e,cx (by omega),cx (by omega)]
  by_cases ha:a=m
  ·have h2:bR (fun x=>f x && x !=a) m=bR f m:=n0 fun x _ h3=>by rw [show(x !=a)=true by rw [bne_iff_ne];omega,Bool.and_true]
   rw [h2,← ha,hf]
   simp
  ·rw [xN m h0 (by omega) hf,show((m:Int) !=a)=true by rw [bne_iff_ne];omega,Bool.and_true]
   omega
theorem nZ {f:Int→Bool} {n a:Int}(ha:0≤a∧a<n)(hf:f a=true)(h:∀x,0≤x→x<n→x≠a→f x=false):bR f n=1:=by
 obtain⟨m,rfl⟩:=Int.eq_ofNat_of_zero_le (show 0≤n by omega)
 rw [xN m ha.1 ha.2 hf,jj]
 ·rfl
 ·intro x h1 h2
  by_cases hx:x=a
  ·simp [hx]
  ·rw [h x h1 h2 hx];rfl
theorem EI {a b c d e f g h:Int} {i:Int}(hp:∀x∈([a,b,c,d,e,f,g,h]:List Int),0≤x∧x<4294967296)(hi:0≤i∧i<8):0≤(([U32.mk a,U32.mk b,U32.mk c,U32.mk d,U32.mk e,U32.mk f,U32.mk g,U32.mk h]:List U32).getD i.toNat (U32.mk 0)).v∧(([U32.mk a,U32.mk b,U32.mk c,U32.mk d,U32.mk e,U32.mk f,U32.mk g,U32.mk h]:List U32).getD i.toNat (U32.mk 0)).v<4294967296:=by
 simp only [List.mem_cons,List.not_mem_nil,or_false,forall_eq_or_imp,forall_eq]at hp
 obtain⟨h0,h1,h2,h3,h4,h5,h6,h7⟩:=hp
 rcases(show i=0∨i=1∨i=2∨i=3∨i=4∨i=5∨i=6∨i=7 by omega)with rfl | rfl | rfl | rfl | rfl | rfl | rfl | rfl<;>assumption
theorem EJ {a b c d e f g h:Int} {i:Int}(hi:0≤i∧i<8):(([U32.mk a,U32.mk b,U32.mk c,U32.mk d,U32.mk e,U32.mk f,U32.mk g,U32.mk h]:List U32).getD i.toNat (U32.mk 0)).v=([a,b,c,d,e,f,g,h]:List Int).getD i.toNat 0:=by
 rcases(show i=0∨i=1∨i=2∨i=3∨i=4∨i=5∨i=6∨i=7 by omega)with rfl | rfl | rfl | rfl | rfl | rfl | rfl | rfl<;>rfl
namespace DB
def wrs(D:DB)(p:Int):Int→List Int→DB
 | _,[]=>D
 | o,x::l=>(D.wr p o x).wrs p (o+1) l
theorem sj(p:Int)(x:Int):∀(l:List Int)(D:DB)(o:Int),D.wrs p o (l++ [x])=(D.wrs p o l).wr p (o+l.length) x
 | [],D,o=>by simp [wrs]
 | y::l,D,o=>by
  simp only [List.cons_append,wrs,List.length_cons]
  rw [sj p x l]
  congr 1;omega
theorem vi(p:Int):∀(l:List Int)(D:DB)(o:Int),(D.wrs p o l).pd=D.pd
 | [],_,_=>rfl
 | x::l,D,o=>by show((D.wr p o x).wrs p (o+1) l).pd=_;rw [vi p l,sk]
def ij(n:Nat):DB:=(fU.take n).foldl (fun D x=>D.act x.k x.a x.b x.c x.v) (DB.begun 7 1)
def two(q:List Int):DB:=(ij 11).wrs 0 3 q
theorem yg {i:Int}(h:0≤i∧i<11):ij (i64.wrap (i+1)).toNat=(ij i.toNat).act (fU.getD i.toNat ⟨0,0,0,0,0,none,0,0⟩).k (fU.getD i.toNat ⟨0,0,0,0,0,none,0,0⟩).a (fU.getD i.toNat ⟨0,0,0,0,0,none,0,0⟩).b (fU.getD i.toNat ⟨0,0,0,0,0,none,0,0⟩).c (fU.getD i.toNat ⟨0,0,0,0,0,none,0,0⟩).v:=by
 have hl:i.toNat<fU.length:=by show i.toNat<11;omega
 rw [ah (x:=i+1) (by omega),show(i+1).toNat=i.toNat+1 by omega]
 unfold ij
 rw [List.take_add_one,List.getElem?_eq_getElem hl,List.foldl_append,List.getD_eq_getElem?_getD,List.getElem?_eq_getElem hl]
 rfl
theorem GF(D:DB)(k a b c v:Int):(D.act k a b c v).mem.S=D.mem.S:=by
 unfold act aw take setState wr
 (repeat' split)<;>first | rfl | exact Mem.dJ .. | (show(((D.mem.write true a 0 b).write true a 1 D.aq).write true a 2 0).S=_;rw [Mem.dJ,Mem.dJ,Mem.dJ])
theorem EH(n:Nat):(ij n).mem.S=8:=by
 have h:∀(l:List bf)(D:DB),(l.foldl (fun D x=>D.act x.k x.a x.b x.c x.v) D).mem.S=D.mem.S:=fun l=>by
  induction l with
  | nil=>exact fun _=>rfl
  | cons x l ih=>exact fun D=>(ih _).trans (GF ..)
 exact h _ _
theorem Ag {D:DB} {q:List Int} {i:Int}(hl:q.length=8)(hi:0≤i∧i<8):D.wrs 0 3 (q.take (i64.wrap (i+1)).toNat)=(D.wrs 0 3 (q.take i.toNat)).wr 0 (i64.wrap (3+i)) (q.getD i.toNat 0):=by
 have Ho:i.toNat<q.length:=by omega
 rw [ah (x:=i+1) (by omega),ah (x:=3+i) (by omega),show(i+1).toNat=i.toNat+1 by omega,List.take_add_one,List.getElem?_eq_getElem Ho,List.getD_eq_getElem?_getD,List.getElem?_eq_getElem Ho]
 show D.wrs 0 3 (q.take i.toNat++ [q[i.toNat]])=_
 rw [DB.sj,List.length_take]
 congr 1
 omega
def Bw(D:DB)(f:Int→Int→Int):Prop:=D.mem.S=8∧∀p o,0≤p→p<8→0≤o→o<1024→D.word p o=f p o
def upd(f:Int→Int→Int)(p o v q x:Int):Int:=if q=p∧x=o then v else f q x
theorem Bw.mem {D D':DB} {f:Int→Int→Int}(h:Bw D f)(e:D'.mem=D.mem):Bw D' f:=by
 unfold Bw word at *
 rw [e];exact h
theorem Bw.wr {D:DB} {f:Int→Int→Int}(h:Bw D f) {p o v:Int}(hp:0≤p∧p<8)(ho:0≤o∧o<1024):Bw (D.wr p o v) (upd f p o v):=by
 refine⟨?_,fun q x a b c d=>?_⟩
 ·show(D.mem.write true p o v).S=8
  rw [Mem.dJ];exact h.1
 ·rw [CQ,upd]
  have hh:D.has p=true:=by unfold has S;rw [h.1];simp;omega
  have hk:Mem.bS o=true:=by unfold Mem.bS;simp;omega
  by_cases hq:q=p∧x=o
  ·rw [if_pos ⟨hq,hh,hk⟩,if_pos hq]
  ·rw [if_neg (fun e=>hq e.1),if_neg hq];exact h.2 q x a b c d
theorem Bw.wrs {p:Int}(hp:0≤p∧p<8):∀(l:List Int) {D:DB} {f:Int→Int→Int} {o:Int},Bw D f→0≤o→o+l.length≤1024→Bw (D.wrs p o l) fun q x=>if q=p∧(o≤x∧x<o+l.length)then l.getD (x - o).toNat 0 else f q x
 | [],D,f,o,h,_,_=>by
  have e:(fun q x=>if q=p∧(o≤x∧x<o+(([]:List Int).length:Int))then([]:List Int).getD (x - o).toNat 0 else f q x)=f:=by
   funext q x;rw [if_neg];intro h;simp at h;omega
  rw [e];exact h
 | y::l,D,f,o,h,h0,hl=>by
  simp only [List.length_cons]at hl
  have:=Bw.wrs hp l (h.wr (v:=y) hp (o:=o) (by omega)) (o:=o+1) (by omega) (by omega)
  refine⟨this.1,fun q x a b c d=>(this.2 q x a b c d).trans ?_⟩
  simp only [upd,List.length_cons]
  by_cases hq:q=p
  ·by_cases hx:x=o
   ·rw [if_neg (by omega),if_pos ⟨hq,hx⟩,if_pos ⟨hq,by omega,by omega⟩,hx,show(o - o).toNat=0 by omega];rfl
   ·by_cases h2:o+1≤x∧x<o+1+l.length
    ·rw [if_pos ⟨hq,h2⟩,if_pos ⟨hq,by omega,by omega⟩,show(x - o).toNat=(x - (o+1)).toNat+1 by omega];rfl
    ·rw [if_neg (fun e=>h2 e.2),if_neg (fun e=>hx e.2),if_neg (by omega)]
  ·rw [if_neg (fun e=>hq e.1),if_neg (fun e=>hq e.1),if_neg (fun e=>hq e.1)]
theorem km(D:DB)(p t s:Int):(D.take p t s).mem=D.mem:=by unfold take;split<;>rfl
theorem ko(D:DB)(p s:Int):(D.setState p s).mem=D.mem:=by unfold setState;split<;>rfl
theorem Bw.to {D:DB} {f g:Int→Int→Int}(h:Bw D f)(e:∀p o,f p o=g p o):Bw D g:=⟨h.1,fun p o a b c d=>(h.2 p o a b c d).trans (e p o)⟩
theorem eight {P:Int→Prop}(h:P 0∧P 1∧P 2∧P 3∧P 4∧P 5∧P 6∧P 7)(p:Int)(h0:0≤p)(h1:p<8):P p:=by
 obtain⟨a,b,c,d,e,f,g,i⟩:=h
 rcases(show p=0∨p=1∨p=2∨p=3∨p=4∨p=5∨p=6∨p=7 by omega)with rfl | rfl | rfl | rfl | rfl | rfl | rfl | rfl<;>assumption
def W0(p o:Int):Int:=
 if p=0 then(if o=0 then 1 else if o=1 then 1 else 0)else if p=1 then(if o=0 then 513 else 0)
 else if p=2 then(if o=1 then 775 else if o=2 then 261 else 0)else if p=6 then(if o=0 then 7 else 0)else 0
def W(q:List Int)(p o:Int):Int:=if p=0∧(3≤o∧o<11)then q.getD (o - 3).toNat 0 else W0 p o
theorem Bz:Bw (begun 7 1) fun _ _=>0:=⟨rfl,fun p o _ _ _ _=>AN _ _ _⟩
theorem two_eq:ij 11=(((((((((((begun 7 1).aw 6 7).setState 6 2).aw 0 1).take 2 4 0).wr 1 0 513).take 3 5 0).wr 2 1 775).wr 2 2 261).take 4 6 0).take 5 2 0).setState 0 2:=by kernel_rfl
theorem ts6:((begun 7 1).aw 6 7).mem=((((begun 7 1).wr 6 0 7).wr 6 1 0).wr 6 2 0).mem:=by kernel_rfl
theorem ts0:((((begun 7 1).aw 6 7).setState 6 2).aw 0 1).mem=((((((begun 7 1).aw 6 7).setState 6 2).wr 0 0 1).wr 0 1 1).wr 0 2 0).mem:=by kernel_rfl
theorem CX:Bw (ij 11) W0:=by
 have h1:Bw ((begun 7 1).aw 6 7) _:=((((Bz.wr (p:=6) (o:=0) (v:=7) (by omega) (by omega)).wr (p:=6) (o:=1) (v:=0) (by omega) (by omega)).wr (p:=6) (o:=2) (v:=0) (by omega) (by omega))).mem ts6
 have h2:Bw ((((begun 7 1).aw 6 7).setState 6 2).aw 0 1) _:=(((((h1.mem (ko _ 6 2)).wr (p:=0) (o:=0) (v:=1) (by omega) (by omega)).wr (p:=0) (o:=1) (v:=1) (by omega) (by omega)).wr (p:=0) (o:=2) (v:=0) (by omega) (by omega))).mem ts0
 have h3:=((((h2.mem (km _ 2 4 0)).wr (p:=1) (o:=0) (v:=513) (by omega) (by omega)).mem (km _ 3 5 0)).wr (p:=2) (o:=1) (v:=775) (by omega) (by omega)).wr (p:=2) (o:=2) (v:=261) (by omega) (by omega)
 have h4:=((h3.mem (km _ 4 6 0)).mem (km _ 5 2 0)).mem (ko _ 0 2)
 rw [two_eq]
 refine Bw.to h4 fun p o=>?_
 clear h1 h2 h3 h4
 simp only [upd,W0]
 grind (splits:=30)
theorem EG {q:List Int}(hq:q.length=8):Bw (two q) (W q):=by
 refine Bw.to (Bw.wrs (p:=0) (by omega) q (o:=3) CX (by omega) (by omega)) fun p o=>?_
 simp only [W,hq]
 by_cases h:p=0∧(3≤o∧o<11)
 ·rw [if_pos h,if_pos ⟨h.1,h.2.1,by omega⟩]
 ·rw [if_neg h,if_neg (fun e=>h ⟨e.1,e.2.1,by omega⟩)]
def cA(t:Int)(p:Int):Ent:=
 if p=0 then⟨1,0,5,2,false⟩else if p=1 then⟨3,0,0,0,false⟩else if p=2 then⟨4,0,0,0,false⟩else if p=3 then⟨5,0,0,0,false⟩else if p=4 then⟨t,0,0,0,false⟩else if p=5 then⟨2,0,0,0,false⟩else if p=6 then⟨1,6,1,2,false⟩else⟨3,6,0,0,false⟩
structure Nw(D0:DB)(t:Int)(f:Int→Int→Int)(D:DB):Prop where
 bw:Bw D f
 I:D.mem.I=D0.mem.I
 ins:D.mem.pg false=D0.mem.pg false
 e:∀p,0≤p→p<8→D.at_ p=cA t p
theorem Ex(D:DB)(p:Int):D.at_ p=D.pd.ent p.toNat:=rfl
theorem za(D:DB):D.aq=D.pd.aq:=rfl
theorem qN(q:List Int):(two q).pd=(ij 11).pd:=vi 0 q _ 3
theorem Ah {q:List Int}(hq:q.length=8):Nw (two q) 6 (W q) (two q):=⟨EG hq,rfl,rfl,fun p h0 h1=>by
 have e:∀p,0≤p→p<8→(ij 11).at_ p=cA 6 p:=eight ⟨by kernel_rfl,by kernel_rfl,by kernel_rfl,by kernel_rfl,by kernel_rfl,by kernel_rfl,by kernel_rfl,by kernel_rfl⟩
 rw [← e p h0 h1,Ex,Ex (ij 11),qN]⟩
theorem Ef(p:Int):∀(l:List Int)(D:DB)(o:Int),(D.wrs p o l).mem.I=D.mem.I
 | [],_,_=>rfl
 | x::l,D,o=>by
  show((D.wr p o x).wrs p (o+1) l).mem.I=_
  rw [Ef p l]
  show(D.mem.write true p o x).I=_
  unfold Mem.write;split<;>rfl
theorem FW(q:List Int):(two q).mem.I=2:=(Ef 0 q _ 3).trans (by kernel_rfl)
theorem vl(q:List Int):(two q).aq=2:=by
 rw [za,qN];kernel_rfl
theorem GP(l:List Int):((ij 11).wrs 0 3 l).mem.S=(ij 11).pd.n:=congrArg Pd.n (vi 0 l _ 3)
theorem FX {q:List Int} {E:Pd} {m:Mem}(he:E=(ij 11).pd)(hm:m=(two q).mem):E.on m=two q:=by rw [he,hm,← qN q,xl]
end DB
section
namespace DB
structure Fo(f:Int→Int→Int):Prop where
 a:f 0 0=1
 b:∀i,0≤i→i<1024→f 1 i=if i=0 then 513 else 0
theorem Fo.upd {f:Int→Int→Int}(h:Fo f) {p o v:Int}(hp:p=2∨p=4):Fo (upd f p o v):=⟨by rw [DB.upd,if_neg (by omega)];exact h.a,fun i a b=>by rw [DB.upd,if_neg (by omega)];exact h.b i a b⟩
section
variable {D0 D:DB} {t:Int} {f:Int→Int→Int}
theorem xk(m:Mem)(p:Nat)(g:Nat→Int):(m.fill true p g).pg false=m.pg false:=by
 funext i j
 unfold Mem.fill
 simp
theorem Nw.S(h:Nw D0 t f D):D.S=8:=h.bw.1
theorem Nw.hs(h:Nw D0 t f D)(p:Int):D.has p=decide (0≤p∧p<8):=by unfold has;rw [h.S];rfl
theorem Nw.w(h:Nw D0 t f D) {p o:Int}(hp:0≤p∧p<8)(ho:0≤o∧o<1024):D.word p o=f p o:=h.bw.2 p o hp.1 hp.2 ho.1 ho.2
theorem Nw.en(h:Nw D0 t f D) {p:Int}(hp:0≤p∧p<8):D.entry p=cA t p:=by
 unfold entry;rw [h.hs,if_pos (by simpa using hp),h.e p hp.1 hp.2]
theorem Nw.Eu(h:Nw D0 t f D) {p:Int}(hp:0≤p∧p<8):D.aU p=0:=by
 unfold aU;rw [h.hs,if_pos (by simpa using hp)]
theorem Nw.of(h:Nw D0 t f D) {p:Int}(hp:0≤p∧p<8)(k o:Int):D.of p k o=((cA t p).typ==k && (cA t p).owner==o):=by
 unfold DB.of DB.is;rw [h.hs,h.e p hp.1 hp.2];simp [hp]
theorem Nw.EL(h:Nw D0 t f D)(g:Fo f):D.fe 0=0:=by
 have e0:D.at_ 0=⟨1,0,5,2,false⟩:=h.e 0 (by omega) (by omega)
 unfold fe
 rw [h.hs,e0,h.w (p:=0) (o:=0) (by omega) (by omega),g.a,h.of (p:=1) (by omega)]
 simp [cA]
theorem Nw.tb(h:Nw D0 t f D)(g:Fo f):D.tbl 0=1:=by rw [tbl,if_pos (h.EL g),h.w (p:=0) (o:=0) (by omega) (by omega),g.a]
theorem Nw.own(h:Nw D0 t f D):(D.entry 5).owner=0:=by rw [h.en (by omega)];simp [cA]
theorem Nw.thr(h:Nw D0 t f D)(g:Fo f):D.eZ 5:=by
 have e5:D.entry 5=⟨2,0,0,0,false⟩:=h.en (p:=5) (by omega)
 have e0:D.entry 0=⟨1,0,5,2,false⟩:=h.en (p:=0) (by omega)
 exact⟨h.Eu (by omega),by rw [e5],by rw [e5];exact h.Eu (p:=0) (by omega),by rw [e5,e0],by rw [e5,e0],by rw [e5];exact h.EL g⟩
theorem Nw.pg(h:Nw D0 t f D)(k:Int):D.Ak 0 k 4=if t=k then 4 else -1:=by
 have e4:D.entry 4=⟨t,0,0,0,false⟩:=h.en (p:=4) (by omega)
 unfold Ak;rw [h.S,e4];simp
structure Va(va:Int):Prop where
 a:0≤va∧va<1073741824
 b:va % 4096=0
theorem Va.err {va:Int}(h:Va va):sq va=0:=by have:=h.a;have:=h.b;unfold sq;rw [if_neg (by omega)]
theorem Va.J {va:Int}(h:Va va):vaJ va=va / 4096 % 1024∧0≤vaJ va∧vaJ va<1024:=by
 have e:vaJ va=va / 4096 % 1024:=by rw [vaJ,if_pos h.err]
 rw [e];exact⟨rfl,by omega,by omega⟩
theorem Nw.pl(h:Nw D0 t f D)(g:Fo f) {va:Int}(hv:Va va):D.jw 0 va=(if va<4194304 then 0 else 141)∧(va<4194304→D.plP 0 va=2):=by
 have hva:=hv.a
 have e:vaI va=va / 4194304:=by rw [vaI,if_pos hv.err]
 have hw:D.word 1 (vaI va)=if va / 4194304=0 then 513 else 0:=by rw [e,h.w (by omega) (by omega),g.b _ (by omega) (by omega)]
 unfold jw plP
 rw [h.EL g,hv.err,h.tb g,hw]
 by_cases hl:va<4194304
 ·rw [if_pos hl,if_pos (show va / 4194304=0 by omega)]
  refine⟨?_,fun _=>by decide⟩
  unfold wX
  rw [show iA 513=0 by decide,show aG 513=2 by decide,h.of (by omega)]
  simp [cA]
 ·rw [if_neg hl,if_neg (show ¬va / 4194304=0 by omega)]
  refine⟨?_,fun h=>absurd h hl⟩
  unfold wX
  rw [show iA 0=92 by decide];simp
theorem Nw.sl(h:Nw D0 t f D)(g:Fo f) {va:Int}(hv:Va va):D.fE 0 va=if va<4194304 then(if f 2 (vaJ va)=0 then 0 else 140)else 141:=by
 obtain⟨h1,h2⟩:=h.pl g hv
 unfold fE
 rw [h1]
 by_cases hl:va<4194304
 ·rw [if_pos hl,h2 hl,h.w (by omega) hv.J.2]
  simp only [if_pos hl]
  by_cases h0:f 2 (vaJ va)=0<;>simp [h0]
 ·simp [hl]
theorem Nw.wr(h:Nw D0 t f D) {p o v:Int}(hp:0≤p∧p<8)(ho:0≤o∧o<1024):Nw D0 t (DB.upd f p o v) (D.wr p o v):=
 ⟨h.bw.wr hp ho,(show(D.mem.write true p o v).I=_ by unfold Mem.write;split<;>exact h.I),(show(D.mem.write true p o v).pg false=_ by
  unfold Mem.write;split
  ·rw [← h.ins];exact xk ..
  ·exact h.ins),h.e⟩
theorem Nw.CY(h:Nw D0 t f D) {k:Int}(ht:turns t=true)(hk:turns k=true):Nw D0 k (fun p o=>if p=4 then 0 else f p o) (D.CY 4 k):=by
 have e4:D.at_ 4=⟨t,0,0,0,false⟩:=h.e 4 (by omega) (by omega)
 have hh:D.has 4=true:=by rw [h.hs];decide
 have he:D.mF 4 k=0:=by unfold mF;rw [hh,e4];simp [ht,hk]
 rw [DB.CY,if_pos he,vm,e4]
 have hz:(D.mem.zero true 4)=D.mem.fill true 4 fun _=>0:=by unfold Mem.zero;rw [if_pos (show D.mem.has true 4=true from hh)];rfl
 refine⟨⟨?_,fun p o a b c d=>?_⟩,?_,?_,fun p a b=>?_⟩
 ·show(D.mem.zero true 4).S=8;rw [Mem.wg];exact h.bw.1
 ·show(D.mem.zero true 4).ba true p o=_
  have hw:=h.w ⟨a,b⟩ ⟨c,d⟩
  unfold word Mem.ba at hw
  have hp:(D.mem.has true p && Mem.bS o)=true:=by
   rw [show D.mem.has true p=D.has p from rfl,h.hs];simp [Mem.bS,a,b,c,d]
  rw [if_pos hp]at hw
  rw [hz,Mem.ba,if_pos (show((D.mem.fill true 4 fun _=>0).has true p && Mem.bS o)=true from hp)]
  show(if true=true∧p.toNat=4 then 0 else D.mem.pg true p.toNat o.toNat)=if p=4 then 0 else f p o
  by_cases h4:p=4
  ·rw [if_pos ⟨rfl,by omega⟩,if_pos h4]
  ·rw [if_neg (by omega),if_neg h4,hw]
 ·show(D.mem.zero true 4).I=_;rw [hz];exact h.I
 ·show(D.mem.zero true 4).pg false=_
  rw [hz,← h.ins];exact xk ..
 ·show(D.set 4 _).at_ p=_
  rw [BA (by omega) a,h.e p a b]
  unfold cA
  by_cases hp:p=4
  ·subst hp;simp
  ·simp [hp]
theorem Nw.to {g:Int→Int→Int}(h:Nw D0 t f D)(e:∀p o,f p o=g p o):Nw D0 t g D:=⟨h.bw.to e,h.I,h.ins,h.e⟩
end
def MW(w:Int):Mp:=⟨true,4,paW w,paX w⟩
def f1(q:List Int)(w:Int):Int→Int→Int:=upd (W q) 2 (vaJ (GU w)) (MW w).word
section
variable {D0 D:DB} {q:List Int} {w:Int}
theorem W2(q:List Int)(j:Int):W q 2 j=if j=1 then 775 else if j=2 then 261 else 0:=by simp [W,W0]
end
end DB
end
section
namespace DB
section
variable {D D0:DB} {f:Int→Int→Int}
theorem Nw.all(h:Nw D0 6 f D) {c:Int}(g:∀p,0≤p→p<8→D.clause c p=true):D.fZ c=true:=by
 unfold fZ
 rw [h.S]
 exact bC.2 g
theorem Nw.zero(h:Nw D0 6 f D) {p lo hi:Int}(hp:0≤p∧p<8)(h0:0≤lo)(h1:hi≤1024)(g:∀o,lo≤o→o<hi→f p o=0):D.zero p lo hi=true:=
 sg.2 fun o a b=>by rw [h.w hp (by omega)];exact g o a b
theorem Nw.isp(h:Nw D0 6 f D):D.is 0 1=true∧D.is 6 1=true:=by
 unfold DB.is
 rw [h.hs,h.hs,h.e 0 (by omega) (by omega),h.e 6 (by omega) (by omega)];exact⟨rfl,rfl⟩
theorem only {c k:Int} {g:Int→Bool}(h:Nw D0 6 f D)(hc:∀p,D.clause c p=((D.at_ p).typ !=k || g p))(hg:∀p,0≤p→p<8→(cA 6 p).typ=k→g p=true):D.fZ c=true:=
 h.all fun p a b=>by
  rw [hc,h.e p a b]
  by_cases hk:(cA 6 p).typ=k
  ·rw [hg p a b hk,Bool.or_true]
  ·rw [show((cA 6 p).typ !=k)=true by rw [bne_iff_ne];exact hk];rfl
end
section
variable {D:DB} {q:List Int}
theorem qc(p:Int)(a:0≤p)(b:p<8)(h:(cA 6 p).typ=1):p=0∨p=6:=by
 revert h
 exact eight (P:=fun p=>(cA 6 p).typ=1→p=0∨p=6) ⟨fun _=>.inl rfl,fun h=>absurd h (by decide),fun h=>absurd h (by decide),fun h=>absurd h (by decide),fun h=>absurd h (by decide),fun h=>absurd h (by decide),fun _=>.inr rfl,fun h=>absurd h (by decide)⟩ p a b
theorem Gk(p:Int)(a:0≤p)(b:p<8)(h:(cA 6 p).typ=3):p=1∨p=7:=by
 revert h
 exact eight (P:=fun p=>(cA 6 p).typ=3→p=1∨p=7) ⟨fun h=>absurd h (by decide),fun _=>.inl rfl,fun h=>absurd h (by decide),fun h=>absurd h (by decide),fun h=>absurd h (by decide),fun h=>absurd h (by decide),fun h=>absurd h (by decide),fun _=>.inr rfl⟩ p a b
theorem xK {k n:Int}(hk:k=4∧n=2∨k=5∧n=3∨k=2∧n=5∨k=6∧n=4)(p:Int)(a:0≤p)(b:p<8)(h:(cA 6 p).typ=k):p=n:=by
 have e:=eight (P:=fun p=>(cA 6 p).typ=if p=0 then 1 else if p=1 then 3 else if p=2 then 4 else if p=3 then 5 else if p=4 then 6 else if p=5 then 2 else if p=6 then 1 else 3) ⟨rfl,rfl,rfl,rfl,rfl,rfl,rfl,rfl⟩ p a b
 have e:(cA 6 p).typ=if p=0 then 1 else if p=1 then 3 else if p=2 then 4 else if p=3 then 5 else if p=4 then 6 else if p=5 then 2 else if p=6 then 1 else 3:=e
 rw [h]at e
 (repeat' split at e)<;>omega
theorem Wz(q:List Int)(p o:Int)(h:p=4∨p=5∨p=7∨p=3):W q p o=0:=by
 rw [W,if_neg (by omega),W0,if_neg (by omega),if_neg (by omega),if_neg (by omega),if_neg (by omega)]
theorem Wsp(q:List Int)(p o:Int)(h:p=0∨p=6)(ho:11≤o):W q p o=0:=by
 rw [W,if_neg (by omega),W0]
 rcases h with rfl | rfl
 ·rw [if_pos rfl,if_neg (by omega),if_neg (by omega)]
 ·rw [if_neg (by omega),if_neg (by omega),if_neg (by omega),if_pos rfl,if_neg (by omega)]
theorem Nw.ref(h:Nw D 6 (W q) D):(D.cy 0 8).length=5∧(D.cy 6 8).length=1:=by
 have e:∀p:Nat,p<8→D.ent p=cA 6 p:=fun p hp=>by
  have:=h.e p (by omega) (by omega)
  unfold at_ at this
  simpa using this
 have e0:=e 0 (by omega);have e1:=e 1 (by omega);have e2:=e 2 (by omega);have e3:=e 3 (by omega)
 have e4:=e 4 (by omega);have e5:=e 5 (by omega);have e6:=e 6 (by omega);have e7:=e 7 (by omega)
 unfold cy dZ
 simp only [List.length_map]
 constructor<;>simp [List.range_succ,e0,e1,e2,e3,e4,e5,e6,e7,cA]
theorem Nw.fst(h:Nw D 6 (W q) D) {p n:Int}(hp:p=0∧n=1∨p=6∧n=7):bR (fun x=>D.of x 3 p) 8=1∧D.of n 3 p=true:=by
 have k:∀x,0≤x→x<8→D.of x 3 p=decide (x=n):=fun x a b=>by
  rw [h.of ⟨a,b⟩]
  rcases hp with⟨rfl,rfl⟩ | ⟨rfl,rfl⟩
  ·exact eight (P:=fun x=>((cA 6 x).typ==3 && (cA 6 x).owner==0)=decide (x=1)) ⟨rfl,rfl,rfl,rfl,rfl,rfl,rfl,rfl⟩ x a b
  ·exact eight (P:=fun x=>((cA 6 x).typ==3 && (cA 6 x).owner==6)=decide (x=7)) ⟨rfl,rfl,rfl,rfl,rfl,rfl,rfl,rfl⟩ x a b
 have hn:0≤n∧n<8:=by omega
 refine⟨nZ hn (by rw [k n hn.1 hn.2];simp) fun x a b c=>by rw [k x a b];simp [c],by rw [k n hn.1 hn.2];simp⟩
theorem Nw.sec(h:Nw D 6 (W q) D) {x o:Int}(ho:o=0∨o=6)(a:0≤x)(b:x<8):D.of x 4 o=(decide (x=2) && o==0):=by
 rw [h.of ⟨a,b⟩]
 rcases ho with rfl | rfl
 ·exact eight (P:=fun x=>((cA 6 x).typ==4 && (cA 6 x).owner==0)=(decide (x=2) && (0:Int)==0)) ⟨rfl,rfl,rfl,rfl,rfl,rfl,rfl,rfl⟩ x a b
 ·exact eight (P:=fun x=>((cA 6 x).typ==4 && (cA 6 x).owner==6)=(decide (x=2) && (6:Int)==0)) ⟨rfl,rfl,rfl,rfl,rfl,rfl,rfl,rfl⟩ x a b
theorem Nw.nam(h:Nw D 6 (W q) D) {p o:Int}(hp:p=1∧o=0∨p=7∧o=6):D.gO p=true:=by
 have hw:∀x,0≤x→x<1024→D.word p x=if p=1∧x=0 then 513 else 0:=fun x a b=>by
  rw [h.w (by omega) ⟨a,b⟩]
  rcases hp with⟨rfl,_⟩ | ⟨rfl,_⟩
  ·rw [W,if_neg (by omega),W0,if_neg (by omega),if_pos rfl];simp
  ·rw [Wz q 7 x (by omega),if_neg (by omega)]
 have ho:(D.at_ p).owner=o:=by
  rw [h.e p (by omega) (by omega)]
  rcases hp with⟨rfl,rfl⟩ | ⟨rfl,rfl⟩<;>rfl
 unfold gO
 rw [h.S,show D.zero p 256 1024=true from sg.2 fun x a b=>by rw [hw x (by omega) b,if_neg (by omega)],Bool.true_and,Bool.and_eq_true]
 refine⟨bC.2 fun x a b=>?_,bC.2 fun x a b=>?_⟩
 ·unfold gV
  rw [hw x a (by omega),ho]
  by_cases hx:p=1∧x=0
  ·rw [if_pos hx,show iA 513=0 by decide,show aG 513=2 by decide,h.sec (by omega) (by omega) (by omega),show o=0 by omega];rfl
  ·rw [if_neg hx];rfl
 ·have hn:D.named p 256 x=if p=1∧x=2 then 1 else 0:=by
   unfold named
   by_cases hx:p=1∧x=2
   ·rw [if_pos hx]
    refine nZ (a:=0) (by omega) (by rw [hw 0 (by omega) (by omega),if_pos ⟨hx.1,rfl⟩,hx.2];rfl) fun y a b c=>?_
    rw [hw y a (by omega),if_neg (fun e=>c e.2)];rfl
   ·rw [if_neg hx]
    refine jj fun y a b=>?_
    rw [hw y a (by omega)]
    by_cases hy:p=1∧y=0
    ·rw [if_pos hy,show aG 513=2 from by decide,show((2:Int)==x)=false by rw [beq_eq_false_iff_ne];omega,Bool.and_false]
    ·rw [if_neg hy];rfl
  rw [hn,ho,h.sec (by omega) a (by omega)]
  by_cases hx:p=1∧x=2
  ·rw [if_pos hx];simp
  ·rw [if_neg hx]
   by_cases h2:x=2
   ·have:o=6:=by omega
    subst this;simp
   ·simp [h2]
theorem Nw.w2(h:Nw D 6 (W q) D) {o:Int}(a:0≤o)(b:o<1024):D.word 2 o=if o=1 then 775 else if o=2 then 261 else 0:=by rw [h.w (by omega) ⟨a,b⟩,W2]
theorem Nw.dat(h:Nw D 6 (W q) D):D.of 3 5 0=true:=by rw [h.of (by omega)];rfl
theorem Nw.once(h:Nw D 6 (W q) D):D.pz 3=true:=by
 have ho:(D.at_ 3).owner=0:=by rw [h.e 3 (by omega) (by omega)];rfl
 have k:∀x:Nat,x<8→D.of (x:Int) 4 0=decide (x=2):=fun x hx=>by
  rw [h.sec (.inl rfl) (by omega) (by omega)]
  by_cases hx:x=2
  ·simp [hx]
  ·rw [show decide ((x:Int)=2)=false by rw [decide_eq_false_iff_not];omega,show decide (x=2)=false by simp [hx]];rfl
 have hc:bR (D.gY 3 2) 1024=1:=by
  refine nZ (a:=1) (by omega) (by unfold gY;rw [h.w2 (by omega) (by omega)];rfl) fun x a b c=>?_
  unfold gY
  rw [h.w2 a b,if_neg c]
  by_cases h2:x=2
  ·rw [if_pos h2];rfl
  ·rw [if_neg h2];rfl
 have e:D.fG 3 8=1:=by
  unfold fG
  rw [ho]
  have k0:D.of 0 4 0=false:=k 0 (by omega)
  have k1:D.of 1 4 0=false:=k 1 (by omega)
  have k2:D.of 2 4 0=true:=k 2 (by omega)
  have k3:D.of 3 4 0=false:=k 3 (by omega)
  have k4:D.of 4 4 0=false:=k 4 (by omega)
  have k5:D.of 5 4 0=false:=k 5 (by omega)
  have k6:D.of 6 4 0=false:=k 6 (by omega)
  have k7:D.of 7 4 0=false:=k 7 (by omega)
  simp [List.range_succ,k0,k1,k2,k3,k4,k5,k6,k7,hc]
 rw [pz,h.S]
 show(D.fG 3 8==1)=true
 rw [e];rfl
theorem F7(h:Nw D 6 (W q) D)(hI:D.mem.I=2)(hb:D.aq=2):D.broken=(0,0):=by
 refine yZ fun c h1 h2=>?_
 have at0:D.at_ 0=⟨1,0,5,2,false⟩:=h.e 0 (by omega) (by omega)
 have Ty:D.at_ 6=⟨1,6,1,2,false⟩:=h.e 6 (by omega) (by omega)
 rcases(show c=1∨c=2∨c=3∨c=4∨c=5∨c=6∨c=7∨c=8∨c=9∨c=10∨c=11∨c=12 by omega)with rfl | rfl | rfl | rfl | rfl | rfl | rfl | rfl | rfl | rfl | rfl | rfl
 ·refine only (k:=1) h (tP D) fun p a b e=>?_
  rcases qc p a b e with rfl | rfl
  ·rw [at0];rfl
  ·rw [Ty];rfl
 ·refine only (k:=0) h (tO D) fun p a b e=>?_
  exact absurd e (eight (P:=fun p=>¬(cA 6 p).typ=0) ⟨by decide,by decide,by decide,by decide,by decide,by decide,by decide,by decide⟩ p a b)
 ·refine h.all fun p a b=>?_
  rw [tN,h.e p a b]
  have e:(cA 6 p).owner=0∨(cA 6 p).owner=6:=eight (P:=fun p=>(cA 6 p).owner=0∨(cA 6 p).owner=6) ⟨.inl rfl,.inl rfl,.inl rfl,.inl rfl,.inl rfl,.inl rfl,.inr rfl,.inr rfl⟩ p a b
  rcases e with e | e<;>rw [e]
  ·rw [h.isp.1,Bool.or_true,Bool.or_true]
  ·rw [h.isp.2,Bool.or_true,Bool.or_true]
 ·refine only (k:=1) h (tM D) fun p a b e=>?_
  rw [h.S]
  rcases qc p a b e with rfl | rfl
  ·rw [at0,h.ref.1];rfl
  ·rw [Ty,h.ref.2];rfl
 ·refine only (k:=1) h (kD D) fun p a b e=>?_
  have b0:D.word 0 1=1:=by rw [h.w (by omega) (by omega)];simp [W,W0]
  have b6:D.word 6 1=0:=by rw [h.w (by omega) (by omega)];simp [W,W0]
  have c0:D.word 0 2=0:=by rw [h.w (by omega) (by omega)];simp [W,W0]
  have c6:D.word 6 2=0:=by rw [h.w (by omega) (by omega)];simp [W,W0]
  rcases qc p a b e with rfl | rfl
  ·rw [gP,b0,c0,hb,gE (Int.le_refl _)];rfl
  ·rw [gP,b6,c6,hb,show fB (fun q=>!((D.at_ q).typ==1 && D.word q 1==0)) 0 6=true from bC.2 fun x a b=>?_]
   ·rfl
   ·rw [h.e x a (by omega)]
    by_cases hx:(cA 6 x).typ=1
    ·rcases qc x a (by omega) hx with rfl | rfl
     ·rw [b0];rfl
     ·omega
    ·rw [show((cA 6 x).typ==1)=false by rw [beq_eq_false_iff_ne];exact hx];rfl
 ·refine only (k:=1) h (tL D) fun p a b e=>?_
  have hp:=qc p a b e
  have hs:(D.at_ p).state=2:=by rcases hp with rfl | rfl;rw [at0];rw [Ty]
  rw [qK,hs,h.zero ⟨a,b⟩ (by omega) (by omega) (fun o c _=>Wsp q p o hp (by omega)),if_neg (by omega),if_pos rfl,h.zero ⟨a,b⟩ (by omega) (by omega) (fun o c _=>Wsp q p o hp (by omega))];rfl
 ·refine only (k:=1) h (tK D) fun p a b e=>?_
  rw [qL,h.S]
  rcases qc p a b e with rfl | rfl
  ·obtain⟨k1,k2⟩:=h.fst (p:=0) (n:=1) (.inl ⟨rfl,rfl⟩)
   rw [show D.word 0 0=1 by rw [h.w (by omega) (by omega)];simp [W,W0],k2,show bR (fun x=>D.of x 3 0) ((8:Nat):Int)=1 from k1];simp
  ·obtain⟨k1,k2⟩:=h.fst (p:=6) (n:=7) (.inr ⟨rfl,rfl⟩)
   rw [show D.word 6 0=7 by rw [h.w (by omega) (by omega)];simp [W,W0],k2,show bR (fun x=>D.of x 3 6) ((8:Nat):Int)=1 from k1];simp
 ·refine only (k:=3) h (gC D) fun p a b e=>?_
  rcases Gk p a b e with rfl | rfl
  ·rw [h.nam (.inl ⟨rfl,rfl⟩),Bool.or_true]
  ·rw [h.nam (.inr ⟨rfl,rfl⟩),Bool.or_true]
 ·refine only (k:=4) h (iJ D) fun p a b e=>?_
  obtain rfl:=xK (n:=2) (by omega) p a b e
  have ho:(D.at_ 2).owner=0:=by rw [h.e 2 (by omega) (by omega)];rfl
  rw [show D.pB 2=true from bC.2 fun o a b=>?_,Bool.or_true]
  unfold kp
  rw [h.w2 a b,ho]
  by_cases h1:o=1
  ·rw [if_pos h1,show(bz 775).aW=true from rfl,show(bz 775).ak=3 from rfl,h.dat];rfl
  ·rw [if_neg h1]
   by_cases h2:o=2
   ·rw [if_pos h2,show(bz 261).aW=false from rfl,show(bz 261).ak=1 from rfl,hI];rfl
   ·rw [if_neg h2];rfl
 ·refine only (k:=5) h (lE D) fun p a b e=>?_
  obtain rfl:=xK (n:=3) (by omega) p a b e
  rw [h.once,Bool.or_true]
 ·refine only (k:=2) h (qi D) fun p a b e=>?_
  obtain rfl:=xK (n:=5) (by omega) p a b e
  rw [mD,h.e 5 (by omega) (by omega),h.zero (by omega) (by omega) (by omega) (fun o _ _=>Wz q 5 o (by omega)),h.zero (by omega) (by omega) (by omega) (fun o _ _=>Wz q 5 o (by omega))];rfl
 ·refine only (k:=6) h (qh D) fun p a b e=>?_
  obtain rfl:=xK (n:=4) (by omega) p a b e
  exact h.zero (by omega) (by omega) (by omega) fun o _ _=>Wz q 4 o (by omega)
theorem EF {q:List Int}(hq:q.length=8):(two q).broken=(0,0):=F7 (Ah hq) (FW q) (vl q)
end
end DB
end
section
namespace DB
section
variable {D0 D:DB} {q:List Int} {a:Int}
theorem fo2(q:List Int)(a:Int):Fo (upd (W q) 0 2 a):=⟨by simp [upd,W,W0],fun i _ _=>by simp [upd,W,W0]⟩
theorem GO(f:Int→Int→Int)(p o v w x y:Int):upd (upd f p o v) p o w x y=upd f p o w x y:=by
 unfold upd
 by_cases h:x=p∧y=o
 ·rw [if_pos h,if_pos h]
 ·rw [if_neg h,if_neg h,if_neg h]
theorem FC(q:List Int)(x y:Int):W q x y=upd (W q) 0 2 (W q 0 2) x y:=by
 unfold upd
 by_cases h:x=0∧y=2
 ·rw [if_pos h,h.1,h.2]
 ·rw [if_neg h]
theorem Nw.put(h:Nw D0 6 (upd (W q) 0 2 a) D)(b:Int):Nw D0 6 (upd (W q) 0 2 b) (D.wr 0 2 b):=(h.wr (p:=0) (o:=2) (v:=b) (by omega) (by omega)).to (GO _ _ _ _ _)
theorem Nw.cp(h:Nw D0 6 (upd (W q) 0 2 a) D):D.mem.ba true 0 1=1:=by
 show D.word 0 1=1
 rw [h.w (by omega) (by omega)];simp [upd,W,W0]
theorem Nw.Bh(h:Nw D0 6 (upd (W q) 0 2 a) D):D.mem.ba true 0 2=a:=by
 show D.word 0 2=a
 rw [h.w (by omega) (by omega)];simp [upd]
def next(a:Int):Int:=if a<4096 then a+1 else a
theorem Nw.drawn(h:Nw D0 6 (upd (W q) 0 2 a) D)(ha:0≤a∧a≤4096):Nw D0 6 (upd (W q) 0 2 (next a)) (D.pd.on (D.mem.drawn 0)):=by
 unfold Mem.drawn
 rw [h.Bh]
 unfold next
 by_cases h1:a<4096
 ·rw [if_pos h1,if_pos h1,bM (by omega)];exact h.put _
 ·rw [if_neg h1,if_neg h1,xl];exact h
theorem Dj(h:a<4096):next a=a+1:=by unfold next;rw [if_pos h]
theorem Dk(h:¬a<4096):next a=a:=by unfold next;rw [if_neg h]
end
end DB
theorem tC {s:Nst}(h:s.Ok) {a:Int}(ha:0≤a):Nst.draw s 1 a=if(s.hs.length:Int)>1∧a<((s.hs.getD (Int.toNat 1) ⟨none,0,0⟩).n:Int)then((s.l 1).getD a.toNat (U32.mk 0)).v else 0:=by
 have e:((s.hs.getD (Int.toNat 1) ⟨none,0,0⟩).n)=(s.l 1).length:=h.n_eq 1
 unfold Nst.draw
 rw [e]
 by_cases h1:(s.hs.length:Int)>1∧a<(((s.l 1).length:Nat):Int)
 ·rw [if_pos h1,if_neg (fun h2=>by
   have h3:(1:Int)<0∨(s.hs.length:Int)≤1∨a<0∨(((s.l 1).length:Nat):Int)≤a:=h2
   omega)];rfl
 ·rw [if_neg h1,if_pos]
  by_cases h2:(s.hs.length:Int)>1
  ·exact .inr (.inr (.inr (by show(((s.l 1).length:Nat):Int)≤a;omega)))
  ·exact .inr (.inl (by omega))
theorem Ft(s:Nst):Nst.draw s (-1) 0=0:=by unfold Nst.draw;rw [if_pos (.inl (by omega))]
theorem Fq(s:Nst):Nst.draw s (s.hs.length:Int) 0=0:=by unfold Nst.draw;rw [if_pos (.inr (.inl (by omega)))]
theorem Fp(s:Nst):Nst.draw s 0 (-1)=0:=by unfold Nst.draw;rw [if_pos (.inr (.inr (.inl (by omega))))]
theorem Gx(x:Int):0≤i64.wrap (BitVec.ofInt i64.bits x &&& BitVec.ofInt i64.bits 3).toNat∧i64.wrap (BitVec.ofInt i64.bits x &&& BitVec.ofInt i64.bits 3).toNat<4:=by
 have h:(BitVec.ofInt i64.bits x &&& BitVec.ofInt i64.bits 3).toNat≤3:=by
  rw [BitVec.toNat_and];exact Nat.and_le_right
 rw [ah (x:=(((BitVec.ofInt i64.bits x &&& BitVec.ofInt i64.bits 3).toNat:Nat):Int)) (by omega)]
 omega
theorem xw(x:Int):0≤Int.tmod (i64.wrap (Int.tmod x 4100+4100)) 4100∧Int.tmod (i64.wrap (Int.tmod x 4100+4100)) 4100<4100:=by
 have h1:=Int.tmod_lt_of_pos x (show(0:Int)<4100 by decide)
 have h2:=Int.lt_tmod_of_pos x (show(0:Int)<4100 by decide)
 rw [ah (by omega)]
 exact⟨Int.tmod_nonneg _ (by omega),Int.tmod_lt_of_pos _ (by decide)⟩
end
section
namespace V
section
variable {U:Uni}
theorem bd.more {rs:List (Res U)} {X:Nat→Nat→Prop} {w w':World} {Q:Ou U→Prop} {v:Value} {k:Option Kn} {Z:Nat→Prop} {r:Res U}(hs:Sat rs X w)(q:Pu w w')(hr:RS Z w' r)(hz:∀k,Z k→w.heap.size≤k)(hQ:Q ⟨v,k,[],[r],[]⟩)(hk:KnO (rs++ [r]) v k):bd rs [] X w Q (.returned v) w':=by
 refine⟨_,rs,fun i=>if i=rs.length then Z else X i,dI hk,hQ,rfl,⟨⟨fun i r' Hk=>?_,fun i j hi hj HN k II HM=>?_⟩,q.mono fun k hk=>hk.elim,fun i hi _=>if_neg (by omega),fun i hi=>(by cases hi),fun i h1 h2 k hk=>?_,.inr hk,fun _ k hk=>by cases hk⟩⟩
 ·by_cases hi:i<rs.length
  ·rw [aO,if_pos hi]at Hk
   simp only [if_neg (show ¬i=rs.length by omega)]
   exact(hs.res i r' Hk).ch q fun _ _ h=>h
  ·have h1:=aH Hk
   simp at h1
   obtain rfl:i=rs.length:=by omega
   rw [aO,if_neg (by omega),Nat.sub_self]at Hk
   obtain rfl:r=r':=by simpa [nth]using Hk
   simpa using hr
 ·simp at hi hj
  by_cases h1:i=rs.length
  ·have h2:¬j=rs.length:=by omega
   simp only [h1,if_true,if_neg h2]at II HM
   have:=hs.lt (i:=j) (by omega) k HM
   have:=hz k II
   omega
  ·simp only [if_neg h1]at II
   by_cases h2:j=rs.length
   ·simp only [h2,if_true]at HM
    have:=hs.lt (i:=i) (by omega) k II
    have:=hz k HM
    omega
   ·simp only [if_neg h2]at HM
    exact hs.dis i j (by omega) (by omega) HN k II HM
 ·simp at h2
  obtain rfl:i=rs.length:=by omega
  simp only [if_true]at hk
  exact hz k hk
theorem E6 {t:Nat} {T:TypeId} {A:Option Addr} {n c:Nat} {l:List (U.el t)} {Z:Nat→Prop} {w:World}(h:Own w Z T A n c l):RS (U:=U) (fun k=>Z k∧k<w.heap.size) w (.lst t true T A c l):=by
 have hl:=h.len
 subst hl
 exact⟨h.within,fun k hk=>hk.2⟩
end
end V
section
variable {r rm:Nat→Nat} {E:Pd} {m:Mem} {X:Nat→Nat→Prop} {w w':World}
theorem pX(hs:Sat (U:=Un) [.ob 0 rm m] X w):∃L:dM,rm 0=L.g∧bV w L m∧∀k,L.X k↔X 0 k:=by
 obtain⟨L,h1,h2,h3⟩:=(hs.res 0 _ rfl:dB 0 rm m (X 0) w)
 exact⟨L,h1,h3,h2⟩
theorem yC(hs:Sat (U:=Un) [.ob 1 r E,.ob 0 rm m] X w)(hl:ar (U:=Un) [.ob 1 r E,.ob 0 rm m] fr0 [(.l 0 1,.p (.obj 1 0 0))])(hn:E.n=m.S):
 ∃(a:Nat)(L:dM),rm 0=L.g∧r 1=L.g∧DBP w ⟨r 0,a,L⟩ (E.on m)∧(∀k,(k=r 0∨k=a)↔X 0 k)∧(∀k,L.X k↔X 1 k):=by
 obtain⟨a,h1,h2⟩:=(hs.res 0 _ rfl:dB 1 r E (X 0) w)
 obtain⟨L,h3,h4,h5⟩:=(hs.res 1 _ rfl:dB 0 rm m (X 1) w)
 obtain⟨t',r',s',QQ,hk⟩:=hl _ _ (List.mem_singleton.2 rfl)
 simp only [nth,Option.some.injEq,Res.ob.injEq]at QQ
 obtain⟨rfl,rfl,_⟩:=QQ
 have hk:some (Value.pointer (some ⟨rm 0,0,none⟩))=some (Value.pointer (some ⟨r 1,0,none⟩)):=hk
 simp only [Option.some.injEq,Value.pointer.injEq,Addr.mk.injEq]at hk
 have hg:r 1=L.g:=by rw [← h3];exact hk.1.symm
 rw [hg]at h2
 have hx:∀k,(k=r 0∨k=a)→¬L.X k:=fun k hk hL=>hs.dis 0 1 (by simp) (by simp) (by omega) k ((h1 k).1 hk) ((h4 k).1 hL)
 exact⟨a,L,h3,hg,h2.db h5 hn ⟨hx _ (.inl rfl),hx _ (.inr rfl)⟩,h1,h4⟩
theorem AE {a:Nat} {L:dM} {D:DB} {Q:Ou Un→Prop} {v:Value} {k:Option Kn}(hs:Sat (U:=Un) [.ob 1 r E,.ob 0 rm m] X w)(La:∀k,(k=r 0∨k=a)↔X 0 k)(Me:∀k,L.X k↔X 1 k)(hg:rm 0=L.g)(hr:r 1=L.g)(h:DBP w' ⟨r 0,a,L⟩ D)(q:Ch (eT.X ⟨r 0,a,L⟩) w w')
 (hQ:Q ⟨v,k,[.ob 1 D.pd,.ob 0 D.mem],[],[]⟩)(hk:KnO (U:=Un) [.ob 1 r D.pd,.ob 0 rm D.mem] v k):bd (U:=Un) [.ob 1 r E,.ob 0 rm m] [0,1] X w Q (.returned v) w':=by
 refine⟨_,[.ob 1 r D.pd,.ob 0 rm D.mem],X,dI hk,hQ,by simp [aV,bU,nth,bh],⟨⟨fun i r' Hk=>?_,hs.dis⟩,q.mono fun k hk=>?_,fun i hi hm=>rfl,fun i hi k hk=>.inl hk,fun i h1 h2=>by simp at h1 h2;omega,.inr (by simpa using hk),fun _ k hk=>by cases hk⟩⟩
 ·match i with
  | 0=>
   simp only [List.append_nil,nth,Option.some.injEq]at Hk
   subst Hk
   exact(⟨a,La,by rw [hr];exact h.pd⟩:dB 1 r D.pd (X 0) w')
  | 1=>
   simp only [List.append_nil,nth,Option.some.injEq]at Hk
   subst Hk
   exact(⟨L,hg,Me,h.mem⟩:dB 0 rm D.mem (X 1) w')
  | i+2=>simp [nth]at Hk
 ·rcases hk with hk | hk | hk
  ·exact⟨0,by simp,(La k).1 (.inl hk)⟩
  ·exact⟨0,by simp,(La k).1 (.inr hk)⟩
  ·exact⟨1,by simp,(Me k).1 hk⟩
end
end
section
set_option maxRecDepth 10000
set_option maxHeartbeats 1000000
theorem Fv {w:World}(t:Int):
 Calls prog 87 #[(.int .i64 t)] w fun e w'=>∃v,e= .returned v∧v= .bool (DB.turns t)∧Pu w w':=by
 refine r8 _ ?_
 have hp:=Ch.refl (fun _=>False) w
 refine⟨fun x w'=>x=(((t:Int)==4) || (((t:Int)==5) || ((t:Int)==6)))∧Pu w w',?_,?_⟩
 ·refine ae (fun c1=>?_) (fun c1=>?_)
  ·exact⟨by simp only [c1,Bool.true_and,Bool.and_true,Bool.false_and,Bool.and_false,Bool.true_or,Bool.or_true,Bool.false_or,Bool.or_false,Bool.not_true,Bool.not_false,if_true,if_false,Bool.false_eq_true],Ch.refl _ _⟩
  ·refine ae (fun c2=>?_) (fun c2=>?_)
   ·exact⟨by simp only [c1,c2,Bool.true_and,Bool.and_true,Bool.false_and,Bool.and_false,Bool.true_or,Bool.or_true,Bool.false_or,Bool.or_false,Bool.not_true,Bool.not_false,if_true,if_false,Bool.false_eq_true],Ch.refl _ _⟩
   ·exact⟨by simp only [c1,c2,Bool.true_and,Bool.and_true,Bool.false_and,Bool.and_false,Bool.true_or,Bool.or_true,Bool.false_or,Bool.or_false,Bool.not_true,Bool.not_false,if_true,if_false,Bool.false_eq_true],Ch.refl _ _⟩
 rintro _ _ wv ⟨rfl,Hj⟩
 have hp:=Ch.pu hp Hj
 exact⟨congrArg Value.bool (by simp [DB.turns,Bool.or_assoc]),hp⟩
theorem mO {w:World}(ak:Int):
 Calls prog 80 #[(.int .i64 ak)] w fun e w'=>∃v,e= .returned v∧v= .agg #[(.bool true),(.int .i64 ak)]∧Pu w w':=by
 refine pr _ ?_
 have hp:=Ch.refl (fun _=>False) w
 refine mkd fun gv wv Hg=>?_
 have Hp:=Hg.lo hp
 have Ha:=Hg.blk
 refine bq Ha (by simp) fun Hb JD=>?_
 have Ha:Blk Hb gv #[(.bool true),(.int .i64 ak)] _:=JD.blk
 refine⟨_,_,⟨Ha.at rfl,Ha.at rfl⟩,?_⟩
 have hp:=Ch.call (Ch.made hp Hg) JD.ch (by exact fun k e=>.inr (e▸Hp))
 exact⟨rfl,hp⟩
theorem vR {L:eT} {D:DB} {w:World}(h:DBP w L D):
 Calls prog 70 #[(.pointer (some (Addr.mk L.g 0 none)))] w fun e w'=>∃v,e= .returned v∧v= .int .i64 (D.S:Int)∧w'=w:=by
 refine sd (some (Addr.mk L.g 0 none)) ?_
 obtain⟨_,dhd_h⟩:=h.hd
 refine ao _ rfl ⟨_,_,_,dhd_h.at rfl,?_⟩
 exact⟨congrArg (Value.int .i64) (by have:=h.S64;rw [ah (by rw [Int.tdiv_eq_ediv_of_nonneg (by omega)];unfold DB.S DB.n2 at *;omega)];rw [Int.tdiv_eq_ediv_of_nonneg (by omega)];unfold DB.S DB.n2;omega),rfl⟩
theorem yS {L:eT} {D:DB} {w:World}(h:DBP w L D)(ak:Int):
 Calls prog 84 #[(.pointer (some (Addr.mk L.g 0 none))),(.int .i64 ak)] w fun e w'=>∃v,e= .returned v∧v= .bool (D.has ak)∧Pu w w':=by
 refine wP (some (Addr.mk L.g 0 none)) _ ?_
 have hp:=Ch.refl (fun _=>False) w
 have Ix:=h.lt
 refine⟨fun x w'=>x=((decide ((ak:Int)≥0)) && (decide ((ak:Int)<(D.S:Int))))∧Pu w w',?_,?_⟩
 ·refine ae (fun c1=>?_) (fun c1=>?_)
  ·refine Calls.mono (vR h) ?_
   rintro e w9 ⟨_,rfl,rfl,e9⟩
   obtain rfl:=e9.symm
   refine⟨_,rfl,?_⟩
   exact⟨by simp only [c1,Bool.true_and,Bool.and_true,Bool.false_and,Bool.and_false,Bool.true_or,Bool.or_true,Bool.false_or,Bool.or_false,Bool.not_true,Bool.not_false,if_true,if_false,Bool.false_eq_true],Ch.refl _ _⟩
  ·exact⟨by simp only [c1,Bool.true_and,Bool.and_true,Bool.false_and,Bool.and_false,Bool.true_or,Bool.or_true,Bool.false_or,Bool.or_false,Bool.not_true,Bool.not_false,if_true,if_false,Bool.false_eq_true],Ch.refl _ _⟩
 rintro _ _ wv ⟨rfl,Hj⟩
 have hp:=Ch.pu hp Hj
 exact⟨congrArg Value.bool (by rw [Bool.eq_iff_iff];simp [DB.has]),hp⟩
theorem dAt {L:eT} {D:DB} {w:World}(h:DBP w L D)(ak:Int)(hp:D.has ak=true):
 Calls prog 85 #[.pointer (some (Addr.mk L.g 0 none)),.int .i64 ak] w fun e w'=>∃v,e= .returned v∧v= .agg #[.int .i64 (D.at_ ak).typ,.int .i64 (D.at_ ak).owner,.int .i64 (D.at_ ak).refs,.int .i64 (D.at_ ak).state,.bool (D.at_ ak).aM]∧Pu w w':=by
 refine z8 _ _ ?_
 refine mkd fun gv wv m=>?_
 have h1:=h.pu m.pu
 obtain⟨T,hd⟩:=h1.hd
 obtain⟨T2,cs,hr,Hv,hw⟩:=h1.ws
 have hn:=DB.cr hp
 have ho:=DB.b9 hp
 have Rr:=h.S64
 have e0:i64.wrap (2*ak)=2*ak:=ah (by omega)
 have e1:(2*ak).toNat=2*ak.toNat:=by omega
 have e2:D.n2=2*D.S:=rfl
 refine ao _ rfl ⟨_,_,_,hd.at rfl,by rw [e0,e2];omega,?_⟩
 rintro _ rfl _ rfl _ rfl
 rw [e0,e1,e2]
 refine⟨by omega,ao (Addr.mk L.a (2*ak.toNat) none) (by rw [if_neg (by omega)];simp [Addr.add];omega) ?_⟩
 refine⟨_,_,⟨by rw [bk];exact hr.cell (hw _ hn).1,by rw [bk];exact hr.cell (hw _ hn).2⟩,?_⟩
 have Im:=(h.ok.ent _ hn).1
 refine Calls.mono (Dw _ _ (Ent.Ab Im) (Ent.Aa Im)) ?_
 rw [(Ent.xM Im).1,(Ent.xM Im).2]
 rintro e w1 ⟨_,rfl,rfl,q1⟩
 refine⟨_,_,_,_,_,_,rfl,?_⟩
 refine mkd fun g1 w2 m1=>?_
 have b1:=m1.blk
 have b0:=m1.old (q1.blk m.blk)
 have ne:=m1.ne (q1.blk m.blk)
 refine bq b1 (by simp) fun w3 s3=>?_
 have Rw:Blk w3 g1 #[.int .i64 (D.at_ ak).typ,.int .i64 (D.at_ ak).owner,.int .i64 (D.at_ ak).refs,.int .i64 (D.at_ ak).state,.bool (D.at_ ak).aM] _:=s3.blk
 refine⟨_,_,_,_,_,⟨Rw.at rfl,Rw.at rfl,Rw.at rfl,Rw.at rfl,Rw.at rfl⟩,?_⟩
 refine bq (s3.old b0 ne) (by simp) fun w4 s4=>?_
 have Rx:Blk w4 gv #[.int .i64 (D.at_ ak).typ,.int .i64 (D.at_ ak).owner,.int .i64 (D.at_ ak).refs,.int .i64 (D.at_ ak).state,.bool (D.at_ ak).aM] _:=s4.blk
 refine⟨_,_,_,_,_,⟨Rx.at rfl,Rx.at rfl,Rx.at rfl,Rx.at rfl,Rx.at rfl⟩,?_⟩
 have Hw:Pu w wv:=m.pu
 have HH:Pu w w2:=(Hw.trans q1).made m1
 exact⟨rfl,(HH.stored s3 (.inr (m1.lo (Hw.trans q1)))).stored s4 (.inr (m.lo (Ch.refl (fun _=>False) w)))⟩
theorem Bk {L:eT} {D:DB} {w:World}(h:DBP w L D)(ak:Int)(ea eb ec ed:Int)(ee:Bool)(hp:D.has ak=true)(he:(Ent.mk ea eb ec ed ee).ok=true)(JG:eb<(D.S:Int)):
 Calls prog 86 #[.pointer (some (Addr.mk L.g 0 none)),.int .i64 ak,.agg #[.int .i64 ea,.int .i64 eb,.int .i64 ec,.int .i64 ed,.bool ee]] w fun e w'=>∃v,e= .returned v∧v= .tuple #[]∧DBP w' L (D.set ak ⟨ea,eb,ec,ed,ee⟩)∧Ch L.X w w':=by
 refine wH _ _ _ _ _ _ _ ?_
 refine mkd fun gv wv m=>?_
 have b:=m.blk
 refine⟨_,_,_,_,_,⟨b.at rfl,b.at rfl,b.at rfl,b.at rfl,b.at rfl⟩,?_⟩
 refine Calls.mono (Dv _ _ _ _ _) ?_
 rw [if_pos he,if_pos he,if_pos he]
 rintro e w1 ⟨_,rfl,rfl,q1⟩
 refine⟨_,_,_,rfl,?_⟩
 refine mkd fun g1 w2 m1=>?_
 have p2:Pu w w2:=((show Pu w wv from m.pu).trans q1).made m1
 refine bq m1.blk (by simp) fun w3 s3=>?_
 have b1:Blk w3 g1 #[.int .u32 (Ent.mk ea eb ec ed ee).w0,.int .u32 (Ent.mk ea eb ec ed ee).w1] _:=s3.blk
 have p3:Pu w w3:=p2.stored s3 (.inr (m1.lo ((show Pu w wv from m.pu).trans q1)))
 have h3:=(h.pu p3).pu (Pu.dh w3)
 have b1:=b1.drew
 obtain⟨T,hd⟩:=h3.hd
 obtain⟨T2,cs,hr,Hv,hw⟩:=h3.ws
 have hn:=DB.cr hp
 have ho:=DB.b9 hp
 have Rr:=h.S64
 have e0:i64.wrap (2*ak)=2*ak:=ah (by omega)
 have e1:(2*ak).toNat=2*ak.toNat:=by omega
 have e2:D.n2=2*D.S:=rfl
 have hga:g1≠L.a:=fun e=>by have h5:=(h.lt L.a (.inr (.inl rfl)));have h6:=m1.lo ((show Pu w wv from m.pu).trans q1);omega
 refine⟨fun _ k=>k=L.g,ao _ rfl ⟨block_add _ _,_,_,_,hd.at rfl,by rw [e0,e2];omega,?_⟩⟩
 rintro _ rfl _ rfl _ rfl _ rfl _ rfl _ rfl
 rw [e0,e1,e2,if_neg (by omega),if_neg (by omega)]
 have hl:cU w3.drew (fun k=>k=g1) .u32 (some ((Addr.mk g1 0 none).add (0*1))) (2 - 0) (2 - 0) [(Ent.mk ea eb ec ed ee).w0,(Ent.mk ea eb ec ed ee).w1]:=
  cU.blk (m:=0) (Z:=fun k=>k=g1) b1 rfl (Nat.le_refl _) rfl (fun j x hx=>by
   match j with
   | 0=>simp at hx;subst hx;rfl
   | 1=>simp at hx;subst hx;rfl
   | j+2=>simp at hx)
 have hA:(Option.map (fun x:Addr=>x.add (2*ak.toNat *1)) (some (Addr.mk L.a 0 none)))=some (Addr.mk L.a (2*ak.toNat) none):=by simp [Addr.add];omega
 rw [hA]
 obtain⟨x,w4,Iy,Sw⟩:=Dy (P:=prog) (dT:=31) (sT:=31) (ty:=3) (o:=2*ak.toNat) (dn:=2*D.S - 2*ak.toNat) (dc:=2*D.S - 2*ak.toNat) wY hr hl (by rw [Hv,e2];omega) (K:=fun w4=>bb w3.drew L.a (setAt cs (2*ak.toNat) [.int .u32 (Ent.mk ea eb ec ed ee).w0,.int .u32 (Ent.mk ea eb ec ed ee).w1]) T2 w4)
  (fun w4 hs=>by rw [show min (2 - 0) (2*D.S - 2*ak.toNat)=2 by omega]at hs;exact hs)
 refine⟨x,w4,Iy,Sw.kept.mono (fun k hk=>by have hk:k=L.g:=(by simpa [fm]using hk);rw [hk];exact fun e=>h.dis.1 e.symm),fun _ k=>k=L.g,fun _ k hk=>hk,rfl,h3.EO hp he JG hr Sw,?_⟩
 exact(((p3.mono (by simp):Ch L.X w w3)).drew).stored Sw (.inl (.inr (.inl rfl)))
theorem Fx {L:eT} {D:DB} {w:World}(h:DBP w L D)(ak:Int):
 Calls prog 71 #[(.pointer (some (Addr.mk L.g 0 none))),(.int .i64 ak)] w fun e w'=>∃v,e= .returned v∧v= .tuple #[(.agg #[(.int .i64 ((D.entry ak).typ)),(.int .i64 ((D.entry ak).owner)),(.int .i64 ((D.entry ak).refs)),(.int .i64 ((D.entry ak).state)),(.bool ((D.entry ak).aM))]),(.int .i64 (D.aU ak))]∧Pu w w':=by
 refine sf (some (Addr.mk L.g 0 none)) _ ?_
 have hp:=Ch.refl (fun _=>False) w
 have Ix:=h.lt
 refine mkd fun gv wv Hg=>?_
 have Hp:=Hg.lo hp
 have Ha:=Hg.blk
 have h:=h.pu Hg.pu
 refine Calls.mono (yS h _) ?_
 rintro e Hb ⟨_,rfl,rfl,Hc⟩
 refine⟨_,rfl,?_⟩
 refine br (fun c1=>?_) (fun c1=>?_)
 ·have Ha:=Pu.blk Hc Ha
  refine bq Ha (by simp) fun He Jm=>?_
  have Ha:Blk He gv #[(.int .i64 0),(.int .i64 0),(.int .i64 0),(.int .i64 0),(.bool false)] _:=Jm.blk
  refine⟨_,_,_,_,_,⟨Ha.at rfl,Ha.at rfl,Ha.at rfl,Ha.at rfl,Ha.at rfl⟩,?_⟩
  have hp:=Ch.call (Ch.pu (Ch.made hp Hg) Hc) Jm.ch (by exact fun k e=>.inr (e▸Hp))
  exact⟨by(simp [DB.entry,DB.aU,c1];done),hp⟩
 ·have h:=h.pu Hc
  refine Calls.mono (dAt h _ ‹_›) ?_
  rintro e He ⟨_,rfl,rfl,Hs⟩
  have Ha:=Pu.blk Hs (Pu.blk Hc Ha)
  refine⟨_,_,_,_,_,rfl,bq Ha (by simp) fun Hf HV=>?_⟩
  have Ha:Blk Hf gv #[(.int .i64 ((D.at_ ak).typ)),(.int .i64 ((D.at_ ak).owner)),(.int .i64 ((D.at_ ak).refs)),(.int .i64 ((D.at_ ak).state)),(.bool ((D.at_ ak).aM))] _:=HV.blk
  refine⟨_,_,_,_,_,⟨Ha.at rfl,Ha.at rfl,Ha.at rfl,Ha.at rfl,Ha.at rfl⟩,?_⟩
  have hp:=Ch.call (Ch.pu (Ch.pu (Ch.made hp Hg) Hc) Hs) HV.ch (by exact fun k e=>.inr (e▸Hp))
  exact⟨by(simp [DB.entry,DB.aU,c1];done),hp⟩
theorem tG {L:eT} {D:DB} {w:World}(h:DBP w L D)(ak:Int):
 Calls prog 88 #[(.pointer (some (Addr.mk L.g 0 none))),(.int .i64 ak)] w fun e w'=>∃v,e= .returned v∧v= .bool (D.di ak)∧Pu w w':=by
 refine oM (some (Addr.mk L.g 0 none)) _ ?_
 have hp:=Ch.refl (fun _=>False) w
 have Ix:=h.lt
 refine⟨fun x w'=>x=((D.has ak) && ((((D.at_ ak).typ):Int)==1))∧Pu w w',?_,?_⟩
 ·refine Calls.mono (yS h _) ?_
  rintro e wv ⟨_,rfl,rfl,Hj⟩
  refine⟨_,rfl,?_⟩
  refine ae (fun c1=>?_) (fun c1=>?_)
  ·have h:=h.pu Hj
   refine Calls.mono (dAt h _ ‹_›) ?_
   rintro e Hb ⟨_,rfl,rfl,Hc⟩
   refine⟨_,_,_,_,_,rfl,?_⟩
   exact⟨by simp only [c1,Bool.true_and,Bool.and_true,Bool.false_and,Bool.and_false,Bool.true_or,Bool.or_true,Bool.false_or,Bool.or_false,Bool.not_true,Bool.not_false,if_true,if_false,Bool.false_eq_true],(Ch.pu Hj Hc)⟩
  ·exact⟨by simp only [c1,Bool.true_and,Bool.and_true,Bool.false_and,Bool.and_false,Bool.true_or,Bool.or_true,Bool.false_or,Bool.or_false,Bool.not_true,Bool.not_false,if_true,if_false,Bool.false_eq_true],Hj⟩
 rintro _ _ wv ⟨rfl,Hj⟩
 have hp:=Ch.pu hp Hj
 exact⟨congrArg Value.bool (by(simp [DB.di];done)),hp⟩
theorem Gn {L:eT} {D:DB} {w:World}(h:DBP w L D)(space:Int)(more:Int)(hp:D.has space=true)(he:({D.at_ space with refs:=(D.at_ space).refs+more}:Ent).ok=true):
 Calls prog 89 #[(.pointer (some (Addr.mk L.g 0 none))),(.int .i64 space),(.int .i64 more)] w fun e w'=>∃v,e= .returned v∧v= .tuple #[]∧DBP w' L (D.more space more)∧Ch L.X w w':=by
 refine vb (some (Addr.mk L.g 0 none)) _ _ ?_
 have hi:i64.wrap ((D.at_ space).refs+more)=(D.at_ space).refs+more:=ah (by have:=Ent.cS he;simp only at this;omega)
 have ho:=(h.ok.ent _ (DB.cr hp)).2
 have hp:=Ch.refl L.X w
 have Ix:=h.lt
 refine Calls.mono (dAt h _ ‹_›) ?_
 rintro e wv ⟨_,rfl,rfl,Hj⟩
 refine⟨_,_,_,_,_,rfl,?_⟩
 have hp:=Ch.pu hp Hj
 refine mkd fun gv Hb Hg=>?_
 have Hp:=Hg.lo hp
 have Ha:=Hg.blk
 refine bq Ha (by simp) fun He Jm=>?_
 have Ha:Blk He gv #[(.int .i64 ((D.at_ space).typ)),(.int .i64 ((D.at_ space).owner)),(.int .i64 ((D.at_ space).refs)),(.int .i64 ((D.at_ space).state)),(.bool ((D.at_ space).aM))] _:=Jm.blk
 refine⟨_,Ha.at rfl,bY Ha (by simp) fun Hf HV=>?_⟩
 have Ha:Blk Hf gv #[(.int .i64 ((D.at_ space).typ)),(.int .i64 ((D.at_ space).owner)),_,(.int .i64 ((D.at_ space).state)),(.bool ((D.at_ space).aM))] _:=HV.blk
 refine⟨_,_,_,_,_,⟨Ha.at rfl,Ha.at rfl,Ha.at rfl,Ha.at rfl,Ha.at rfl⟩,?_⟩
 have h:=(((h.pu Hj).pu Hg.pu).ch Jm.ch (fun k hx e=>(fun hx=>absurd (Ix _ hx) (Nat.not_lt.2 Hp)) (e▸hx))).ch HV.ch (fun k hx e=>(fun hx=>absurd (Ix _ hx) (Nat.not_lt.2 Hp)) (e▸hx))
 refine Calls.mono (Bk h _ _ _ _ _ _ ‹_› (by rw [hi];exact he) (by exact ho)) ?_
 rintro e Hl ⟨_,rfl,rfl,h,HZ⟩
 refine⟨rfl,?_⟩
 have hp:=Ch.call (Ch.call (Ch.call (Ch.made hp Hg) Jm.ch (by exact fun k e=>.inr (e▸Hp))) HV.ch (by exact fun k e=>.inr (e▸Hp))) HZ (by exact fun k hk=>.inl hk)
 exact⟨rfl,by rw [show D.more space more=D.set space ⟨((D.at_ space).typ),((D.at_ space).owner),(i64.wrap (((D.at_ space).refs)+more)),((D.at_ space).state),((D.at_ space).aM)⟩from by rw [hi];rfl];exact h,hp⟩
theorem Gm {L:eT} {D:DB} {w:World}(h:DBP w L D)(ak:Int)(t:Int)(space:Int):
 Calls prog 42 #[(.pointer (some (Addr.mk L.g 0 none))),(.int .i64 ak),(.int .i64 t),(.int .i64 space)] w fun e w'=>∃v,e= .returned v∧v= .int .i64 (D.bJ ak t space)∧DBP w' L (D.take ak t space)∧Ch L.X w w':=by
 refine u6 (some (Addr.mk L.g 0 none)) _ _ _ ?_
 have h_0:=h
 have hp:=Ch.refl L.X w
 have Ix:=h.lt
 refine Calls.mono (yS h _) ?_
 rintro e wv ⟨_,rfl,rfl,Hj⟩
 refine⟨_,rfl,?_⟩
 rintro _ rfl
 refine br (fun c1=>?_) (fun c1=>?_)
 ·have h:=h.pu Hj
  have hp:=Ch.pu hp Hj
  exact⟨congrArg (Value.int .i64) (by(simp [DB.take,DB.dE,DB.bJ,c1];done)),by rw [show D.take ak t space=D from by(simp [DB.take,DB.dE,DB.bJ,c1];done)];exact h,hp⟩
 ·refine⟨fun x w'=>x=(((t:Int) !=2) && (!(DB.turns t)))∧Pu wv w',?_,?_⟩
  ·refine ae (fun c2=>?_) (fun c2=>?_)
   ·refine Calls.mono (Fv _) ?_
    rintro e Hb ⟨_,rfl,rfl,Hc⟩
    refine⟨_,rfl,?_⟩
    rintro _ rfl
    exact⟨by simp only [c2,Bool.true_and,Bool.and_true,Bool.false_and,Bool.and_false,Bool.true_or,Bool.or_true,Bool.false_or,Bool.or_false,Bool.not_true,Bool.not_false,if_true,if_false,Bool.false_eq_true],Hc⟩
   ·rintro _ rfl
    exact⟨by simp only [c2,Bool.true_and,Bool.and_true,Bool.false_and,Bool.and_false,Bool.true_or,Bool.or_true,Bool.false_or,Bool.or_false,Bool.not_true,Bool.not_false,if_true,if_false,Bool.false_eq_true],Ch.refl _ _⟩
  rintro _ _ Hb ⟨rfl,Hc⟩
  refine bW (fun c3=>?_) (fun c3=>?_)
  ·have h:=(h.pu Hj).pu Hc
   have hp:=Ch.pu (Ch.pu hp Hj) Hc
   exact⟨congrArg (Value.int .i64) (by(simp [DB.take,DB.dE,DB.bJ,c1,c3];done)),by rw [show D.take ak t space=D from by(simp [DB.take,DB.dE,DB.bJ,c1,c3];done)];exact h,hp⟩
  ·refine⟨fun x w'=>x=((!(D.di space)) || (decide ((((D.at_ space).refs):Int)≥63)))∧Pu Hb w',?_,?_⟩
   ·have h:=(h.pu Hj).pu Hc
    refine Calls.mono (tG h _) ?_
    rintro e He ⟨_,rfl,rfl,Hs⟩
    refine⟨_,rfl,?_⟩
    refine ae (fun c4=>?_) (fun c4=>?_)
    ·rintro _ rfl
     exact⟨by simp only [c4,Bool.true_and,Bool.and_true,Bool.false_and,Bool.and_false,Bool.true_or,Bool.or_true,Bool.false_or,Bool.or_false,Bool.not_true,Bool.not_false,if_true,if_false,Bool.false_eq_true],Hs⟩
    ·have h:=h.pu Hs
     refine Calls.mono (dAt h _ (by grind [DB.take,DB.dE,DB.bJ,DB.di])) ?_
     rintro e Hf ⟨_,rfl,rfl,HL⟩
     refine⟨_,_,_,_,_,rfl,?_⟩
     rintro _ rfl
     exact⟨by simp only [c4,Bool.true_and,Bool.and_true,Bool.false_and,Bool.and_false,Bool.true_or,Bool.or_true,Bool.false_or,Bool.or_false,Bool.not_true,Bool.not_false,if_true,if_false,Bool.false_eq_true],(Ch.pu Hs HL)⟩
   rintro _ _ He ⟨rfl,Hs⟩
   refine aL (fun c5=>?_) (fun c5=>?_)
   ·have h:=((h.pu Hj).pu Hc).pu Hs
    have hp:=Ch.pu (Ch.pu (Ch.pu hp Hj) Hc) Hs
    exact⟨congrArg (Value.int .i64) (by grind [DB.take,DB.dE,DB.bJ]),by rw [show D.take ak t space=D from by grind [DB.take,DB.dE,DB.bJ]];exact h,hp⟩
   ·have h:=((h.pu Hj).pu Hc).pu Hs
    refine Calls.mono (dAt h _ ‹_›) ?_
    rintro e Hf ⟨_,rfl,rfl,HL⟩
    refine⟨_,_,_,_,_,rfl,?_⟩
    rintro _ rfl
    refine aX (fun c6=>?_) (fun c6=>?_)
    ·have h:=h.pu HL
     have hp:=Ch.pu (Ch.pu (Ch.pu (Ch.pu hp Hj) Hc) Hs) HL
     exact⟨congrArg (Value.int .i64) (by grind [DB.take,DB.dE,DB.bJ]),by rw [show D.take ak t space=D from by grind [DB.take,DB.dE,DB.bJ]];exact h,hp⟩
    ·have h:=h.pu HL
     refine Calls.mono (Bk h _ _ _ _ _ _ ‹_› (by obtain⟨Jy,MO⟩:=DB.fI (d:=D) (p:=space) (by grind);have:=DB.b9 Jy;have:=h.S64;exact DB.AK (by grind) (by omega)) (by obtain⟨Jy,MO⟩:=DB.fI (d:=D) (p:=space) (by grind);exact(DB.b9 Jy).2)) ?_
     rintro e Hl ⟨_,rfl,rfl,h,HZ⟩
     refine⟨rfl,?_⟩
     refine Calls.mono (Gn h _ _ (by obtain⟨Jy,MO⟩:=DB.fI (d:=D) (p:=space) (by grind);exact Jy) (by obtain⟨Jy,MO⟩:=DB.fI (d:=D) (p:=space) (by grind);rw [DB.Gw (d:=D) c1 Jy (by omega)];have h3:=(h_0.ok.at_ Jy).1;have h4:=Ent.cS h3;exact DB.qX h3 MO (by grind))) ?_
     rintro e HG ⟨_,rfl,rfl,h,KG⟩
     refine⟨rfl,?_⟩
     have hp:=Ch.call (Ch.call (Ch.pu (Ch.pu (Ch.pu (Ch.pu hp Hj) Hc) Hs) HL) HZ (by exact fun k hk=>.inl hk)) KG (by exact fun k hk=>.inl hk)
     exact⟨congrArg (Value.int .i64) (by grind [DB.take,DB.dE,DB.bJ]),by rw [show D.take ak t space=(D.set ak ⟨t,space,0,0,false⟩).more space 1 from by grind [DB.take,DB.dE,DB.bJ]];exact h,hp⟩
theorem yR {L:eT} {D:DB} {w:World}(h:DBP w L D)(space:Int)(s:Int):
 Calls prog 48 #[(.pointer (some (Addr.mk L.g 0 none))),(.int .i64 space),(.int .i64 s)] w fun e w'=>∃v,e= .returned v∧v= .int .i64 (D.aT space s)∧DBP w' L (D.setState space s)∧Ch L.X w w':=by
 refine mC (some (Addr.mk L.g 0 none)) _ _ ?_
 have hp:=Ch.refl L.X w
 have Ix:=h.lt
 refine Calls.mono (yS h _) ?_
 rintro e wv ⟨_,rfl,rfl,Hj⟩
 refine⟨_,rfl,?_⟩
 refine br (fun c1=>?_) (fun c1=>?_)
 ·have h:=h.pu Hj
  have hp:=Ch.pu hp Hj
  exact⟨congrArg (Value.int .i64) (by(simp [DB.setState,DB.aT,c1];done)),by rw [show D.setState space s=D from by(simp [DB.setState,DB.aT,c1];done)];exact h,hp⟩
 ·have h:=h.pu Hj
  refine Calls.mono (dAt h _ ‹_›) ?_
  rintro e Hb ⟨_,rfl,rfl,Hc⟩
  refine⟨_,_,_,_,_,rfl,?_⟩
  have hp:=Ch.pu (Ch.pu hp Hj) Hc
  refine mkd fun gv He Hg=>?_
  have Hp:=Hg.lo hp
  have Ha:=Hg.blk
  refine bq Ha (by simp) fun Hf HV=>?_
  have Ha:Blk Hf gv #[(.int .i64 ((D.at_ space).typ)),(.int .i64 ((D.at_ space).owner)),(.int .i64 ((D.at_ space).refs)),(.int .i64 ((D.at_ space).state)),(.bool ((D.at_ space).aM))] _:=HV.blk
  refine⟨_,Ha.at rfl,?_⟩
  rintro _ rfl
  refine aX (fun c2=>?_) (fun c2=>?_)
  ·have h:=((h.pu Hc).pu Hg.pu).ch HV.ch (fun k hx e=>(fun hx=>absurd (Ix _ hx) (Nat.not_lt.2 Hp)) (e▸hx))
   have hp:=Ch.call (Ch.made hp Hg) HV.ch (by exact fun k e=>.inr (e▸Hp))
   exact⟨congrArg (Value.int .i64) (by(simp [DB.setState,DB.aT,c1,c2];done)),by rw [show D.setState space s=D from by(simp [DB.setState,DB.aT,c1,c2];done)];exact h,hp⟩
  ·refine⟨fun x w'=>x=(((s:Int) !=3) && (((((D.at_ space).state):Int) !=1) || ((s:Int) !=2)))∧Pu Hf w',?_,?_⟩
   ·refine ae (fun c3=>?_) (fun c3=>?_)
    ·refine⟨_,Ha.at rfl,?_⟩
     refine ae (fun c4=>?_) (fun c4=>?_)
     ·rintro _ rfl
      exact⟨by simp only [c3,c4,Bool.true_and,Bool.and_true,Bool.false_and,Bool.and_false,Bool.true_or,Bool.or_true,Bool.false_or,Bool.or_false,Bool.not_true,Bool.not_false,if_true,if_false,Bool.false_eq_true],Ch.refl _ _⟩
     ·rintro _ rfl
      exact⟨by simp only [c3,c4,Bool.true_and,Bool.and_true,Bool.false_and,Bool.and_false,Bool.true_or,Bool.or_true,Bool.false_or,Bool.or_false,Bool.not_true,Bool.not_false,if_true,if_false,Bool.false_eq_true],Ch.refl _ _⟩
    ·rintro _ rfl
     exact⟨by simp only [c3,Bool.true_and,Bool.and_true,Bool.false_and,Bool.and_false,Bool.true_or,Bool.or_true,Bool.false_or,Bool.or_false,Bool.not_true,Bool.not_false,if_true,if_false,Bool.false_eq_true],Ch.refl _ _⟩
   rintro _ _ Hl ⟨rfl,HZ⟩
   refine bW (fun c5=>?_) (fun c5=>?_)
   ·have h:=(((h.pu Hc).pu Hg.pu).ch HV.ch (fun k hx e=>(fun hx=>absurd (Ix _ hx) (Nat.not_lt.2 Hp)) (e▸hx))).pu HZ
    have hp:=Ch.pu (Ch.call (Ch.made hp Hg) HV.ch (by exact fun k e=>.inr (e▸Hp))) HZ
    exact⟨congrArg (Value.int .i64) (by(simp [DB.setState,DB.aT,c1,c2,c5];done)),by rw [show D.setState space s=D from by(simp [DB.setState,DB.aT,c1,c2,c5];done)];exact h,hp⟩
   ·have Ha:=Pu.blk HZ Ha
    refine bY Ha (by simp) fun HG LI=>?_
    have Ha:Blk HG gv #[(.int .i64 ((D.at_ space).typ)),(.int .i64 ((D.at_ space).owner)),(.int .i64 ((D.at_ space).refs)),(.int .i64 s),(.bool ((D.at_ space).aM))] _:=LI.blk
    refine⟨_,_,_,_,_,⟨Ha.at rfl,Ha.at rfl,Ha.at rfl,Ha.at rfl,Ha.at rfl⟩,?_⟩
    have h:=((((h.pu Hc).pu Hg.pu).ch HV.ch (fun k hx e=>(fun hx=>absurd (Ix _ hx) (Nat.not_lt.2 Hp)) (e▸hx))).pu HZ).ch LI.ch (fun k hx e=>(fun hx=>absurd (Ix _ hx) (Nat.not_lt.2 Hp)) (e▸hx))
    refine Calls.mono (Bk h _ _ _ _ _ _ ‹_› (by exact DB.Ek (h.ok.at_ c1).1 (by grind) (by grind)) (by exact(h.ok.at_ c1).2.1)) ?_
    rintro e ID ⟨_,rfl,rfl,h,JE⟩
    refine⟨rfl,?_⟩
    have hp:=Ch.call (Ch.call (Ch.pu (Ch.call (Ch.made hp Hg) HV.ch (by exact fun k e=>.inr (e▸Hp))) HZ) LI.ch (by exact fun k e=>.inr (e▸Hp))) JE (by exact fun k hk=>.inl hk)
    exact⟨congrArg (Value.int .i64) (by grind [DB.setState,DB.aT]),by rw [show D.setState space s=D.set space ⟨((D.at_ space).typ),((D.at_ space).owner),((D.at_ space).refs),s,((D.at_ space).aM)⟩from by grind [DB.setState,DB.aT]];exact h,hp⟩
theorem vQ {L:eT} {D:DB} {w:World}(h:DBP w L D)(space:Int)(first:Int):
 Calls prog 40 #[(.pointer (some (Addr.mk L.g 0 none))),(.int .i64 space),(.int .i64 first)] w fun e w'=>∃v,e= .returned v∧v= .int .i64 (D.aI space first)∧DBP w' L (D.aw space first)∧Ch L.X w w':=by
 refine lO (some (Addr.mk L.g 0 none)) _ _ ?_
 have Rr:=h.S64
 have hbo:=h.ok.aq
 have hp:=Ch.refl L.X w
 have Ix:=h.lt
 refine⟨fun x w'=>x=((!(D.has space)) || (!(D.has first)))∧Pu w w',?_,?_⟩
 ·refine Calls.mono (yS h _) ?_
  rintro e wv ⟨_,rfl,rfl,Hj⟩
  refine⟨_,rfl,?_⟩
  refine ae (fun c1=>?_) (fun c1=>?_)
  ·rintro _ rfl
   exact⟨by simp only [c1,Bool.true_and,Bool.and_true,Bool.false_and,Bool.and_false,Bool.true_or,Bool.or_true,Bool.false_or,Bool.or_false,Bool.not_true,Bool.not_false,if_true,if_false,Bool.false_eq_true],Hj⟩
  ·have h:=h.pu Hj
   refine Calls.mono (yS h _) ?_
   rintro e Hb ⟨_,rfl,rfl,Hc⟩
   refine⟨_,rfl,?_⟩
   rintro _ rfl
   exact⟨by simp only [c1,Bool.true_and,Bool.and_true,Bool.false_and,Bool.and_false,Bool.true_or,Bool.or_true,Bool.false_or,Bool.or_false,Bool.not_true,Bool.not_false,if_true,if_false,Bool.false_eq_true],(Ch.pu Hj Hc)⟩
 rintro _ _ wv ⟨rfl,Hj⟩
 refine aL (fun c2=>?_) (fun c2=>?_)
 ·have h:=h.pu Hj
  have hp:=Ch.pu hp Hj
  exact⟨congrArg (Value.int .i64) (by grind [DB.aw,DB.aZ,DB.aI]),by rw [show D.aw space first=D from by grind [DB.aw,DB.aZ,DB.aI]];exact h,hp⟩
 ·rintro _ rfl
  refine aC (fun c3=>?_) (fun c3=>?_)
  ·have h:=h.pu Hj
   have hp:=Ch.pu hp Hj
   exact⟨congrArg (Value.int .i64) (by(simp [DB.aw,DB.aZ,DB.aI,c2,c3];done)),by rw [show D.aw space first=D from by(simp [DB.aw,DB.aZ,DB.aI,c2,c3];done)];exact h,hp⟩
  ·refine⟨fun x w'=>x=(((((D.at_ space).typ):Int) !=0) || ((((D.at_ first).typ):Int) !=0))∧Pu wv w',?_,?_⟩
   ·have h:=h.pu Hj
    refine Calls.mono (dAt h _ (by grind [DB.aw,DB.aZ,DB.aI])) ?_
    rintro e Hb ⟨_,rfl,rfl,Hc⟩
    refine⟨_,_,_,_,_,rfl,?_⟩
    refine ae (fun c4=>?_) (fun c4=>?_)
    ·rintro _ rfl
     exact⟨by simp only [c4,Bool.true_and,Bool.and_true,Bool.false_and,Bool.and_false,Bool.true_or,Bool.or_true,Bool.false_or,Bool.or_false,Bool.not_true,Bool.not_false,if_true,if_false,Bool.false_eq_true],Hc⟩
    ·have h:=h.pu Hc
     refine Calls.mono (dAt h _ (by grind [DB.aw,DB.aZ,DB.aI])) ?_
     rintro e He ⟨_,rfl,rfl,Hs⟩
     refine⟨_,_,_,_,_,rfl,?_⟩
     rintro _ rfl
     exact⟨by simp only [c4,Bool.true_and,Bool.and_true,Bool.false_and,Bool.and_false,Bool.true_or,Bool.or_true,Bool.false_or,Bool.or_false,Bool.not_true,Bool.not_false,if_true,if_false,Bool.false_eq_true],(Ch.pu Hc Hs)⟩
   rintro _ _ Hb ⟨rfl,Hc⟩
   refine aL (fun c5=>?_) (fun c5=>?_)
   ·have h:=(h.pu Hj).pu Hc
    have hp:=Ch.pu (Ch.pu hp Hj) Hc
    exact⟨congrArg (Value.int .i64) (by grind [DB.aw,DB.aZ,DB.aI]),by rw [show D.aw space first=D from by grind [DB.aw,DB.aZ,DB.aI]];exact h,hp⟩
   ·have h:=(h.pu Hj).pu Hc
    obtain⟨_,dhd_h⟩:=h.hd
    refine ao _ rfl ⟨_,dhd_h.at rfl,?_⟩
    rintro _ rfl
    refine aA (fun c6=>?_) (fun c6=>?_)
    ·have hp:=Ch.pu (Ch.pu hp Hj) Hc
     exact⟨congrArg (Value.int .i64) (by(simp [DB.aw,DB.aZ,DB.aI,c2,c3,c5,c6];done)),by rw [show D.aw space first=D from by(simp [DB.aw,DB.aZ,DB.aI,c2,c3,c5,c6];done)];exact h,hp⟩
    ·refine Calls.mono (Bk h _ _ _ _ _ _ (by(show D.has space=true;grind)) (by have h1:D.has space=true:=(by grind);have:=DB.b9 h1;simp only [Ent.ok,decide_eq_true_eq];simp;omega) (by exact(DB.b9 (d:=D) (p:=space) (by grind)).2)) ?_
     rintro e He ⟨_,rfl,rfl,h,Hs⟩
     refine⟨rfl,?_⟩
     refine Calls.mono (Bk h _ _ _ _ _ _ (by(show D.has first=true;grind)) (by have h1:D.has space=true:=(by grind);have:=DB.b9 h1;simp only [Ent.ok,decide_eq_true_eq];simp;omega) (by exact(DB.b9 (d:=D) (p:=space) (by grind)).2)) ?_
     rintro e Hf ⟨_,rfl,rfl,h,HL⟩
     refine⟨rfl,?_⟩
     refine⟨bXU [3] [] Hf.drew L.M.X,?_⟩
     have h:=h.pu (Pu.dh _)
     obtain⟨_,dhd_h⟩:=h.hd
     refine ao _ rfl ⟨.inr ⟨by decide,bX.ld dhd_h (h.dis.2.1) _⟩,_,dhd_h.at rfl,?_⟩
     refine Calls.mono (mO _) ?_
     rintro e Hl ⟨_,rfl,rfl,HZ⟩
     refine⟨_,_,rfl,?_⟩
     refine bXU.xu HZ (by decide) ?_
     have h:=h.pu HZ
     refine Calls.mono (rv h _ _ _ _ (by exact dP _)) ?_
     rintro e HG ⟨_,rfl,rfl,h,KG⟩
     refine⟨_,rfl,?_⟩
     refine bXU.more KG (by intro k hk;exact .inl hk) (by decide) ?_
     refine⟨bXU [3,9] [] HG.drew L.M.X,?_⟩
     have h:=h.pu (Pu.dh _)
     obtain⟨_,dhd_h⟩:=h.hd
     refine ao _ rfl ⟨.inr ⟨by decide,bX.ld dhd_h (h.dis.2.1) _⟩,_,dhd_h.at rfl,ao _ rfl ⟨.inr ⟨by decide,bX.ld dhd_h (h.dis.2.1) _⟩,_,dhd_h.at rfl,?_⟩⟩
     refine Calls.mono (mO _) ?_
     rintro e ID ⟨_,rfl,rfl,JE⟩
     refine⟨_,_,rfl,?_⟩
     refine bXU.xu JE (by decide) ?_
     have h:=h.pu JE
     refine Calls.mono (rv h _ _ _ _ (by exact dP _)) ?_
     rintro e IX ⟨_,rfl,rfl,h,Nb⟩
     refine⟨_,rfl,?_⟩
     refine bXU.more Nb (by intro k hk;exact .inl hk) (by decide) ?_
     refine⟨bXU [3] [] IX.drew L.M.X,?_⟩
     have h:=h.pu (Pu.dh _)
     obtain⟨_,dhd_h⟩:=h.hd
     refine ao _ rfl ⟨.inr ⟨by decide,bX.ld dhd_h (h.dis.2.1) _⟩,_,dhd_h.at rfl,?_⟩
     refine Calls.mono (mO _) ?_
     rintro e Ja ⟨_,rfl,rfl,LP⟩
     refine⟨_,_,rfl,?_⟩
     refine bXU.xu LP (by decide) ?_
     have h:=h.pu LP
     refine Calls.mono (rv h _ _ _ _ (by omega)) ?_
     rintro e K2 ⟨_,rfl,rfl,h,Na⟩
     refine⟨_,rfl,?_⟩
     refine bXU.more Na (by intro k hk;exact .inl hk) (by decide) ?_
     obtain⟨_,dhd_h⟩:=h.hd
     refine ao _ rfl ⟨_,dhd_h.at rfl,ao _ rfl (bY dhd_h (by simp) fun KT LJ=>?_)⟩
     have h:=h.yp LJ (by show 0≤i64.wrap (D.aq+1)∧i64.wrap (D.aq+1)≤64;rw [ah (by omega)];omega)
     have hp:=Ch.call (Ch.call (Ch.pu (Ch.drew (Ch.call (Ch.pu (Ch.drew (Ch.call (Ch.pu (Ch.drew (Ch.call (Ch.call (Ch.pu (Ch.pu hp Hj) Hc) Hs (by exact fun k hk=>.inl hk)) HL (by exact fun k hk=>.inl hk))) HZ) (KG.mono L.inM) (by exact fun k hk=>.inl hk))) JE) (Nb.mono L.inM) (by exact fun k hk=>.inl hk))) LP) (Na.mono L.inM) (by exact fun k hk=>.inl hk)) LJ.ch (by exact fun k e=>.inl (by subst e;exact .inl rfl))
     exact⟨congrArg (Value.int .i64) (by(simp [DB.aw,DB.aZ,DB.aI,c2,c3,c5,c6];done)),by rw [show D.aw space first=(((((D.set space ⟨1,space,1,1,false⟩).set first ⟨3,space,0,0,false⟩).aK (((D.set space ⟨1,space,1,1,false⟩).set first ⟨3,space,0,0,false⟩).mem.write true space 0 (u32.wrap first))).aK ((((D.set space ⟨1,space,1,1,false⟩).set first ⟨3,space,0,0,false⟩).aK (((D.set space ⟨1,space,1,1,false⟩).set first ⟨3,space,0,0,false⟩).mem.write true space 0 (u32.wrap first))).mem.write true space 1 (u32.wrap ((((D.set space ⟨1,space,1,1,false⟩).set first ⟨3,space,0,0,false⟩).aK (((D.set space ⟨1,space,1,1,false⟩).set first ⟨3,space,0,0,false⟩).mem.write true space 0 (u32.wrap first))).aq)))).aK (((((D.set space ⟨1,space,1,1,false⟩).set first ⟨3,space,0,0,false⟩).aK (((D.set space ⟨1,space,1,1,false⟩).set first ⟨3,space,0,0,false⟩).mem.write true space 0 (u32.wrap first))).aK ((((D.set space ⟨1,space,1,1,false⟩).set first ⟨3,space,0,0,false⟩).aK (((D.set space ⟨1,space,1,1,false⟩).set first ⟨3,space,0,0,false⟩).mem.write true space 0 (u32.wrap first))).mem.write true space 1 (u32.wrap ((((D.set space ⟨1,space,1,1,false⟩).set first ⟨3,space,0,0,false⟩).aK (((D.set space ⟨1,space,1,1,false⟩).set first ⟨3,space,0,0,false⟩).mem.write true space 0 (u32.wrap first))).aq)))).mem.write true space 2 0)).dD (i64.wrap (((((((D.set space ⟨1,space,1,1,false⟩).set first ⟨3,space,0,0,false⟩).aK (((D.set space ⟨1,space,1,1,false⟩).set first ⟨3,space,0,0,false⟩).mem.write true space 0 (u32.wrap first))).aK ((((D.set space ⟨1,space,1,1,false⟩).set first ⟨3,space,0,0,false⟩).aK (((D.set space ⟨1,space,1,1,false⟩).set first ⟨3,space,0,0,false⟩).mem.write true space 0 (u32.wrap first))).mem.write true space 1 (u32.wrap ((((D.set space ⟨1,space,1,1,false⟩).set first ⟨3,space,0,0,false⟩).aK (((D.set space ⟨1,space,1,1,false⟩).set first ⟨3,space,0,0,false⟩).mem.write true space 0 (u32.wrap first))).aq)))).aK (((((D.set space ⟨1,space,1,1,false⟩).set first ⟨3,space,0,0,false⟩).aK (((D.set space ⟨1,space,1,1,false⟩).set first ⟨3,space,0,0,false⟩).mem.write true space 0 (u32.wrap first))).aK ((((D.set space ⟨1,space,1,1,false⟩).set first ⟨3,space,0,0,false⟩).aK (((D.set space ⟨1,space,1,1,false⟩).set first ⟨3,space,0,0,false⟩).mem.write true space 0 (u32.wrap first))).mem.write true space 1 (u32.wrap ((((D.set space ⟨1,space,1,1,false⟩).set first ⟨3,space,0,0,false⟩).aK (((D.set space ⟨1,space,1,1,false⟩).set first ⟨3,space,0,0,false⟩).mem.write true space 0 (u32.wrap first))).aq)))).mem.write true space 2 0)).aq)+1))from by have h5:D.has first=true:=(by grind);have h6:=DB.b9 h5;have e1:u32.wrap first=first:=bM (by omega);have e2:u32.wrap D.aq=D.aq:=bM (by omega);have e3:i64.wrap (D.aq+1)=D.aq+1:=ah (by omega);show D.aw space first=(((((D.set space ⟨1,space,1,1,false⟩).set first ⟨3,space,0,0,false⟩)).aK (((D.mem.write true space 0 (u32.wrap first)).write true space 1 (u32.wrap D.aq)).write true space 2 0)).dD (i64.wrap (D.aq+1)));rw [e1,e2,e3];unfold DB.aw;rw [if_pos (by grind [DB.aI])];rfl];exact h,hp⟩
end
section
set_option maxRecDepth 10000
set_option maxHeartbeats 1000000
end
end Go.Proofs.YtfmcaoaaiganbaaGreatDoor
namespace Go.Proofs.YtfmcaoaaiganbaaGreatDoor
open Go.Proofs.Tryz (prog)
open Go Go.RowKit V
open Go.IntKind (i64 u32 u64)
section
set_option maxRecDepth 100000
def xZ(m:Option Addr)(R:ax)(w:World):Prop:=
 split m.isNone (
  R (.pointer none) w) (
  Calls prog 62 #[(.pointer m)] w fun e wv=>
  ∃x7:Int,e= .returned (.int .i64 x7)∧
  ∃I:Nat→Int→World→Prop,(∃m1,I m1 0 wv)∧∀(m1:Nat)(Ic:Nat→Value)(x8:Int),∀Hb,I m1 x8 Hb→
  split (decide ((x8:Int)<x7)) (
   Calls prog 80 #[(.int .i64 x8)] Hb fun e He=>
   ∃Iv:Bool,∃IG:Int,e= .returned (.agg #[(.bool Iv),(.int .i64 IG)])∧
   Calls prog 79 #[(.pointer m),(.agg #[(.bool Iv),(.int .i64 IG)])] He fun e Hf=>
   ∃H4:Int,e= .returned (.int .i64 H4)∧
   ∃m2,m2<m1∧I m2 (i64.wrap (x8+1)) Hf) (
   Calls prog 62 #[(.pointer m)] Hb fun e He=>
   ∃Jd:Int,e= .returned (.int .i64 Jd)∧
   ∃Lu:Option Addr,∃Lr:Nat,∃Lt:Nat,∃Hf,(Instr.makeSlice 31 (.int .i64 (i64.wrap (2*Jd))) (.int .i64 (i64.wrap (2*Jd))):Sem Value).run prog He= .ok (.slice Lu Lr Lt) Hf∧
   ∀(Hm:Nat)(Hl:World),Hm=Hf.heap.size→Hl=Hf.alloc (.cells #[(.pointer m),(.int .i64 0),(.slice Lu Lr Lt)] 122)→
   R (.pointer (some (Addr.mk Hm 0 none))) Hl))
def Ed:Ann:=(.node none .leaf (.node none .leaf (.node none (.node none .leaf (.node none (.node (some ⟨[(8,.one (.int .i64))],[3,8,9,10,11,12,13,14,15]⟩) .leaf .leaf) .leaf)) .leaf)))
theorem DNew_eq(m:Option Addr)(R:ax)(w:World):xZ m R w=vcF prog aE [] Tryz.f37 Ed [(.pointer m)] R none w:=by kernel_rfl
theorem wJ(m:Option Addr) {R:ax} {w:World}(h:xZ m R w):Calls prog 37 #[(.pointer m)] w fun e w'=>∃v,e= .returned v∧R v w':=
 ai Tryz.func37 au aa ((DNew_eq m R w).mp h)
end
end Go.Proofs.YtfmcaoaaiganbaaGreatDoor
namespace Go.Proofs.YtfmcaoaaiganbaaGreatDoor
open Go.Proofs.Tryz (prog)
open Go Go.RowKit V
open Go.IntKind (i64 u32 u64)
section
set_option maxRecDepth 10000
set_option maxHeartbeats 1000000
theorem G6 {L:dM} {m:Mem} {w:World}(h:bV w L m)(hS:1≤m.S):
 Calls prog 37 #[(.pointer (some (Addr.mk L.g 0 none)))] w fun e w'=>∃v,e= .returned v∧∃g:Nat,∃a:Nat,v= .pointer (some (Addr.mk g 0 none))∧bV w' L (m.bx m.S)∧DBP w' ⟨g,a,L⟩ (DB.new m)∧(w.heap.size≤g∧w.heap.size≤a)∧Ch L.X w w':=by
 refine wJ (some (Addr.mk L.g 0 none)) ?_
 have hm:=h.most
 have hp:=Ch.refl L.X w
 have Ix:=h.lt
 refine gR ?_
 refine Calls.mono (xx h) ?_
 rintro e w9 ⟨_,rfl,rfl,e9⟩
 obtain rfl:=e9.symm
 refine⟨_,rfl,?_⟩
 refine⟨fun mz x8 W=>mz=(m.S - x8).toNat∧(0≤x8∧x8≤m.S)∧Ch L.X w W∧bV W L (m.bx x8.toNat),⟨_,rfl,(by omega),hp,by exact h⟩,?_⟩
 rintro _ _ x8 Hb ⟨rfl,h0,hp,h⟩
 refine aA (fun c1=>?_) (fun c1=>?_)
 ·refine Calls.mono (mO _) ?_
  rintro e He ⟨_,rfl,rfl,Hs⟩
  refine⟨_,_,rfl,?_⟩
  have h:=h.pu Hs
  refine Calls.mono (F9 h _ _) ?_
  rintro e Hf ⟨_,rfl,rfl,h,HL⟩
  refine⟨_,rfl,?_⟩
  have hp:=Ch.call (Ch.pu hp Hs) HL (by exact fun k hk=>.inl hk)
  exact⟨_,by rw [IntKind.wrap_i64];omega,rfl,by rw [IntKind.wrap_i64];omega,hp,by rw [Mem.mR _ (by omega)];exact h⟩
 ·have ML:=h.lt
  have RD:=hp
  have hx:x8.toNat=m.S:=by omega
  have Jo:=h.most.1
  have Oq:Int.toNat (i64.wrap (2*(((m.bx x8.toNat).S:Nat):Int)))=2*m.S:=by rw [Mem.gM,ah (by omega)];omega
  refine Calls.mono (xx h) ?_
  rintro e w9 ⟨_,rfl,rfl,e9⟩
  obtain rfl:=e9.symm
  refine⟨_,rfl,?_⟩
  refine AT Ei ((⟨0⟩:U32)) (by rfl) (n:=(i64.wrap (2*((m.bx x8.toNat).S)))) (by rw [ah (by omega)];omega) (by rw [ah (by omega)];omega) (by rw [ah (by omega)];omega) fun NA Hf Iw IL=>?_
  have lo_g_wv3:=Iw.lo hp
  refine mkd fun Hm Hl I0=>?_
  have Rv:=I0.blk
  have h:=(h.pu Iw.pu).pu I0.pu
  have hp:=Ch.made (Ch.made hp Iw) I0
  exact⟨Hm,NA,rfl,by rw [show(m.bx m.S)=(m.bx x8.toNat)from by rw [hx]];exact h,⟨⟨_,Blk.cast Rv (by rw [Oq];show _=_;simp only [DB.n2,DB.new,Mem.gM])⟩,⟨_,_,Made.old I0 Iw.blk,by rw [Array.size_replicate,Oq];show _=2*(m.bx m.S).S;rw [Mem.gM],fun p hp=>by have SE:p<m.S:=(by rwa [DB.sW]at hp);exact⟨w8 (by rw [Oq];omega),w8 (by rw [Oq];omega)⟩⟩,by show bV _ _ (m.bx m.S);rw [← hx];exact h,DB.qY m hS,by have:=I0.num;have:=Iw.lt;simp only [];omega,fun hh=>absurd (show Hm<Hb.heap.size from ML _ hh) (by have:=I0.num;have:=Iw.kept.size;omega),fun hh=>absurd (show NA<Hb.heap.size from ML _ hh) (by have:=Iw.num;omega)⟩,by have h1:=I0.num;have h2:=Iw.num;have h3:=Iw.kept.size;have h4:=RD.size;omega,hp⟩
theorem ET:S1 prog 197 3 (.int .i64 0) 8:=S1.of (by kernel_rfl) (by kernel_rfl) rfl
theorem EN:SN prog 197 3 (.int .i64 0) 1 8:=ET.sn
end
end Go.Proofs.YtfmcaoaaiganbaaGreatDoor
namespace Go.Proofs.YtfmcaoaaiganbaaGreatDoor
open Go.Proofs.Tryz (prog)
open Go Go.RowKit V
open Go.IntKind (i64 u32 u64)
section
set_option maxRecDepth 100000
def mn(d:Option Addr)(R:ax)(w:World):Prop:=
 ∀(gv:Nat)(wv:World),gv=w.heap.size→wv=w.alloc (.cells #[(.pointer d)] 54)→
 R (.func (.func 213) #[] #[(.pointer (some (Addr.mk gv 0 none)))]) wv
def ve:Ann:= .leaf
theorem DEntries_eq(d:Option Addr)(R:ax)(w:World):mn d R w=vcF prog aE [] Tryz.f176 ve [(.pointer d)] R none w:=by kernel_rfl
theorem oN(d:Option Addr) {R:ax} {w:World}(h:mn d R w):Calls prog 176 #[(.pointer d)] w fun e w'=>∃v,e= .returned v∧R v w':=
 ai Tryz.func176 au aa ((DEntries_eq d R w).mp h)
def jE(yield:Value)(cap0:Addr)(R:ax)(w:World):Prop:=
 ∃x4:Option Addr,w.cell? cap0=some (.pointer x4)∧
 Calls prog 70 #[(.pointer x4)] w fun e wv=>
 ∃x5:Int,e= .returned (.int .i64 x5)∧
 ∃I:Nat→Int→World→Prop,(∃m,I m 0 wv)∧∀(m:Nat)(Ic:Nat→Value)(x6:Int),∀Hb,I m x6 Hb→
 split (decide ((x6:Int)<x5)) (
  ∃H3:Option Addr,Hb.cell? cap0=some (.pointer H3)∧
  Calls prog 85 #[(.pointer H3),(.int .i64 x6)] Hb fun e He=>
  ∃Iv:Int,∃IG:Int,∃LF:Int,∃LD:Int,∃LC:Bool,e= .returned (.agg #[(.int .i64 Iv),(.int .i64 IG),(.int .i64 LF),(.int .i64 LD),(.bool LC)])∧
  Bs prog aE true yield #[(.int .i64 x6),(.agg #[(.int .i64 Iv),(.int .i64 IG),(.int .i64 LF),(.int .i64 LD),(.bool LC)])] He fun e Hf=>
  ∃H4:Bool,e= .returned (.bool H4)∧
  split (!H4) (
   R (.tuple #[]) Hf) (
   ∃m1,m1<m∧I m1 (i64.wrap (x6+1)) Hf)) (
  R (.tuple #[]) Hb)
def pw:Ann:=(.node none .leaf (.node none (.node (some ⟨[(6,.one (.int .i64))],[3,6,7,8,9,10,11,12,13,14,15,16]⟩) .leaf .leaf) .leaf))
theorem DEntries_1_eq(yield:Value)(cap0:Addr)(R:ax)(w:World):jE yield cap0 R w=vcF prog aE [] Tryz.f213 pw [yield,(.pointer (some cap0))] R none w:=by kernel_rfl
theorem lP(yield:Value)(cap0:Addr) {R:ax} {w:World}(h:jE yield cap0 R w):Calls prog 213 #[yield,(.pointer (some cap0))] w fun e w'=>∃v,e= .returned v∧R v w':=
 ai Tryz.func213 au aa ((DEntries_1_eq yield cap0 R w).mp h)
def qC(d:Option Addr)(space:Int)(R:ax)(w:World):Prop:=
 ∀(gv:Nat)(wv:World),gv=w.heap.size→wv=w.alloc (.cells #[(.int .i64 space)] 3)→
 ∃x9:Int,wv.cell? (Addr.mk gv 0 none)=some (.int .i64 x9)∧
 Calls prog 88 #[(.pointer d),(.int .i64 x9)] wv fun e Hb=>
 ∃HE:Bool,e= .returned (.bool HE)∧
 split (!HE) (
  R (.slice none 0 0) Hb) (
  ∀(Hm:Nat)(He:World),Hm=Hb.heap.size→He=Hb.alloc (.cells (#[(.slice none 0 0)]) 197)→
  Calls prog 176 #[(.pointer d)] He fun e Hf=>
  ∃x13:Value,e= .returned x13∧
  ∃(gf:Nat)(cap:Array Value),x13= .func (.func gf) #[] cap∧aE.elem gf=true∧
  ∀(l dl:Nat)(Hl:World),dl=Hf.heap.size→l=Hf.heap.size+1→Kept (fun k=>k<Hf.heap.size) Hf Hl→l<Hl.heap.size→Hl.heap[dl]? =some (.deferred (some []))→
  ∃(xs:List (List Value))(X:Nat→Prop)(D J Jr:Nat→World→Prop)(Je:Nat→Nat→World→Prop),
  Iter prog gf cap xs X D∧(∀k,X k→k<Hf.heap.size)∧(∀x∈xs,tw [.one (.int .i64),.agg [.int .i64,.int .i64,.int .i64,.int .i64,.bool]] fun vs=>x=vs)∧
  (uC X l J∧uC X l Jr∧∀id,uC X l (Je id))∧D 0 Hl∧J 0 Hl∧
  (∀(i:Nat)(A:World),J i A→D i A→∀(H4:Int)(Lz:Int)(JU:Int)(Qb:Int)(Qa:Int)(P9:Bool),xs[i]? =some [(.int .i64 H4),(.agg #[(.int .i64 Lz),(.int .i64 JU),(.int .i64 Qb),(.int .i64 Qa),(.bool P9)])]→
   ∀(IF:Nat)(ID:World),IF=A.heap.size→ID=A.alloc (.cells (#[(.int .i64 0),(.int .i64 0),(.int .i64 0),(.int .i64 0),(.bool false)]) 127)→
   aD ID (Addr.mk IF 0 none) [(.int .i64 Lz),(.int .i64 JU),(.int .i64 Qb),(.int .i64 Qa),(.bool P9)] fun IX=>
   Kept (fun k=>X k∨k=l) A IX∧∀HG,Kept (fun k=>k<IX.heap.size∧k≠l) IX HG→
   ∃J1:Bool→World→Prop,(
    ∃Iu:Int,HG.cell? (Addr.mk gv 0 none)=some (.int .i64 Iu)∧
    split ((H4:Int) !=Iu) (
     ∃IS:Int,HG.cell? ((Addr.mk IF 0 none).add 0)=some (.int .i64 IS)∧
     split ((IS:Int) !=0) (
      ∃Jl:Int,HG.cell? ((Addr.mk IF 0 none).add 1)=some (.int .i64 Jl)∧
      ∃M7:Int,HG.cell? (Addr.mk gv 0 none)=some (.int .i64 M7)∧
      J1 ((Jl:Int)==M7) HG) (
      J1 false HG)) (
     J1 false HG))∧∀(Kj:Nat→Value)(Lk:Bool),∀Ja,J1 Lk Ja→
   split Lk (
    ∃PH:Option Addr,∃PF:Nat,∃PG:Nat,Ja.cell? (Addr.mk Hm 0 none)=some (.slice PH PF PG)∧
    ∀(Tv:Nat)(K2:World),Tv=Ja.heap.size→K2=Ja.alloc (.cells #[(.int .i64 H4)] 3)→
    ∃Px:Option Addr,∃Pv:Nat,∃Pw:Nat,∃KT,(Builtin.append_ #[197,197] 197 #[(.slice PH PF PG),(.slice (some (Addr.mk Tv 0 none)) 1 1)]:Sem Value).run prog K2= .ok (.slice Px Pv Pw) KT∧
    aD KT (Addr.mk Hm 0 none) [(.slice Px Pv Pw)] fun MI=>
    Kept (fun k=>X k∨k=l) HG MI∧J (i+1) MI) (
    Kept (fun k=>X k∨k=l) HG Ja∧J (i+1) Ja))∧
  (∀W,J xs.length W→D xs.length W→
   ∃Mw:Option Addr,∃Lj:Nat,∃Mv:Nat,W.cell? (Addr.mk Hm 0 none)=some (.slice Mw Lj Mv)∧
   W.heap[dl]? =some (.deferred (some []))∧
   R (.slice Mw Lj Mv) (W.putObj dl (.deferred none)))∧
  (∀i W,Jr i W→D i W→
   W.heap[dl]? =some (.deferred (some []))∧
   R (.slice none 0 0) (W.putObj dl (.deferred none)))∧True)
def z3:Ann:=(.node none .leaf (.node none .leaf (.node none .leaf (.node none (.node none .leaf (.node none (.node (some ⟨[(14,.one (.int .i64)),(15,.agg [.int .i64,.int .i64,.int .i64,.int .i64,.bool])],[]⟩) .leaf (.node none (.node none (.node (some ⟨[(29,.one (.bool))],[16,17,18,19,20,21,22,23,24,25,26,27,28,29]⟩) .leaf .leaf) .leaf) .leaf)) .leaf)) .leaf))))
theorem DOwned_eq(d:Option Addr)(space:Int)(R:ax)(w:World):qC d space R w=vcF prog aE [] Tryz.f125 z3 [(.pointer d),(.int .i64 space)] R none w:=by kernel_rfl
theorem se(d:Option Addr)(space:Int) {R:ax} {w:World}(h:qC d space R w):Calls prog 125 #[(.pointer d),(.int .i64 space)] w fun e w'=>∃v,e= .returned v∧R v w':=
 ai Tryz.func125 au aa ((DOwned_eq d space R w).mp h)
end
end Go.Proofs.YtfmcaoaaiganbaaGreatDoor
namespace Go.Proofs.YtfmcaoaaiganbaaGreatDoor
open Go.Proofs.Tryz (prog)
open Go Go.RowKit V
open Go.IntKind (i64 u32 u64)
section
set_option maxRecDepth 10000
set_option maxHeartbeats 1000000
def DB.row(D:DB)(p:Nat):List Value:= [.int .i64 (p:Int),.agg #[.int .i64 (D.ent p).typ,.int .i64 (D.ent p).owner,.int .i64 (D.ent p).refs,.int .i64 (D.ent p).state,.bool (D.ent p).aM]]
def DB.rows(D:DB):List (List Value):=(List.range D.S).map D.row
theorem DB.nw(D:DB):D.rows.length=D.S:=by simp [DB.rows]
theorem DB.sy {D:DB} {i:Nat}(h:i<D.S):D.rows[i]? =some (D.row i):=by simp [DB.rows,h]
theorem DB.C7 {D:DB} {i:Nat} {x:List Value}(h:D.rows[i]? =some x):i<D.S∧x=D.row i:=by
 have:=(List.getElem?_eq_some_iff.1 h).1
 rw [DB.nw]at this
 rw [DB.sy this]at h
 exact⟨this,(Option.some.inj h).symm⟩
def eT.XI(L:eT)(g:Nat):Nat→Prop:=fun k=>L.X k∨k=g
theorem DBP.it {L:eT} {D:DB} {w A:World} {g:Nat}(h:DBP w L D)(k:Kept (L.XI g) w A):DBP A L D:=h.ch (Ch.Df k) fun _ hx hn=>hn (.inl hx)
theorem Bm {L:eT} {D:DB} {w:World}(h:DBP w L D):
 Calls prog 176 #[.pointer (some (Addr.mk L.g 0 none))] w fun e w'=>∃v,e= .returned v∧∃g T,v= .func (.func 213) #[] #[.pointer (some (Addr.mk g 0 none))]∧Blk w' g #[.pointer (some (Addr.mk L.g 0 none))] T∧w.heap.size≤g∧Pu w w':=by
 refine oN _ ?_
 refine mkd fun gv wv m=>?_
 exact⟨gv,_,rfl,m.blk,m.lo (Ch.refl (fun _=>False) w),m.pu⟩
theorem Gp {L:eT} {D:DB} {w:World} {g:Nat} {T:TypeId}(h:DBP w L D)(hg:Blk w g #[.pointer (some (Addr.mk L.g 0 none))] T):
 Iter prog 213 #[.pointer (some (Addr.mk g 0 none))] D.rows (L.XI g) (fun _ A=>Kept (L.XI g) w A):=by
 have Ho:∀k,L.XI g k→k<w.heap.size:=fun k hk=>hk.elim (h.lt k) (fun e=>e▸hg.lt)
 have Rr:=h.S64
 refine yJ Ho fun l J Jx W sJ sJx j0 d0 hy=>?_
 rw [DB.nw]
 have pJ:∀ {i A B},J i A→Pu A B→J i B:=fun a q=>sJ _ _ _ a (q.mono fun _ h=>h.elim)
 have fY:∀ {A B},Kept (L.XI g) w A→Pu A B→Kept (L.XI g) w B:=fun a q=>a.trans (q.fY fun k hk=>Nat.lt_of_lt_of_le (Ho k hk) a.size)
 have ld:∀ {A},Kept (L.XI g) w A→A.cell? (Addr.mk g 0 none)=some (.pointer (some (Addr.mk L.g 0 none))):=fun a=>by rw [a.cell (p:=Addr.mk g 0 none) (.inr rfl)];exact hg.at0 rfl
 refine Calls.mono (P:=prog) (lP (.func (.yield l) #[] #[]) (Addr.mk g 0 none) (R:=fun _ B=>(J D.S B∧Kept (L.XI g) w B)∨∃i,Jx i B∧Kept (L.XI g) w B) ?_) (fun e B hh=>by obtain⟨v,h1,h2⟩:=hh;exact⟨⟨v,h1⟩,h2⟩)
 refine⟨_,ld d0,Calls.mono (vR (h.it d0)) ?_⟩
 rintro e _ ⟨_,rfl,rfl,rfl⟩
 refine⟨_,rfl,?_⟩
 refine⟨fun mz x A=>0≤x∧x≤D.S∧mz=((D.S:Int) - x).toNat∧J x.toNat A∧Kept (L.XI g) w A,⟨_,by omega,by omega,rfl,j0,d0⟩,?_⟩
 rintro mz _ x A ⟨hx0,hx1,rfl,hj,hd⟩
 refine aA (fun c1=>?_) (fun c1=>?_)
 ·refine⟨_,ld hd,Calls.mono (dAt (h.it hd) _ (by simp [DB.has];omega)) ?_⟩
  rintro e A1 ⟨_,rfl,rfl,q1⟩
  refine⟨_,_,_,_,_,rfl,?_⟩
  have hyy:=hy x.toNat _ A1 (DB.sy (by omega)) (pJ hj q1) (fY hd q1)
  simp only [DB.row,show((x.toNat:Nat):Int)=x by omega]at hyy
  refine qF hyy ?_
  rintro e B (⟨rfl,SV,HM⟩ | ⟨rfl,SV,HM⟩)
  ·refine⟨_,rfl,gR ?_⟩
   refine⟨_,?_,by rw [IntKind.wrap_i64];omega,by rw [IntKind.wrap_i64];omega,rfl,?_,(fY hd q1).trans HM⟩
   ·rw [IntKind.wrap_i64];omega
   ·rw [ah (by omega),show(x+1).toNat=x.toNat+1 by omega];exact SV
  ·exact⟨_,rfl,jd (.inr ⟨_,SV,(fY hd q1).trans HM⟩)⟩
 ·exact .inl ⟨by rw [show D.S=x.toNat by omega];exact hj,hd⟩
theorem Fw {L:eT} {D:DB} {w:World}(h:DBP w L D)(space:Int):
 Calls prog 125 #[.pointer (some (Addr.mk L.g 0 none)),.int .i64 space] w fun e w'=>∃v,e= .returned v∧∃Z':Nat→Prop,∃A':Option Addr,∃N' C':Nat,v= .slice A' N' C'∧Own w' Z' 3 A' N' C' (if D.di space then D.cy space D.S else [])∧(∀k,Z' k→w.heap.size≤k)∧Pu w w':=by
 refine se _ _ ?_
 have Rr:=h.S64
 refine mkd fun gv wv m=>?_
 refine⟨_,m.blk.at0 rfl,Calls.mono (tG (h.pu m.pu) _) ?_⟩
 rintro e Hb ⟨_,rfl,rfl,q1⟩
 refine⟨_,rfl,?_⟩
 have b0:=q1.blk m.blk
 have lg:=m.lo (Ch.refl (fun _=>False) w)
 have p1:Pu w Hb:=Ch.pu m.pu q1
 refine br (fun c1=>?_) (fun c1=>?_)
 ·exact⟨fun _=>False,_,_,_,rfl,by rw [if_neg (by simp [c1])];exact Own.nil,fun k hk=>hk.elim,p1⟩
 refine mkd fun Hm He m1=>?_
 have b0:=m1.old b0
 have ne:=m1.ne (q1.blk m.blk)
 have p2:Pu w He:=Ch.pu p1 m1.pu
 have lg1:=m1.lo p1
 refine Calls.mono (Bm (h.pu p2)) ?_
 rintro e Hf ⟨_,rfl,g,T,rfl,bg,lgg,q3⟩
 refine⟨_,rfl,_,_,rfl,by kernel_rfl,?_⟩
 intro l dl Hl hdl hl k4 SP hdo
 have b0:=q3.blk b0
 have b1:=q3.blk m1.blk
 have q4:Pu Hf Hl:=⟨k4.mono fun _ h=>h.1⟩
 have p3:Pu w Hf:=Ch.pu p2 q3
 have p4:Pu w Hl:=Ch.pu p3 q4
 have h4:=h.pu p4
 have bg4:=q4.blk bg
 have glt:=bg.lt
 have g1lt:=(q3.blk m1.blk).lt
 have g0lt:=b0.lt
 have K0:∀k,L.XI g k→k<Hf.heap.size:=fun k hk=>hk.elim ((h.pu p3).lt k) (fun e=>e▸glt)
 have nX0:¬L.XI g gv:=fun hx=>hx.elim (fun hx=>absurd (h.lt _ hx) (by omega)) (fun e=>by have:=m1.old (q1.blk m.blk) |>.lt;omega)
 have nX1:¬L.XI g Hm:=fun hx=>hx.elim (fun hx=>absurd (h.lt _ hx) (by omega)) (fun e=>by have:=m1.lt;omega)
 have ML:=p3.size
 let Zn:Nat→Prop:=fun k=>Hl.heap.size≤k
 let J:Nat→World→Prop:=fun i A=>Ch (L.XI g) w A∧Blk A gv #[.int .i64 space] 3∧(∃ad n c T,Blk A Hm #[.slice ad n c] T∧Own A Zn 3 ad n c (D.cy space i))∧A.heap[dl]? =some (.deferred (some []))∧Hl.heap.size≤A.heap.size
 have sJ:uC (L.XI g) l J:=C0 fun i A B hj q=>by
  obtain⟨a1,a2,⟨ad,n,c,T2,a3,a4⟩,a5,a6⟩:=hj
  refine⟨a1.call q fun k hk=>hk.elim .inl (fun e=>.inr (by omega)),q.blk a2 (fun hx=>hx.elim nX0 (by omega)),⟨ad,n,c,T2,q.blk a3 (fun hx=>hx.elim nX1 (by omega)),a4.ch q fun k hk hx=>?_⟩,q.obj a5 (fun hx=>hx.elim (fun hx=>absurd (K0 _ hx) (by omega)) (by omega)),Nat.le_trans a6 q.size⟩
  have hk:Hl.heap.size≤k:=hk
  exact hx.elim (fun hx=>absurd (K0 _ hx) (by have:=k4.size;omega)) (by omega)
 refine⟨D.rows,L.XI g,_,J,fun _ _=>False,fun _ _ _=>False,Gp h4 bg4,K0,?_,⟨sJ,fun _ _ _ h _=>h,fun _ _ _ _ h _=>h⟩,Kept.refl _ _,?_,?_,?_,fun _ _ h _=>h.elim,trivial⟩
 ·intro x hx
  obtain⟨i,hi,rfl⟩:=List.mem_map.1 hx
  exact⟨_,_,_,_,_,_,rfl⟩
 ·exact⟨p4.mono fun _ h=>h.elim,q4.blk b0,⟨_,_,_,_,q4.blk b1,by exact Own.nil⟩,hdo,Nat.le_refl _⟩
 ·rintro i A ⟨a1,a2,⟨ad,n,c,T2,a3,a4⟩,a5,a6⟩ hd H4 xa xb xc xd xe hx
  obtain⟨hi,hx⟩:=DB.C7 hx
  simp only [DB.row,List.cons.injEq,Value.int.injEq,Value.agg.injEq,Value.bool.injEq,Array.mk.injEq,and_true,true_and]at hx
  obtain⟨rfl,rfl,rfl,rfl,rfl,rfl⟩:=hx
  refine mkd fun IF ID m6=>?_
  refine bq m6.blk (by simp) fun IX s7=>?_
  have q6:Pu A IX:=(show Pu A ID from m6.pu).stored s7 (.inr (m6.lo (Ch.refl (fun _=>False) A)))
  have Hv:∀k,L.XI g k∨k=l→k<A.heap.size:=fun k hk=>hk.elim (fun hx=>by have:=K0 _ hx;have:=k4.size;omega) (by omega)
  refine⟨q6.fY Hv,fun HG k5=>?_⟩
  have b2:Blk IX IF #[.int .i64 (D.ent i).typ,.int .i64 (D.ent i).owner,.int .i64 (D.ent i).refs,.int .i64 (D.ent i).state,.bool (D.ent i).aM] _:=s7.blk
  have q5:Ch (fun k=>k=l) IX HG:=⟨k5⟩
  have n2:=m6.num
  have b2:=q5.blk b2 (by omega)
  have qa:Ch (fun k=>k=l) A HG:=(q6.mono fun _ h=>h.elim).trans q5
  have b0:=qa.blk a2 (by omega)
  refine⟨fun b B=>b=D.dZ space i∧B=HG,?_,?_⟩
  ·refine⟨_,b0.at0 rfl,aX (fun c2=>?_) (fun c2=>⟨by simp [DB.dZ,c2],rfl⟩)⟩
   refine⟨_,b2.at rfl,aX (fun c3=>?_) (fun c3=>⟨by simp [DB.dZ,c3],rfl⟩)⟩
   exact⟨_,b2.at rfl,_,b0.at0 rfl,by simp [DB.dZ,c2,c3],rfl⟩
  rintro _ b B ⟨rfl,rfl⟩
  have e1:D.cy space (i+1)=if D.dZ space i then D.cy space i++ [I64.mk i]else D.cy space i:=by
   have:=D.sO space (p:=(i:Int)) (by omega)
   rwa [ah (by omega),show((i:Int)+1).toNat=i+1 by omega,show((i:Nat):Int).toNat=i by omega]at this
  have hj5:Ch (L.XI g) w B∧Blk B gv #[.int .i64 space] 3∧(∃T,Blk B Hm #[.slice ad n c] T)∧Own B Zn 3 ad n c (D.cy space i)∧B.heap[dl]? =some (.deferred (some []))∧Hl.heap.size≤B.heap.size:=
   ⟨a1.call qa fun k e=>.inr (by omega),b0,⟨_,qa.blk a3 (by omega)⟩,a4.ch qa (fun k (hk:Hl.heap.size≤k) e=>by omega),qa.obj a5 (by omega),Nat.le_trans a6 qa.size⟩
  obtain⟨c1,c2,⟨T3,c3⟩,c4,c5,c6⟩:=hj5
  cases hb:D.dZ space i
  ·refine gR ⟨Kept.refl _ _,c1,c2,⟨_,_,_,_,c3,by rw [e1,hb];exact c4⟩,c5,c6⟩
  ·refine jd ?_
   refine⟨_,_,_,c3.at0 rfl,?_⟩
   refine mkd fun Tv K2 m9=>?_
   have hlen:=(c4.pu m9.pu).len
   have hol:=D.vA space i
   refine(c4.pu m9.pu).app EN m9.blk (x:=I64.mk i) (by rfl) (by omega) (by omega) (by exact Nat.le_trans c6 m9.pu.size) (fun A9 c9 KT o9 q9=>?_)
   have c3:=q9.blk (m9.old c3) (fun hx=>absurd c3.lt (by have hx:Hl.heap.size≤Hm:=hx;omega))
   refine bq c3 (by simp) fun MI JN=>?_
   have hZ1:∀k,Zn k→k≠Hm:=fun k (hk:Hl.heap.size≤k) e=>by omega
   have Qo:Ch (fun k=>Hl.heap.size≤k∨k=Hm) B MI:=((show Ch _ B K2 from m9.pu.mono fun _ h=>h.elim).call q9 fun k hk=>.inl (.inl hk)).call JN.ch fun k e=>.inl (.inr e)
   refine⟨Qo.kept.mono fun k hk=>⟨hk.elim (fun hx=>by have:=K0 _ hx;have:=k4.size;omega) (by omega),fun h=>hk.elim (fun hx=>h.elim (fun h=>absurd (K0 _ hx) (by have:=k4.size;omega)) (fun e=>nX1 (e▸hx))) (fun e=>h.elim (by omega) (by omega))⟩,?_⟩
   refine⟨c1.call Qo fun k hk=>.inr (hk.elim (fun h=>Nat.le_trans p4.size h) (fun e=>by omega)),Qo.blk c2 (fun h=>h.elim (by omega) (fun e=>ne e)),⟨_,_,_,_,JN.blk,by rw [e1,hb];exact o9.ch JN.ch fun k hk e=>hZ1 k hk e⟩,Qo.obj c5 (fun h=>h.elim (by omega) (by omega)),Nat.le_trans c6 Qo.size⟩
 ·rintro W ⟨a1,a2,⟨ad,n,c,T2,a3,a4⟩,a5,a6⟩ hd
  refine⟨_,_,_,a3.at0 rfl,a5,Zn,_,_,_,rfl,?_,fun k (hk:Hl.heap.size≤k)=>Nat.le_trans p4.size hk,?_⟩
  ·rw [if_pos c1]
   rw [DB.nw]at a4
   exact a4.ch (Pu.put W dl _ (fun k=>k=dl) rfl) fun k (hk:Hl.heap.size≤k) e=>by omega
  ·exact(Pu.join p4 hd a1).call (Pu.put W dl _ (fun k=>k=dl) rfl) fun k e=>.inr (by omega)
end
end Go.Proofs.YtfmcaoaaiganbaaGreatDoor
namespace Go.Proofs.YtfmcaoaaiganbaaGreatDoor
open Go.Proofs.Tryz (prog)
open Go Go.RowKit V
open Go.IntKind (i64 u32 u64)
section
set_option maxRecDepth 100000
set_option maxHeartbeats 1000000
attribute [local irreducible] Vc2 VcD
attribute [local grind=] Pd.bN Pd.bt Pd.fX Pd.gu Pd.ep Pd.du Pd.dG Pd.dX Pd.jt
attribute [local grind .] Pd.Ok.ent
attribute [local grind→] Pd.Ok.most
def wu:Ctr Un:=⟨[.one (.obj 0 0),.agg [.bool,.int .i64]],[],[.ob 0 []],[],fun fa fb rm m K=>K ⟨(.bool (m.has fa fb)),none,[],[],[]⟩⟩
theorem FM:LV Un prog 183 wu:=by
 show ∀(fa:Bool)(fb:Int)(rm:Nat→Nat)(m:Mem),∀Q:Ou Un→Prop,(Q ⟨(.bool (m.has fa fb)),none,[],[],[]⟩)→∀(X:Nat→Nat→Prop)(w:World),Sat (U:=Un) [(.ob 0 rm m)] X w→ar (U:=Un) [(.ob 0 rm m)] fr0 []→Calls prog 183 #[(.pointer (some (Addr.mk (rm 0) 0 none))),(.agg #[(.bool fa),(.int .i64 fb)])] w (bd (U:=Un) [(.ob 0 rm m)] [] X w Q)
 intro fa fb rm m Q hQ X w hs hl
 obtain⟨L,hg,hM,hX⟩:=pX hs
 rw [hg]
 refine(GY hM fa fb).mono ?_
 rintro e w' ⟨u,rfl,rfl,q⟩
 exact bd.pu hs q hQ trivial
def kS:Ctr Un:=⟨[.one (.obj 0 0),.agg [.bool,.int .i64],.one (.int .i64)],[],[.ob 0 []],[],fun fa fb off rm m K=>K ⟨(.int .u32 (m.ba fa fb off)),none,[],[],[]⟩⟩
theorem xV:LV Un prog 26 kS:=by
 show ∀(fa:Bool)(fb:Int)(off:Int)(rm:Nat→Nat)(m:Mem),∀Q:Ou Un→Prop,(Q ⟨(.int .u32 (m.ba fa fb off)),none,[],[],[]⟩)→∀(X:Nat→Nat→Prop)(w:World),Sat (U:=Un) [(.ob 0 rm m)] X w→ar (U:=Un) [(.ob 0 rm m)] fr0 []→Calls prog 26 #[(.pointer (some (Addr.mk (rm 0) 0 none))),(.agg #[(.bool fa),(.int .i64 fb)]),(.int .i64 off)] w (bd (U:=Un) [(.ob 0 rm m)] [] X w Q)
 intro fa fb off rm m Q hQ X w hs hl
 obtain⟨L,hg,hM,hX⟩:=pX hs
 rw [hg]
 refine(Ga hM fa fb off).mono ?_
 rintro e w' ⟨u,rfl,rfl,q⟩
 exact bd.pu hs q hQ trivial
def fx:Ctr Un:=⟨[.one (.obj 0 0),.agg [.bool,.int .i64],.one (.int .i64),.one (.int .u32)],[],[.ob 0 []],[0],fun fa fb off v rm m K=>(0≤(v:Int)∧(v:Int)<4294967296)∧K ⟨(.int .i64 (m.err fa fb off)),none,[.ob 0 (m.write fa fb off v)],[],[]⟩⟩
theorem oH:LV Un prog 22 fx:=by
 show ∀(fa:Bool)(fb:Int)(off:Int)(v:Int)(rm:Nat→Nat)(m:Mem),∀Q:Ou Un→Prop,((0≤(v:Int)∧(v:Int)<4294967296)∧Q ⟨(.int .i64 (m.err fa fb off)),none,[.ob 0 (m.write fa fb off v)],[],[]⟩)→∀(X:Nat→Nat→Prop)(w:World),Sat (U:=Un) [(.ob 0 rm m)] X w→ar (U:=Un) [(.ob 0 rm m)] fr0 []→Calls prog 22 #[(.pointer (some (Addr.mk (rm 0) 0 none))),(.agg #[(.bool fa),(.int .i64 fb)]),(.int .i64 off),(.int .u32 v)] w (bd (U:=Un) [(.ob 0 rm m)] [0] X w Q)
 intro fa fb off v rm m Q hQ X w hs hl
 obtain⟨Hw,hQ⟩:=hQ
 obtain⟨L,hg,hM,hX⟩:=pX hs
 rw [hg]
 refine(AU hM fa fb off v Hw).mono ?_
 rintro e w' ⟨u,rfl,rfl,h2,q⟩
 exact bd.one (Z:=X 0) (q.mono fun k hk=>(hX k).1 hk) (show dB 0 rm _ (X 0) w' from⟨L,hg,hX,h2⟩) (fun k hk=>.inl hk) hQ trivial
theorem E4 {r rm:Nat→Nat} {E:Pd} {m:Mem}(hl:ar (U:=Un) [.ob 1 r E,.ob 0 rm m] fr0 [(.l 0 1,.p (.obj 1 0 0))]):r 1=rm 0:=by
 obtain⟨t',r',s',QQ,hk⟩:=hl _ _ (List.mem_singleton.2 rfl)
 simp only [nth,Option.some.injEq,Res.ob.injEq]at QQ
 obtain⟨rfl,rfl,_⟩:=QQ
 have hk:some (Value.pointer (some ⟨rm 0,0,none⟩))=some (Value.pointer (some ⟨r 1,0,none⟩)):=hk
 simp only [Option.some.injEq,Value.pointer.injEq,Addr.mk.injEq]at hk
 exact hk.1.symm
def jY:Ctr Un:=⟨[.one (.obj 0 0)],[],[.ob 1 [(1,1,0)],.ob 0 []],[],fun r E rm m K=>K ⟨(.pointer (some (Addr.mk (r 1) 0 none))),(some (.p (.obj 1 0 0))),[],[],[]⟩⟩
def wM(r:Nat→Nat)(E:Pd)(rm:Nat→Nat)(m:Mem)(Q:Ou Un→Prop):Prop:=
 Pd.Ok E→
 Mem.Wf m→
 Q ⟨(.pointer (some (Addr.mk (r 1) 0 none))),(some (.p (.obj 1 0 0))),[],[],[]⟩
theorem wO:Vc2 Un prog (aN []) [] Tryz.f32 .leaf [] jY=(∀r (E:Pd) rm (m:Mem),∀Q,(jY.body r E rm m Q)→wM r E rm m Q):=by kernel_rfl
theorem wL:LV Un prog 32 jY:=verify Tryz.func32 aa (tb:= []) trivial (by kernel_rfl) (wO.mpr fun r E rm m Q h f1 f2=>h)
def cl:Ctr Un:=⟨[.one (.obj 0 0)],[],[.ob 1 [(1,1,0)],.ob 0 []],[],fun r E rm m K=>K ⟨(.pointer (some (Addr.mk (rm 0) 0 none))),(some (.p (.obj 1 0 0))),[],[],[]⟩⟩
theorem gK:LV Un prog 32 cl:=by
 show ∀(r:Nat→Nat)(E:Pd)(rm:Nat→Nat)(m:Mem),∀Q:Ou Un→Prop,(Q ⟨(.pointer (some (Addr.mk (rm 0) 0 none))),(some (.p (.obj 1 0 0))),[],[],[]⟩)→∀(X:Nat→Nat→Prop)(w:World),Sat (U:=Un) [(.ob 1 r E),(.ob 0 rm m)] X w→ar (U:=Un) [(.ob 1 r E),(.ob 0 rm m)] fr0 [(.l 0 1,.p (.obj 1 0 0))]→Calls prog 32 #[(.pointer (some (Addr.mk (r 0) 0 none)))] w (bd (U:=Un) [(.ob 1 r E),(.ob 0 rm m)] [] X w Q)
 intro r E rm m Q hQ X w hs hl
 exact wL r E rm m Q (show Q ⟨.pointer (some (Addr.mk (r 1) 0 none)),some (.p (.obj 1 0 0)),[],[],[]⟩from(by rw [E4 hl];exact hQ)) X w hs hl
def gL:Ctr Un:=⟨[.one (.obj 0 0)],[],[.ob 1 []],[],fun r E K=>K ⟨(.int .i64 E.aq),none,[],[],[]⟩⟩
def z6(r:Nat→Nat)(E:Pd)(Q:Ou Un→Prop):Prop:=
 Pd.Ok E→
 Q ⟨(.int .i64 (Pd.aq E)),none,[],[],[]⟩
theorem z7:Vc2 Un prog (aN []) [] Tryz.f72 .leaf [] gL=(∀r (E:Pd),∀Q,(gL.body r E Q)→z6 r E Q):=by kernel_rfl
theorem z5:LV Un prog 72 gL:=verify Tryz.func72 aa (tb:= []) trivial (by kernel_rfl) (z7.mpr fun r E Q h f1=>dN h (by omega))
def ja:Ctr Un:=⟨[.one (.obj 0 0)],[],[.ob 1 [(1,1,0)],.ob 0 []],[],fun r E rm m K=>E.n=m.S∧K ⟨(.int .i64 ((E.on m).S:Int)),none,[],[],[]⟩⟩
theorem vc:LV Un prog 70 ja:=by
 show ∀(r:Nat→Nat)(E:Pd)(rm:Nat→Nat)(m:Mem),∀Q:Ou Un→Prop,(E.n=m.S∧Q ⟨(.int .i64 ((E.on m).S:Int)),none,[],[],[]⟩)→∀(X:Nat→Nat→Prop)(w:World),Sat (U:=Un) [(.ob 1 r E),(.ob 0 rm m)] X w→ar (U:=Un) [(.ob 1 r E),(.ob 0 rm m)] fr0 [(.l 0 1,.p (.obj 1 0 0))]→Calls prog 70 #[(.pointer (some (Addr.mk (r 0) 0 none)))] w (bd (U:=Un) [(.ob 1 r E),(.ob 0 rm m)] [] X w Q)
 intro r E rm m Q hQ X w hs hl
 obtain⟨hn,hQ⟩:=hQ
 obtain⟨a,L,hg,hr,hD,La,Me⟩:=yC hs hl hn
 refine(vR hD).mono ?_
 rintro e w' ⟨u,rfl,rfl,rfl⟩
 exact bd.pu hs (Ch.refl _ _) hQ trivial
def dK:Ctr Un:=⟨[.one (.obj 0 0),.one (.int .i64)],[],[.ob 1 [(1,1,0)],.ob 0 []],[],fun p r E rm m K=>E.n=m.S∧K ⟨(.tuple #[(.agg #[(.int .i64 (((E.on m).entry p).typ)),(.int .i64 (((E.on m).entry p).owner)),(.int .i64 (((E.on m).entry p).refs)),(.int .i64 (((E.on m).entry p).state)),(.bool (((E.on m).entry p).aM))]),(.int .i64 ((E.on m).aU p))]),(some (.t [none,none])),[],[],[]⟩⟩
theorem kZ:LV Un prog 71 dK:=by
 show ∀(p:Int)(r:Nat→Nat)(E:Pd)(rm:Nat→Nat)(m:Mem),∀Q:Ou Un→Prop,(E.n=m.S∧Q ⟨(.tuple #[(.agg #[(.int .i64 (((E.on m).entry p).typ)),(.int .i64 (((E.on m).entry p).owner)),(.int .i64 (((E.on m).entry p).refs)),(.int .i64 (((E.on m).entry p).state)),(.bool (((E.on m).entry p).aM))]),(.int .i64 ((E.on m).aU p))]),(some (.t [none,none])),[],[],[]⟩)→∀(X:Nat→Nat→Prop)(w:World),Sat (U:=Un) [(.ob 1 r E),(.ob 0 rm m)] X w→ar (U:=Un) [(.ob 1 r E),(.ob 0 rm m)] fr0 [(.l 0 1,.p (.obj 1 0 0))]→Calls prog 71 #[(.pointer (some (Addr.mk (r 0) 0 none))),(.int .i64 p)] w (bd (U:=Un) [(.ob 1 r E),(.ob 0 rm m)] [] X w Q)
 intro p r E rm m Q hQ X w hs hl
 obtain⟨hn,hQ⟩:=hQ
 obtain⟨a,L,hg,hr,hD,La,Me⟩:=yC hs hl hn
 refine(Fx hD p).mono ?_
 rintro e w' ⟨u,rfl,rfl,q⟩
 exact bd.pu hs q hQ (KnO.tup _ (by simp))
def hH:Ctr Un:=⟨[.one (.obj 0 0),.one (.int .i64),.one (.int .i64)],[],[.ob 1 [(1,1,0)],.ob 0 []],[0,1],fun p q r E rm m K=>E.n=m.S∧K ⟨(.int .i64 ((E.on m).aI p q)),none,[.ob 1 (((E.on m).aw p q).pd),.ob 0 (((E.on m).aw p q).mem)],[],[]⟩⟩
theorem sa:LV Un prog 40 hH:=by
 show ∀(p:Int)(q:Int)(r:Nat→Nat)(E:Pd)(rm:Nat→Nat)(m:Mem),∀Q:Ou Un→Prop,(E.n=m.S∧Q ⟨(.int .i64 ((E.on m).aI p q)),none,[.ob 1 (((E.on m).aw p q).pd),.ob 0 (((E.on m).aw p q).mem)],[],[]⟩)→∀(X:Nat→Nat→Prop)(w:World),Sat (U:=Un) [(.ob 1 r E),(.ob 0 rm m)] X w→ar (U:=Un) [(.ob 1 r E),(.ob 0 rm m)] fr0 [(.l 0 1,.p (.obj 1 0 0))]→Calls prog 40 #[(.pointer (some (Addr.mk (r 0) 0 none))),(.int .i64 p),(.int .i64 q)] w (bd (U:=Un) [(.ob 1 r E),(.ob 0 rm m)] [0,1] X w Q)
 intro p q r E rm m Q hQ X w hs hl
 obtain⟨hn,hQ⟩:=hQ
 obtain⟨a,L,hg,hr,hD,La,Me⟩:=yC hs hl hn
 refine(vQ hD p q).mono ?_
 rintro e w' ⟨u,rfl,rfl,h2,q⟩
 exact AE hs La Me hg hr h2 q hQ trivial
def r9:Ctr Un:=⟨[.one (.obj 0 0),.one (.int .i64),.one (.int .i64),.one (.int .i64)],[],[.ob 1 [(1,1,0)],.ob 0 []],[0,1],fun p t o r E rm m K=>E.n=m.S∧K ⟨(.int .i64 ((E.on m).bJ p t o)),none,[.ob 1 (((E.on m).take p t o).pd),.ob 0 (((E.on m).take p t o).mem)],[],[]⟩⟩
theorem Eb:LV Un prog 42 r9:=by
 show ∀(p:Int)(t:Int)(o:Int)(r:Nat→Nat)(E:Pd)(rm:Nat→Nat)(m:Mem),∀Q:Ou Un→Prop,(E.n=m.S∧Q ⟨(.int .i64 ((E.on m).bJ p t o)),none,[.ob 1 (((E.on m).take p t o).pd),.ob 0 (((E.on m).take p t o).mem)],[],[]⟩)→∀(X:Nat→Nat→Prop)(w:World),Sat (U:=Un) [(.ob 1 r E),(.ob 0 rm m)] X w→ar (U:=Un) [(.ob 1 r E),(.ob 0 rm m)] fr0 [(.l 0 1,.p (.obj 1 0 0))]→Calls prog 42 #[(.pointer (some (Addr.mk (r 0) 0 none))),(.int .i64 p),(.int .i64 t),(.int .i64 o)] w (bd (U:=Un) [(.ob 1 r E),(.ob 0 rm m)] [0,1] X w Q)
 intro p t o r E rm m Q hQ X w hs hl
 obtain⟨hn,hQ⟩:=hQ
 obtain⟨a,L,hg,hr,hD,La,Me⟩:=yC hs hl hn
 refine(Gm hD p t o).mono ?_
 rintro e w' ⟨u,rfl,rfl,h2,q⟩
 exact AE hs La Me hg hr h2 q hQ trivial
def iZ:Ctr Un:=⟨[.one (.obj 0 0),.one (.int .i64),.one (.int .i64)],[],[.ob 1 [(1,1,0)],.ob 0 []],[0,1],fun p t r E rm m K=>E.n=m.S∧K ⟨(.int .i64 ((E.on m).aT p t)),none,[.ob 1 (((E.on m).setState p t).pd),.ob 0 (((E.on m).setState p t).mem)],[],[]⟩⟩
theorem u7:LV Un prog 48 iZ:=by
 show ∀(p:Int)(t:Int)(r:Nat→Nat)(E:Pd)(rm:Nat→Nat)(m:Mem),∀Q:Ou Un→Prop,(E.n=m.S∧Q ⟨(.int .i64 ((E.on m).aT p t)),none,[.ob 1 (((E.on m).setState p t).pd),.ob 0 (((E.on m).setState p t).mem)],[],[]⟩)→∀(X:Nat→Nat→Prop)(w:World),Sat (U:=Un) [(.ob 1 r E),(.ob 0 rm m)] X w→ar (U:=Un) [(.ob 1 r E),(.ob 0 rm m)] fr0 [(.l 0 1,.p (.obj 1 0 0))]→Calls prog 48 #[(.pointer (some (Addr.mk (r 0) 0 none))),(.int .i64 p),(.int .i64 t)] w (bd (U:=Un) [(.ob 1 r E),(.ob 0 rm m)] [0,1] X w Q)
 intro p t r E rm m Q hQ X w hs hl
 obtain⟨hn,hQ⟩:=hQ
 obtain⟨a,L,hg,hr,hD,La,Me⟩:=yC hs hl hn
 refine(yR hD p t).mono ?_
 rintro e w' ⟨u,rfl,rfl,h2,q⟩
 exact AE hs La Me hg hr h2 q hQ trivial
def oL:Ctr Un:=⟨[.one (.obj 0 0),.one (.int .i64)],[],[.ob 1 [(1,1,0)],.ob 0 []],[],fun s r E rm m K=>E.n=m.S∧∀(A:Option Addr)(c:Nat),K ⟨(.slice A ((own (E.on m) s).length) c),(some (.p (.sl 2 0))),[],[(.lst 0 true 3 A c (own (E.on m) s))],[]⟩⟩
theorem CM:LV Un prog 125 oL:=by
 show ∀(s:Int)(r:Nat→Nat)(E:Pd)(rm:Nat→Nat)(m:Mem),∀Q:Ou Un→Prop,(E.n=m.S∧∀(A:Option Addr)(c:Nat),Q ⟨(.slice A ((own (E.on m) s).length) c),(some (.p (.sl 2 0))),[],[(.lst 0 true 3 A c (own (E.on m) s))],[]⟩)→∀(X:Nat→Nat→Prop)(w:World),Sat (U:=Un) [(.ob 1 r E),(.ob 0 rm m)] X w→ar (U:=Un) [(.ob 1 r E),(.ob 0 rm m)] fr0 [(.l 0 1,.p (.obj 1 0 0))]→Calls prog 125 #[(.pointer (some (Addr.mk (r 0) 0 none))),(.int .i64 s)] w (bd (U:=Un) [(.ob 1 r E),(.ob 0 rm m)] [] X w Q)
 intro s r E rm m Q hQ X w hs hl
 obtain⟨hn,hQ⟩:=hQ
 obtain⟨a,L,hg,hr,hD,La,Me⟩:=yC hs hl hn
 refine(Fw hD s).mono ?_
 rintro e w' ⟨u,rfl,Z',A',N',C',rfl,ho,hz,q⟩
 have JX:=ho.len
 subst JX
 exact bd.more hs q (E6 (U:=Un) (t:=0) ho) (fun k hk=>hz k hk.1) (hQ _ _) rfl
def rJ:Ctr Un:=⟨[.one (.sl 0)],[],[.lst 1 false 23],[],fun A c l K=>((∀x∈l,0≤x.v∧x.v<4294967296))∧∀(dp:Value),K ⟨(.tuple #[dp,(.int .i64 (Dg.bu l))]),(some (.t [none,none])),[],[],[]⟩⟩
theorem DW:LV Un prog 177 rJ:=by
 show ∀(A:Option Addr)(c:Nat)(l:List U32),∀Q:Ou Un→Prop,(((∀x∈l,0≤x.v∧x.v<4294967296))∧∀(dp:Value),Q ⟨(.tuple #[dp,(.int .i64 (Dg.bu l))]),(some (.t [none,none])),[],[],[]⟩)→∀(X:Nat→Nat→Prop)(w:World),Sat (U:=Un) [(.lst 1 false 23 A c l)] X w→ar (U:=Un) [(.lst 1 false 23 A c l)] fr0 []→Calls prog 177 #[(.slice A l.length c)] w (bd (U:=Un) [(.lst 1 false 23 A c l)] [] X w Q)
 intro A c l Q hQ X w hs hl
 obtain⟨hw,hQ⟩:=hQ
 have hr:Rd w (X 0) A l.length c l:=hs.res 0 _ rfl
 refine(F0 hr hw).mono ?_
 rintro e w' ⟨u,rfl,p,rfl,_,q⟩
 exact bd.pu hs q (hQ _) (KnO.tup _ (by simp))
end
section
set_option maxRecDepth 100000
set_option maxHeartbeats 1000000
attribute [local irreducible] Vc2 VcD
attribute [local grind=] Pd.bN Pd.bt Pd.fX Pd.gu Pd.ep Pd.du Pd.dG Pd.dX Pd.jt Pd.oS
attribute [local grind .] Pd.Ok.ent
attribute [local grind→] Pd.Ok.most
def kK:Ctr Un:=⟨[.one (.obj 0 0)],[],[.ob 1 [(1,1,0)],.ob 0 []],[],fun r E rm m K=>E.n=m.S∧∀(g:Nat)(A:Option Addr)(c:Nat),K ⟨(.pointer (some (Addr.mk g 0 none))),(some (.p (.loc 2 0))),[],[(.blk g [(.pointer (some (Addr.mk (r 0) 0 none))),(.slice A E.aj.length c)] 136),(.lst 4 true 127 A c E.aj)],[(.c 2 0,.p (.obj 0 0 0)),(.c 2 1,.p (.sl 3 0))]⟩⟩
def DQ(r:Nat→Nat)(E:Pd)(rm:Nat→Nat)(m:Mem)(Q:Ou Un→Prop):Prop:=
 Pd.Ok E→
 Mem.Wf m→
 (some (.pointer (some (Addr.mk (r 0) 0 none))):Option Value)=some (.pointer (some (Addr.mk (r 0) 0 none)))∧
 ∀(gv:Nat),
 E.n=m.S∧
 ∃I:Nat→Int→Option Addr→Nat→List Ent→Prop,(∃m1,I m1 0 none 0 ([]:List Ent))∧∀(m1:Nat)(Hn:Nat→Value)(HU:Int)(A3:Option Addr)(c3:Nat)(l3:List Ent),I m1 HU A3 c3 l3→
 split (decide (HU<(E.on m).S)) (
  E.n=m.S∧
  ∀(IF:Nat),
  ∀(Jc:Nat),
  ∀(l:List Ent),l=([Ent.mk (((E.on m).entry HU).typ) (((E.on m).entry HU).owner) (((E.on m).entry HU).refs) (((E.on m).entry HU).state) (((E.on m).entry HU).aM)]:List Ent)→
  ((l3.length+l.length)*40≤140737488355328)∧
  ∀(A:Option Addr)(c:Nat),
  ∀(l1:List Ent),l1=(l3++l)→
  ∃m2,m2<m1∧I m2 (i64.wrap (HU+1)) A c l1) (
  Q ⟨(.pointer (some (Addr.mk gv 0 none))),(some (.p (.loc 2 0))),[],[(.blk gv [(.pointer (some (Addr.mk (r 0) 0 none))),(.slice A3 l3.length c3)] 136),(.lst 4 true 127 A3 c3 l3)],[(.c 2 0,.p (.obj 0 0 0)),(.c 2 1,.p (.sl 3 0))]⟩)
theorem DR:Vc2 Un prog (aN [(70,ja),(71,dK)]) [] Tryz.f73 (.r' (.r' (.two (.r' (.two (.node [(.c 2 1,4,127)] (some ⟨[(12,(.one (.int .i64)))],[],[4,5,6]++upN 12 20,[(2,(.blk [(.k (.obj 0 0 0)),(.k (.sl 3 0))])),(3,(.lst 4))]⟩) [] [] (.r' (.r' (.two (.two (.r' (.r' (.node [] none [] [(4,[2]),(5,[4])] .leaf .leaf))) .leaf) .leaf))) .leaf) .leaf)) .leaf))) [2,3] kK=(∀r (E:Pd) rm (m:Mem),∀Q,(kK.body r E rm m Q)→DQ r E rm m Q):=by kernel_rfl
theorem DP:LV Un prog 73 kK:=verify Tryz.func73 aa (tb:= [(70,ja),(71,dK)]) ⟨vc,kZ,trivial⟩ (by kernel_rfl) (DR.mpr fun r E rm m Q h=>by
 obtain⟨Hw,h⟩:=h
 exact fun f1 f2=>af (by rfl) fun s3 gv=>af ‹_› fun s4=>⟨fun m1 HU A3 c3 l3=>(m1=((E.n:Int) - HU).toNat)∧(0≤HU∧HU≤(E.n:Int))∧(l3=E.aj.take HU.toNat),⟨_,rfl,(by omega),(by rfl)⟩,fun m1 _ HU A3 c3 l3 ⟨hm,hi,K6⟩=>aA (fun c1=>af ‹_› fun s5 IF Jc l Jk=>af (by(have h8:l3.length≤E.n:=by rw [K6,List.length_take,Pd.bN];omega);rw [Jk];simp;grind) fun s6 A c l1 Ia=>⟨_,(by(have h9:=ah (x:=HU+1) (by grind));grind),rfl,(by(have h9:=ah (x:=HU+1) (by grind));grind),(by rw [Ia,Jk,K6,ah (x:=HU+1) (by grind),← yi (E:=E) (by grind)];(have hh:(E.on m).entry HU=E.ent HU.toNat:=by(grind [DB.entry]));rw [hh])⟩) fun c1=>(by(have h7:E.aj=l3:=by rw [K6,List.take_of_length_le];grind);exact aF (h gv A3 c3) rfl rfl (ab (congrArg (fun l=>Res.blk (U:=Un) _ l _) (ab rfl (ab (by grind) rfl))) (ab (congrArg (Res.lst (U:=Un) 4 true 127 _ _) ‹_›) rfl)))⟩)
def bT:Ctr Un:=⟨[.one (.ptr 0),.one (.int .i64),.one (.int .i64)],[],[.blk [.obj 1 0,.sl 3] 136,.ob 1 [(1,2,0)],.ob 0 [],.lst 4 false 127],[],fun p t g r E rm m A c l K=>E.n=m.S∧l=E.aj∧(E.on m).has p=true∧K ⟨(.bool ((E.on m).is p t)),none,[],[],[]⟩⟩
def GB(p:Int)(t:Int)(g:Nat)(r:Nat→Nat)(E:Pd)(rm:Nat→Nat)(m:Mem)(A:Option Addr)(c:Nat)(l:List Ent)(Q:Ou Un→Prop):Prop:=
 Pd.Ok E→
 Mem.Wf m→
 (0≤p∧p<(l.length:Int))∧
 Q ⟨(.bool ((l.getD p.toNat Ent.free).typ==t)),none,[],[],[]⟩
theorem GC:Vc2 Un prog (aN []) [] Tryz.f119 .leaf [] bT=(∀p t g r (E:Pd) rm (m:Mem) A c (l:List Ent),∀Q,(E.n=m.S∧l=E.aj∧(E.on m).has p=true∧Q ⟨(.bool ((E.on m).is p t)),none,[],[],[]⟩)→GB p t g r E rm m A c l Q):=by kernel_rfl
section
attribute [local grind=] DB.is
theorem fM:LV Un prog 119 bT:=verify Tryz.func119 aa (tb:= []) trivial (by kernel_rfl) (GC.mpr fun p t g r E rm m A c l Q h=>by
 obtain⟨Hw,HB,HH,h⟩:=h
 subst HB
 exact fun f1 f2=>af (by grind) fun s3=>bj h (by grind))
end
def eA:Ctr Un:=⟨[.one (.ptr 0),.one (.int .i64)],[],[.blk [.obj 1 0,.sl 3] 136,.ob 1 [(1,2,0)],.ob 0 [],.lst 4 false 127],[],fun p g r E rm m A c l K=>E.n=m.S∧l=E.aj∧(E.on m).has p=true∧K ⟨(.int .i64 ((E.on m).bE p)),none,[],[],[]⟩⟩
def BT(p:Int)(g:Nat)(r:Nat→Nat)(E:Pd)(rm:Nat→Nat)(m:Mem)(A:Option Addr)(c:Nat)(l:List Ent)(Q:Ou Un→Prop):Prop:=
 Pd.Ok E→
 Mem.Wf m→
 (0≤p∧p<(l.length:Int))∧
 ∃J:Bool→Prop,(
  split (decide ((l.getD p.toNat Ent.free).owner<0)) (
   J true) (
   split (decide ((l.getD p.toNat Ent.free).owner≥(l.length:Int))) (
    J true) (
    E.n=m.S∧
    l=E.aj∧
    (E.on m).has ((l.getD p.toNat Ent.free).owner)=true∧
    J (!((E.on m).is ((l.getD p.toNat Ent.free).owner) 1)))))∧∀(Ic:Nat→Value)(HQ:Bool),J HQ→
 split HQ (
  Q ⟨(.int .i64 (-1)),none,[],[],[]⟩) (
  Q ⟨(.int .i64 ((l.getD p.toNat Ent.free).owner)),none,[],[],[]⟩)
theorem BU:Vc2 Un prog (aN [(119,bT)]) [] Tryz.f123 (.r' (.r' (.two (.two (.node [] (some ⟨[(30,(.one .bool))],[],upN 14 17,[]⟩) [] [] .leaf .leaf) .leaf) .leaf))) [] eA=(∀p g r (E:Pd) rm (m:Mem) A c (l:List Ent),∀Q,(E.n=m.S∧l=E.aj∧(E.on m).has p=true∧Q ⟨(.int .i64 ((E.on m).bE p)),none,[],[],[]⟩)→BT p g r E rm m A c l Q):=by kernel_rfl
section
attribute [local grind=] DB.bE DB.is
theorem oq:LV Un prog 123 eA:=verify Tryz.func123 aa (tb:= [(119,bT)]) ⟨fM,trivial⟩ (by kernel_rfl) (BU.mpr fun p g r E rm m A c l Q h=>by
 obtain⟨Hw,HB,HH,h⟩:=h
 subst HB
 exact fun f1 f2=>af (by grind) fun s3=>bB ((decide (((E.aj.getD p.toNat Ent.free).owner:Int)<0)) || ((decide (((E.aj.getD p.toNat Ent.free).owner:Int)≥((E.aj.length:Nat):Int))) || (!((E.on m).is ((E.aj.getD p.toNat Ent.free).owner) 1)))) (ae (fun c1=>(by grind)) fun c1=>ae (fun c2=>(by grind)) fun c2=>af ‹_› fun s4=>af (by rfl) fun s5=>af (by grind) fun s6=>(by grind))<| aL (fun c3=>dN h (by grind)) fun c3=>dN h (by grind))
end
def cY:Ctr Un:=⟨[.one (.ptr 0),.one (.int .i64)],[],[.blk [.obj 1 0,.sl 3] 136,.ob 1 [(1,2,0)],.ob 0 [],.lst 4 false 127],[],fun p g r E rm m A c l K=>E.n=m.S∧l=E.aj∧(E.on m).has p=true∧K ⟨(.bool (if(E.on m).is p 1 then((E.on m).at_ p).state !=3 else(E.on m).alive p)),none,[],[],[]⟩⟩
def B4(p:Int)(g:Nat)(r:Nat→Nat)(E:Pd)(rm:Nat→Nat)(m:Mem)(A:Option Addr)(c:Nat)(l:List Ent)(Q:Ou Un→Prop):Prop:=
 Pd.Ok E→
 Mem.Wf m→
 E.n=m.S∧
 l=E.aj∧
 (E.on m).has p=true∧
 split (!((E.on m).is p 1)) (
  E.n=m.S∧
  l=E.aj∧
  (E.on m).has p=true∧
  ∃J:Bool→Prop,(
   split (decide (((E.on m).bE p)≥0)) (
    (0≤((E.on m).bE p)∧((E.on m).bE p)<(l.length:Int))∧
    J ((l.getD (Int.toNat ((E.on m).bE p)) Ent.free).state !=3)) (
    J false))∧∀(Ic:Nat→Value)(x4:Bool),J x4→
  Q ⟨(.bool x4),none,[],[],[]⟩) (
  ∃J:Bool→Prop,(
   split (decide (p≥0)) (
    (0≤p∧p<(l.length:Int))∧
    J ((l.getD p.toNat Ent.free).state !=3)) (
    J false))∧∀(Ic:Nat→Value)(x4:Bool),J x4→
  Q ⟨(.bool x4),none,[],[],[]⟩)
theorem B5:Vc2 Un prog (aN [(119,bT),(123,eA)]) [] Tryz.f179 (.r' (.r' (.r' (.two (.node [] (some ⟨[(4,(.one .bool))],[],[4]++upN 14 13,[]⟩) [] [] .leaf .leaf) .leaf)))) [] cY=(∀p g r (E:Pd) rm (m:Mem) A c (l:List Ent),∀Q,(E.n=m.S∧l=E.aj∧(E.on m).has p=true∧Q ⟨(.bool (if(E.on m).is p 1 then((E.on m).at_ p).state !=3 else(E.on m).alive p)),none,[],[],[]⟩)→B4 p g r E rm m A c l Q):=by kernel_rfl
section
attribute [local grind=] DB.bE DB.is DB.alive
theorem kN:LV Un prog 179 cY:=verify Tryz.func179 aa (tb:= [(119,bT),(123,eA)]) ⟨fM,oq,trivial⟩ (by kernel_rfl) (B5.mpr fun p g r E rm m A c l Q h=>by
 obtain⟨Hw,HB,HH,h⟩:=h
 subst HB
 exact fun f1 f2=>af ‹_› fun s3=>af (by rfl) fun s4=>af ‹_› fun s5=>br (fun c1=>af ‹_› fun s6=>af (by rfl) fun s7=>af ‹_› fun s8=>bB ((decide ((((E.on m).bE p):Int)≥0)) && (((E.aj.getD (Int.toNat ((E.on m).bE p)) Ent.free).state:Int) !=3)) (ae (fun c2=>af (by grind) fun s9=>(by grind)) fun c2=>(by grind))<| bj h (by grind)) fun c1=>bB ((decide ((p:Int)≥0)) && (((E.aj.getD p.toNat Ent.free).state:Int) !=3)) (ae (fun c3=>af (by grind) fun K3=>(by grind)) fun c3=>(by grind))<| bj h (by grind))
end
def cg:Ctr Un:=⟨[.one (.ptr 0),.one (.int .i64),.one (.int .i64)],[],[.blk [.obj 1 0,.sl 3] 136,.ob 1 [(1,2,0)],.ob 0 [],.lst 4 false 127],[],fun p o g r E rm m A c l K=>E.n=m.S∧l=E.aj∧K ⟨(.int .u32 ((E.on m).word p o)),none,[],[],[]⟩⟩
def DL(p:Int)(o:Int)(g:Nat)(r:Nat→Nat)(E:Pd)(rm:Nat→Nat)(m:Mem)(A:Option Addr)(c:Nat)(l:List Ent)(Q:Ou Un→Prop):Prop:=
 Pd.Ok E→
 Mem.Wf m→
 Q ⟨(.int .u32 (m.ba true p o)),none,[],[],[]⟩
theorem DM:Vc2 Un prog (aN [(32,cl),(26,kS)]) [] Tryz.f175 .leaf [] cg=(∀p o g r (E:Pd) rm (m:Mem) A c (l:List Ent),∀Q,(E.n=m.S∧l=E.aj∧Q ⟨(.int .u32 ((E.on m).word p o)),none,[],[],[]⟩)→DL p o g r E rm m A c l Q):=by kernel_rfl
section
attribute [local grind=] DB.word
theorem g9:LV Un prog 175 cg:=verify Tryz.func175 aa (tb:= [(32,cl),(26,kS)]) ⟨gK,xV,trivial⟩ (by kernel_rfl) (DM.mpr fun p o g r E rm m A c l Q h=>by
 obtain⟨Hw,HB,h⟩:=h
 subst HB
 exact fun f1 f2=>dN h (by grind))
end
def dm:Ctr Un:=⟨[.one (.ptr 0),.one (.int .i64),.one (.int .i64),.one (.int .i64)],[],[.blk [.obj 1 0,.sl 3] 136,.ob 1 [(1,2,0)],.ob 0 [],.lst 4 false 127],[],fun p lo hi g r E rm m A c l K=>E.n=m.S∧l=E.aj∧(0≤(lo:Int)∧(hi:Int)≤1024)∧K ⟨(.bool ((E.on m).zero p lo hi)),none,[],[],[]⟩⟩
def DJ(p:Int)(lo:Int)(hi:Int)(g:Nat)(r:Nat→Nat)(E:Pd)(rm:Nat→Nat)(m:Mem)(A:Option Addr)(c:Nat)(l:List Ent)(Q:Ou Un→Prop):Prop:=
 Pd.Ok E→
 Mem.Wf m→
 ∀off:Int,off=lo→
 ∃I:Nat→Int→Prop,(∃m1,I m1 off)∧∀(m1:Nat)(Ic:Nat→Value)(off1:Int),I m1 off1→
 split (decide (off1<hi)) (
  E.n=m.S∧
  l=E.aj∧
  split (((E.on m).word p off1) !=0) (
   Q ⟨(.bool false),none,[],[],[]⟩) (
   ∀off2:Int,off2=(i64.wrap (off1+1))→
   ∃m2,m2<m1∧I m2 off2)) (
  Q ⟨(.bool true),none,[],[],[]⟩)
theorem DK:Vc2 Un prog (aN [(175,cg)]) [9] Tryz.f121 (.r' (.two (.r' (.two (.node [] (some ⟨[(9,(.one (.int .i64)))],[],[8,9]++upN 11 10,[]⟩) [] [] .leaf .leaf) .leaf)) .leaf)) [] dm=(∀p lo hi g r (E:Pd) rm (m:Mem) A c (l:List Ent),∀Q,(E.n=m.S∧l=E.aj∧(0≤(lo:Int)∧(hi:Int)≤1024)∧Q ⟨(.bool ((E.on m).zero p lo hi)),none,[],[],[]⟩)→DJ p lo hi g r E rm m A c l Q):=by kernel_rfl
section
attribute [local grind=] DB.zero
theorem kI:LV Un prog 121 dm:=verify Tryz.func121 aa (tb:= [(175,cg)]) ⟨g9,trivial⟩ (by kernel_rfl) (DK.mpr fun p lo hi g r E rm m A c l Q h=>by
 obtain⟨Hw,HB,HH,h⟩:=h
 subst HB
 exact fun f1 f2=>allEq<| ⟨fun m1 off1=>(m1=(hi - off1).toNat)∧(lo≤off1)∧(fB (fun x=>(E.on m).word p x==0) lo off1=true),⟨_,rfl,(by omega),(gE (Int.le_refl _))⟩,fun m1 _ off1 ⟨hm,Nm,hz⟩=>aA (fun c1=>af ‹_› fun s3=>af (by rfl) fun s4=>aX (fun c2=>bj h (by grind [fp])) fun c2=>allEq<| ⟨_,(by(have h9:=ah (x:=off1+1) (by omega));omega),rfl,(by have h9:=ah (x:=off1+1) (by omega);omega),(dW hz (by grind) (ah (by omega)))⟩) fun c1=>bj h (bC.2 fun x a b=>bC.1 hz x a (by omega))⟩)
end
def jl:Ctr Un:=⟨[.one (.ptr 0),.one (.int .i64),.one (.int .i64),.one (.int .i64)],[],[.blk [.obj 1 0,.sl 3] 136,.ob 1 [(1,2,0)],.ob 0 [],.lst 4 false 127],[],fun p lo n g r E rm m A c l K=>E.n=m.S∧l=E.aj∧(0≤(lo:Int)∧(lo:Int)<1024∧0≤(n:Int)∧(n:Int)<1024)∧∀(A1:Option Addr)(c1:Nat),K ⟨(.slice A1 (((E.on m).some_ p lo n.toNat).length) c1),(some (.p (.sl 4 0))),[],[(.lst 1 true 23 A1 c1 ((E.on m).some_ p lo n.toNat))],[]⟩⟩
def DN(p:Int)(lo:Int)(n:Int)(g:Nat)(r:Nat→Nat)(E:Pd)(rm:Nat→Nat)(m:Mem)(A:Option Addr)(c:Nat)(l:List Ent)(Q:Ou Un→Prop):Prop:=
 Pd.Ok E→
 Mem.Wf m→
 (n=n∧0≤n∧4*n≤281474976710656)∧
 ∀(gv:Nat),
 ∀(l1:List U32),l1=(List.replicate n.toNat (U32.mk 0:U32))→
 ∃I:Nat→Int→Option Addr→Nat→List U32→Prop,(∃m1,I m1 0 (some (Addr.mk gv 0 none)) n.toNat l1)∧∀(m1:Nat)(Hn:Nat→Value)(HA:Int)(A4:Option Addr)(c4:Nat)(l4:List U32),I m1 HA A4 c4 l4→
 split (decide (HA<((List.replicate n.toNat (U32.mk 0:U32)).length:Int))) (
  E.n=m.S∧
  l=E.aj∧
  (0≤HA∧HA<(l4.length:Int))∧
  ∀(l2:List U32),l2=(l4.set HA.toNat (U32.mk ((E.on m).word p (i64.wrap (lo+HA)))))→
  ∃m2,m2<m1∧I m2 (i64.wrap (HA+1)) A4 c4 l2) (
  Q ⟨(.slice A4 l4.length c4),(some (.p (.sl 4 0))),[],[(.lst 1 true 23 A4 c4 l4)],[]⟩)
theorem DO:Vc2 Un prog (aN [(175,cg)]) [] Tryz.f178 (.r' (.r' (.two (.r' (.two (.node [] (some ⟨[(15,(.one (.int .i64)))],[(9,(.p (.sl 4 0)))],[10]++upN 15 13,[(4,(.lst 1))]⟩) [] [] .leaf .leaf) .leaf)) .leaf))) [4] jl=(∀p lo n g r (E:Pd) rm (m:Mem) A c (l:List Ent),∀Q,(E.n=m.S∧l=E.aj∧(0≤(lo:Int)∧(lo:Int)<1024∧0≤(n:Int)∧(n:Int)<1024)∧∀(A1:Option Addr)(c1:Nat),Q ⟨(.slice A1 (((E.on m).some_ p lo n.toNat).length) c1),(some (.p (.sl 4 0))),[],[(.lst 1 true 23 A1 c1 ((E.on m).some_ p lo n.toNat))],[]⟩)→DN p lo n g r E rm m A c l Q):=by kernel_rfl
theorem xU:LV Un prog 178 jl:=verify Tryz.func178 aa (tb:= [(175,cg)]) ⟨g9,trivial⟩ (by kernel_rfl) (DO.mpr fun p lo n g r E rm m A c l Q h=>by
 obtain⟨Hw,HB,HH,h⟩:=h
 subst HB
 exact fun f1 f2=>af (by omega) fun s3 gv l1 Ia=>⟨fun m1 HA A4 c4 l4=>(m1=(n - HA).toNat)∧(0≤HA∧HA≤n)∧(jA (E.on m) p lo n.toNat HA l4),⟨_,rfl,(by omega),(by rw [Ia];exact jA.init _ _ _ _)⟩,fun m1 _ HA A4 c4 l4 ⟨hm,Nm,hz⟩=>aA (fun c1=>af ‹_› fun s4=>af (by rfl) fun s5=>af (by(grind [jA.len])) fun s6 l2 Jj=>⟨_,(by(have h9:=ah (x:=HA+1) (by grind));simp at c1;omega),rfl,(by(have h9:=ah (x:=HA+1) (by grind));simp at c1;omega),(by rw [Jj];exact hz.next Nm.1 (by simp at c1;omega) (by omega))⟩) fun c1=>(by(have h7:(E.on m).some_ p lo n.toNat=l4:=hz.done (by simp at c1;omega));exact aF (h A4 c4) (by grind) rfl (ab (congrArg (Res.lst (U:=Un) 1 true 23 _ _) ‹_›) rfl))⟩)
def mf:Ctr Un:=⟨[.one (.ptr 0),.one (.int .i64),.one (.int .i64)],[],[.blk [.obj 1 0,.sl 3] 136,.ob 1 [(1,2,0)],.ob 0 [],.lst 4 false 127],[],fun t o g r E rm m A c l K=>E.n=m.S∧l=E.aj∧∀(A1:Option Addr)(c1:Nat),K ⟨(.slice A1 (((E.on m).pgs t o (E.on m).S).length) c1),(some (.p (.sl 4 0))),[],[(.lst 0 true 3 A1 c1 ((E.on m).pgs t o (E.on m).S))],[]⟩⟩
def Gz(t:Int)(o:Int)(g:Nat)(r:Nat→Nat)(E:Pd)(rm:Nat→Nat)(m:Mem)(A:Option Addr)(c:Nat)(l:List Ent)(Q:Ou Un→Prop):Prop:=
 Pd.Ok E→
 Mem.Wf m→
 ∃I:Nat→Int→Option Addr→Nat→List I64→Prop,(∃m1,I m1 0 none 0 ([]:List I64))∧∀(m1:Nat)(Ic:Nat→Value)(HA:Int)(A4:Option Addr)(c4:Nat)(l4:List I64),I m1 HA A4 c4 l4→
 split (decide (HA<(l.length:Int))) (
  (0≤HA∧HA<(l.length:Int))∧
  ∀(Hm:Nat),
  ∃J:Bool→Prop,(
   split ((l.getD HA.toNat Ent.free).typ==t) (
    J ((l.getD HA.toNat Ent.free).owner==o)) (
    J false))∧∀(I7:Nat→Value)(Lk:Bool),J Lk→
  split Lk (
   ∀(Jc:Nat),
   ∀(l1:List I64),l1=([I64.mk HA]:List I64)→
   ((l4.length+l1.length)*8≤140737488355328)∧
   ∀(A1:Option Addr)(c1:Nat),
   ∀(l2:List I64),l2=(l4++l1)→
   ∃m2,m2<m1∧I m2 (i64.wrap (HA+1)) A1 c1 l2) (
   ∃m2,m2<m1∧I m2 (i64.wrap (HA+1)) A4 c4 l4)) (
  Q ⟨(.slice A4 l4.length c4),(some (.p (.sl 4 0))),[],[(.lst 0 true 3 A4 c4 l4)],[]⟩)
theorem GA:Vc2 Un prog (aN []) [7] Tryz.f180 (.r' (.r' (.two (.r' (.two (.node [(.s 7,0,3)] (some ⟨[(15,(.one (.int .i64)))],[(7,(.p (.sl 4 0)))],[7,8,9]++upN 15 20,[(4,(.lst 0))]⟩) [] [] (.r' (.r' (.two (.two (.r' (.two (.node [] (some ⟨[(29,(.one .bool))],[],upN 20 10,[]⟩) [] [] .leaf .leaf) .leaf)) .leaf) .leaf))) .leaf) .leaf)) .leaf))) [4] mf=(∀t o g r (E:Pd) rm (m:Mem) A c (l:List Ent),∀Q,(E.n=m.S∧l=E.aj∧∀(A1:Option Addr)(c1:Nat),Q ⟨(.slice A1 (((E.on m).pgs t o (E.on m).S).length) c1),(some (.p (.sl 4 0))),[],[(.lst 0 true 3 A1 c1 ((E.on m).pgs t o (E.on m).S))],[]⟩)→Gz t o g r E rm m A c l Q):=by kernel_rfl
theorem BV:LV Un prog 180 mf:=verify Tryz.func180 aa (tb:= []) trivial (by kernel_rfl) (GA.mpr fun t o g r E rm m A c l Q h=>by
 obtain⟨Hw,HB,h⟩:=h
 subst HB
 exact fun f1 f2=>⟨fun m1 HA A4 c4 l4=>(m1=((E.n:Int) - HA).toNat)∧(0≤HA∧HA≤(E.n:Int))∧(l4=(E.on m).pgs t o HA.toNat),⟨_,rfl,(by omega),(by rfl)⟩,fun m1 _ HA A4 c4 l4 ⟨hm,Nm,hz⟩=>aA (fun c1=>af (by omega) fun s3 Hm=>bB ((((E.aj.getD HA.toNat Ent.free).typ:Int)==t) && (((E.aj.getD HA.toNat Ent.free).owner:Int)==o)) (ae (fun c2=>(by grind)) fun c2=>(by grind))<| bW (fun c3 Jc l1 Ia=>af (by(have h8:=DB.gU (E.on m) t o HA.toNat);rw [Ia,hz];simp;grind) fun s4 A1 c1 l2 Jj=>⟨_,(by(have h9:=ah (x:=HA+1) (by grind));grind),rfl,(by(have h9:=ah (x:=HA+1) (by grind));grind),(by rw [DB.sM _ _ _ (by grind)];(rw [if_pos (by grind)];grind))⟩) fun c3=>⟨_,(by(have h9:=ah (x:=HA+1) (by grind));grind),rfl,(by(have h9:=ah (x:=HA+1) (by grind));grind),(by rw [DB.sM _ _ _ (by grind)];(rw [if_neg (by grind)];exact hz))⟩) fun c1=>(by(have h7:(E.on m).pgs t o (E.on m).S=l4:=by rw [hz,show HA.toNat=(E.on m).S by grind]);exact aF (h A4 c4) (by grind) rfl (ab (congrArg (Res.lst (U:=Un) 0 true 3 _ _) ‹_›) rfl))⟩)
def jo:Ctr Un:=⟨[.one (.ptr 0),.one (.int .i64)],[],[.blk [.obj 1 0,.sl 3] 136,.ob 1 [(1,2,0)],.ob 0 [],.lst 4 false 127],[],fun p g r E rm m A c l K=>E.n=m.S∧l=E.aj∧(E.on m).has p=true∧K ⟨(.bool ((E.on m).clause 5 p)),none,[],[],[]⟩⟩
def zv(p:Int)(g:Nat)(r:Nat→Nat)(E:Pd)(rm:Nat→Nat)(m:Mem)(A:Option Addr)(c:Nat)(l:List Ent)(Q:Ou Un→Prop):Prop:=
 Pd.Ok E→
 Mem.Wf m→
 E.n=m.S∧
 l=E.aj∧
 (E.on m).has p=true∧
 split (!((E.on m).is p 1)) (
  Q ⟨(.bool true),none,[],[],[]⟩) (
  E.n=m.S∧
  l=E.aj∧
  ∃J:Bool→Prop,(
   split (decide ((u64.wrap ((E.on m).word p 1))≥(u64.wrap E.aq))) (
    J true) (
    E.n=m.S∧
    l=E.aj∧
    J (decide (((E.on m).word p 2)>4096))))∧∀(Ic:Nat→Value)(JB:Bool),J JB→
  split JB (
   Q ⟨(.bool false),none,[],[],[]⟩) (
   ∃I:Nat→Int→Prop,(∃m1,I m1 0)∧∀(m1:Nat)(Hn:Nat→Value)(HQ:Int),I m1 HQ→
   split (decide (HQ<p)) (
    ∃J1:Bool→Prop,(
     E.n=m.S∧
     l=E.aj∧
     (E.on m).has HQ=true∧
     split ((E.on m).is HQ 1) (
      E.n=m.S∧
      l=E.aj∧
      J1 (((E.on m).word HQ 1)==((E.on m).word p 1))) (
      J1 false))∧∀(I7:Nat→Value)(M5:Bool),J1 M5→
    split M5 (
     Q ⟨(.bool false),none,[],[],[]⟩) (
     ∃m2,m2<m1∧I m2 (i64.wrap (HQ+1)))) (
    Q ⟨(.bool true),none,[],[],[]⟩)))
theorem zw:Vc2 Un prog (aN [(119,bT),(175,cg),(72,gL)]) [] Tryz.f126 (.r' (.r' (.r' (.two (.two (.node [] (some ⟨[(28,(.one .bool))],[],upN 14 15,[]⟩) [] [] .leaf .leaf) .leaf) (.two (.r' (.two (.node [] (some ⟨[(30,(.one (.int .i64)))],[],[4,6]++upN 30 14,[]⟩) [] [] (.r' (.r' (.two (.two (.r' (.two (.node [] (some ⟨[(42,(.one .bool))],[],upN 33 10,[]⟩) [] [] .leaf .leaf) .leaf)) .leaf) .leaf))) .leaf) .leaf)) .leaf))))) [] jo=(∀p g r (E:Pd) rm (m:Mem) A c (l:List Ent),∀Q,(E.n=m.S∧l=E.aj∧(E.on m).has p=true∧Q ⟨(.bool ((E.on m).clause 5 p)),none,[],[],[]⟩)→zv p g r E rm m A c l Q):=by kernel_rfl
section
attribute [local grind=] DB.kD DB.gP DB.is Pd.pT
theorem zu:LV Un prog 126 jo:=verify Tryz.func126 aa (tb:= [(119,bT),(175,cg),(72,gL)]) ⟨fM,g9,z5,trivial⟩ (by kernel_rfl) (zw.mpr fun p g r E rm m A c l Q h=>by
 obtain⟨Hw,HB,HH,h⟩:=h
 subst HB
 exact fun f1 f2=>(by(have hw:=fun a b=>ej (E:=E) f2 a b);(have MV:=fun a b=>ah (x:=(E.on m).word a b) (by have:=hw a b;omega));(have MM:=fun a b=>fT (x:=(E.on m).word a b) (by have:=hw a b;omega));(have hub:=fT (x:=E.aq) (by have:=f1.aq;omega));exact af ‹_› fun s3=>af (by rfl) fun s4=>af ‹_› fun s5=>br (fun c1=>bj h (by grind)) fun c1=>af ‹_› fun s6=>af (by rfl) fun s7=>bB ((decide ((u64.wrap ((E.on m).word p 1):Int)≥(u64.wrap E.aq))) || (decide ((((E.on m).word p 2):Int)>4096))) (ae (fun c2=>(by grind)) fun c2=>af ‹_› fun s8=>af (by rfl) fun s9=>(by grind))<| aL (fun c3=>bj h (by grind)) fun c3=>⟨fun m1 HQ=>(m1=(p - HQ).toNat)∧(0≤HQ∧HQ≤p)∧(fB (fun z=>!(((E.on m).at_ z).typ==1 && (E.on m).word z 1==(E.on m).word p 1)) 0 HQ=true),⟨_,rfl,(by grind),(gE (Int.le_refl _))⟩,fun m1 _ HQ ⟨hm,Nm,hz⟩=>aA (fun c4=>bB (((E.on m).is HQ 1) && ((((E.on m).word HQ 1):Int)==((E.on m).word p 1))) (af ‹_› fun K3=>af (by rfl) fun JN=>af (by grind) fun Mj=>ae (fun c5=>af ‹_› fun LK=>af (by rfl) fun Mi=>(by grind)) fun c5=>(by grind))<| bW (fun c6=>bj h (by rw [DB.kD,DB.gP,fp Nm.1 c4 (by grind)];grind)) fun c6=>⟨_,(by(have h9:=ah (x:=HQ+1) (by grind));grind),rfl,(by(have h9:=ah (x:=HQ+1) (by grind));grind),(by exact dW hz (by have hh:(E.on m).has HQ=true:=(by grind);rw [DB.is,hh]at c6;grind) (ah (by grind)))⟩) fun c4=>bj h (by(have hq:HQ=p:=by omega);subst hq;rw [DB.kD,DB.gP,hz];grind)⟩))
end
def kJ:Ctr Un:=⟨[.one (.ptr 0),.one (.int .i64)],[],[.blk [.obj 1 0,.sl 3] 136,.ob 1 [(1,2,0)],.ob 0 [],.lst 4 false 127],[],fun p g r E rm m A c l K=>E.n=m.S∧l=E.aj∧(E.on m).has p=true∧K ⟨(.bool ((E.on m).clause 6 p)),none,[],[],[]⟩⟩
def BR(p:Int)(g:Nat)(r:Nat→Nat)(E:Pd)(rm:Nat→Nat)(m:Mem)(A:Option Addr)(c:Nat)(l:List Ent)(Q:Ou Un→Prop):Prop:=
 Pd.Ok E→
 Mem.Wf m→
 E.n=m.S∧
 l=E.aj∧
 (E.on m).has p=true∧
 split (!((E.on m).is p 1)) (
  Q ⟨(.bool true),none,[],[],[]⟩) (
  E.n=m.S∧
  l=E.aj∧
  (0≤(37:Int)∧(1024:Int)≤1024)∧
  split (!((E.on m).zero p 37 1024)) (
   Q ⟨(.bool false),none,[],[],[]⟩) (
   E.n=m.S∧
   l=E.aj∧
   (0≤(11:Int)∧(11:Int)<1024∧0≤(26:Int)∧(26:Int)<1024)∧
   ∀(A1:Option Addr)(c1:Nat),
   ∀(l1:List U32),l1=(E.on m).some_ p 11 (Int.toNat 26)→
   ((∀x∈l1,0≤x.v∧x.v<4294967296))∧
   ∀(dp:Value),
   ∃J:Bool→Prop,(
    split ((Dg.bu l1)==0) (
     E.n=m.S∧
     l=E.aj∧
     (0≤(3:Int)∧(11:Int)≤1024)∧
     ∀init:Bool,init=((E.on m).zero p 3 11)→
     J init) (
     ∀init:Bool,init=false→
     J init))∧∀(Ic:Nat→Value)(init:Bool),J init→
   E.n=m.S∧
   l=E.aj∧
   (0≤(11:Int)∧(37:Int)≤1024)∧
   (0≤p∧p<(l.length:Int))∧
   ∀M5:Bool,M5=(((l.getD p.toNat Ent.free).state:Int)==1)→
   split M5 (
    Q ⟨(.bool init),none,[],[],[]⟩) (
    ∀OR:Bool,OR=(((l.getD p.toNat Ent.free).state:Int)==2)→
    split OR (
     Q ⟨(.bool ((E.on m).zero p 11 37)),none,[],[],[]⟩) (
     ∃J1:Bool→Prop,(
      split init (
       J1 true) (
       J1 ((E.on m).zero p 11 37)))∧∀(Hn:Nat→Value)(x4:Bool),J1 x4→
     Q ⟨(.bool x4),none,[],[],[]⟩))))
theorem BS:Vc2 Un prog (aN [(119,bT),(121,dm),(178,jl),(177,rJ)]) [7,42,45] Tryz.f127 (.r' (.r' (.r' (.r' (.two (.node [] (some ⟨[(7,(.one .bool))],[],[7]++upN 24 7,[]⟩) [] [] .leaf .leaf) (.r' (.r' (.two (.node [] (some ⟨[(4,(.one .bool))],[],[4,48,49,50,51],[]⟩) [] [] .leaf .leaf) .leaf)))))))) [] kJ=(∀p g r (E:Pd) rm (m:Mem) A c (l:List Ent),∀Q,(E.n=m.S∧l=E.aj∧(E.on m).has p=true∧Q ⟨(.bool ((E.on m).clause 6 p)),none,[],[],[]⟩)→BR p g r E rm m A c l Q):=by kernel_rfl
section
attribute [local grind=] DB.tL DB.qK DB.Af DB.is
theorem BQ:LV Un prog 127 kJ:=verify Tryz.func127 aa (tb:= [(119,bT),(121,dm),(178,jl),(177,rJ)]) ⟨fM,kI,xU,DW,trivial⟩ (by kernel_rfl) (BS.mpr fun p g r E rm m A c l Q h=>by
 obtain⟨Hw,HB,HH,h⟩:=h
 subst HB
 exact fun f1 f2=>(by(have hw:=fun a b=>ej (E:=E) f2 a b);(have MV:=fun a b=>ah (x:=(E.on m).word a b) (by have:=hw a b;omega));(have MM:=fun a b=>fT (x:=(E.on m).word a b) (by have:=hw a b;omega));exact af ‹_› fun s3=>af (by rfl) fun s4=>af ‹_› fun s5=>br (fun c1=>bj h (by grind)) fun c1=>af ‹_› fun s6=>af (by rfl) fun s7=>af (by omega) fun s8=>br (fun c2=>bj h (by grind)) fun c2=>af ‹_› fun s9=>af (by rfl) fun K3=>af (by omega) fun JN A1 c1 l1 Ia=>af (by rw [Ia];exact su f2 _ _ _) fun Mj dp=>bB ((((Dg.bu l1):Int)==0) && ((E.on m).zero p 3 11)) (ae (fun c3=>af ‹_› fun LK=>af (by rfl) fun Mi=>af (by omega) fun Og=>allEq<| (by grind)) fun c3=>allEq<| (by grind))<| af ‹_› fun So=>af (by rfl) fun Sn=>af (by omega) fun s18=>af (by grind) fun s19=>allEq<| aC (fun c4=>bj h (by grind)) fun c4=>allEq<| aC (fun c5=>bj h (by grind)) fun c5=>bB (((((Dg.bu l1):Int)==0) && ((E.on m).zero p 3 11)) || ((E.on m).zero p 11 37)) (ae (fun c6=>(by grind)) fun c6=>(by grind))<| bj h (by grind)))
end
def kM:Ctr Un:=⟨[.one (.ptr 0),.one (.int .i64)],[],[.blk [.obj 1 0,.sl 3] 136,.ob 1 [(1,2,0)],.ob 0 [],.lst 4 false 127],[],fun p g r E rm m A c l K=>E.n=m.S∧l=E.aj∧(E.on m).has p=true∧K ⟨(.bool ((E.on m).clause 7 p)),none,[],[],[]⟩⟩
def B0(p:Int)(g:Nat)(r:Nat→Nat)(E:Pd)(rm:Nat→Nat)(m:Mem)(A:Option Addr)(c:Nat)(l:List Ent)(Q:Ou Un→Prop):Prop:=
 Pd.Ok E→
 Mem.Wf m→
 ∃J:Bool→Prop,(
  E.n=m.S∧
  l=E.aj∧
  (E.on m).has p=true∧
  split (!((E.on m).is p 1)) (
   J true) (
   E.n=m.S∧
   l=E.aj∧
   (E.on m).has p=true∧
   J (!(if(E.on m).is p 1 then((E.on m).at_ p).state !=3 else(E.on m).alive p))))∧∀(Ic:Nat→Value)(HA:Bool),J HA→
 split HA (
  Q ⟨(.bool true),none,[],[],[]⟩) (
  E.n=m.S∧
  l=E.aj∧
  ∀(A1:Option Addr)(c1:Nat),
  ∀(l1:List I64),l1=(E.on m).pgs 3 p (E.on m).S→
  ∃J1:Bool→Prop,(
   split (((((E.on m).pgs 3 p (E.on m).S).length):Int)==1) (
    (0≤(0:Int)∧(0:Int)<(l1.length:Int))∧
    E.n=m.S∧
    l=E.aj∧
    J1 (((E.on m).word p 0)==(u32.wrap ((l1.getD (Int.toNat 0) (I64.mk 0)).v)))) (
    J1 false))∧∀(Hn:Nat→Value)(x4:Bool),J1 x4→
  Q ⟨(.bool x4),none,[],[],[]⟩)
theorem B3:Vc2 Un prog (aN [(119,bT),(179,cY),(180,mf),(175,cg)]) [] Tryz.f128 (.r' (.two (.two (.node [] (some ⟨[(15,(.one .bool))],[],upN 6 10,[]⟩) [] [] .leaf .leaf) .leaf) (.r' (.two (.node [] (some ⟨[(4,(.one .bool))],[],[4]++upN 19 13,[]⟩) [] [(9,[4])] .leaf .leaf) .leaf)))) [] kM=(∀p g r (E:Pd) rm (m:Mem) A c (l:List Ent),∀Q,(E.n=m.S∧l=E.aj∧(E.on m).has p=true∧Q ⟨(.bool ((E.on m).clause 7 p)),none,[],[],[]⟩)→B0 p g r E rm m A c l Q):=by kernel_rfl
section
attribute [local grind=] DB.tK DB.qL DB.is
theorem BZ:LV Un prog 128 kM:=verify Tryz.func128 aa (tb:= [(119,bT),(179,cY),(180,mf),(175,cg)]) ⟨fM,kN,BV,g9,trivial⟩ (by kernel_rfl) (B3.mpr fun p g r E rm m A c l Q h=>by
 obtain⟨Hw,HB,HH,h⟩:=h
 subst HB
 exact fun f1 f2=>bB ((!((E.on m).is p 1)) || (!(if(E.on m).is p 1 then((E.on m).at_ p).state !=3 else(E.on m).alive p))) (af ‹_› fun s3=>af (by rfl) fun s4=>af ‹_› fun s5=>ae (fun c1=>(by grind)) fun c1=>af ‹_› fun s6=>af (by rfl) fun s7=>af ‹_› fun s8=>(by grind))<| aL (fun c2=>bj h (by grind)) fun c2=>af ‹_› fun s9=>af (by rfl) fun K3 A1 c1 l1 Ia=>bB ((((((((E.on m).pgs 3 p (E.on m).S).length):Nat):Int):Int)==1) && ((((E.on m).word p 0):Int)==(u32.wrap ((l1.getD (Int.toNat 0) (I64.mk 0)).v)))) (ae (fun c3=>af (by grind) fun JN=>af ‹_› fun Mj=>af (by rfl) fun LK=>(by grind)) fun c3=>(by grind))<| bj h (by rw [Ia,DB.first_eq (by grind)];grind))
end
def jk:Ctr Un:=⟨[.one (.ptr 0),.one (.int .i64)],[],[.blk [.obj 1 0,.sl 3] 136,.ob 1 [(1,2,0)],.ob 0 [],.lst 4 false 127],[],fun p g r E rm m A c l K=>E.n=m.S∧l=E.aj∧(E.on m).has p=true∧K ⟨(.bool ((E.on m).clause 11 p)),none,[],[],[]⟩⟩
def zj(p:Int)(g:Nat)(r:Nat→Nat)(E:Pd)(rm:Nat→Nat)(m:Mem)(A:Option Addr)(c:Nat)(l:List Ent)(Q:Ou Un→Prop):Prop:=
 Pd.Ok E→
 Mem.Wf m→
 E.n=m.S∧
 l=E.aj∧
 (E.on m).has p=true∧
 split (!((E.on m).is p 2)) (
  Q ⟨(.bool true),none,[],[],[]⟩) (
  E.n=m.S∧
  l=E.aj∧
  (0≤(18:Int)∧(1024:Int)≤1024)∧
  split (!((E.on m).zero p 18 1024)) (
   Q ⟨(.bool false),none,[],[],[]⟩) (
   (0≤p∧p<(l.length:Int))∧
   split (!((l.getD p.toNat Ent.free).aM)) (
    E.n=m.S∧
    l=E.aj∧
    (0≤(1:Int)∧(18:Int)≤1024)∧
    Q ⟨(.bool ((E.on m).zero p 1 18)),none,[],[],[]⟩) (
    E.n=m.S∧
    l=E.aj∧
    (0≤(1:Int)∧(1:Int)<1024∧0≤(17:Int)∧(17:Int)<1024)∧
    ∀(A1:Option Addr)(c1:Nat),
    ∀(l1:List U32),l1=(E.on m).some_ p 1 (Int.toNat 17)→
    ((∀x∈l1,0≤x.v∧x.v<4294967296))∧
    ∀(gv:Nat),
    ∀(s:Fl),s=Fl.zero→
    Fl.Ok s→
    True∧
    ∀(s1:Fl),s1=(Fl.norm (File.unpack l1))→
    Fl.Ok s1→
    E.n=m.S∧
    l=E.aj∧
    (E.on m).has p=true∧
    ∃J:Bool→Prop,(
     split ((File.dO l1)==0) (
      split (decide (((E.on m).bE p)<0)) (
       J true) (
       (0≤((E.on m).bE p)∧((E.on m).bE p)<(l.length:Int))∧
       J ((l.getD (Int.toNat ((E.on m).bE p)) Ent.free).state !=1))) (
      J false))∧∀(Hn:Nat→Value)(x4:Bool),J x4→
    Q ⟨(.bool x4),none,[],[],[]⟩)))
theorem zk:Vc2 Un prog (aN [(119,bT),(121,dm),(178,jl),(184,jq),(123,eA)]) [] Tryz.f132 (.r' (.r' (.r' (.r' (.r' (.r' (.two (.node [] (some ⟨[(4,(.one .bool))],[],[4]++upN 38 17,[]⟩) [] [] .leaf .leaf) .leaf))))))) [] jk=(∀p g r (E:Pd) rm (m:Mem) A c (l:List Ent),∀Q,(E.n=m.S∧l=E.aj∧(E.on m).has p=true∧Q ⟨(.bool ((E.on m).clause 11 p)),none,[],[],[]⟩)→zj p g r E rm m A c l Q):=by kernel_rfl
section
attribute [local grind=] DB.qi DB.mD DB.is DB.bE
theorem zi:LV Un prog 132 jk:=verify Tryz.func132 aa (tb:= [(119,bT),(121,dm),(178,jl),(184,jq),(123,eA)]) ⟨fM,kI,xU,zS,oq,trivial⟩ (by kernel_rfl) (zk.mpr fun p g r E rm m A c l Q h=>by
 obtain⟨Hw,HB,HH,h⟩:=h
 subst HB
 exact fun f1 f2=>(by(have hw:=fun a b=>ej (E:=E) f2 a b);(have MV:=fun a b=>ah (x:=(E.on m).word a b) (by have:=hw a b;omega));(have MM:=fun a b=>fT (x:=(E.on m).word a b) (by have:=hw a b;omega));exact af ‹_› fun s3=>af (by rfl) fun s4=>af ‹_› fun s5=>br (fun c1=>bj h (by grind)) fun c1=>af ‹_› fun s6=>af (by rfl) fun s7=>af (by omega) fun s8=>br (fun c2=>bj h (by grind)) fun c2=>af (by grind) fun s9=>br (fun c3=>af ‹_› fun K3=>af (by rfl) fun JN=>af (by omega) fun Mj=>bj h (by grind)) fun c3=>af ‹_› fun LK=>af (by rfl) fun Mi=>af (by omega) fun Og A1 c1 l1 Ia=>af (by rw [Ia];exact su f2 _ _ _) fun So gv s J8 f17=>af trivial fun _ s1 JL f19=>af ‹_› fun Sm=>af (by rfl) fun Sl=>af ‹_› fun Sk=>bB ((((File.dO l1):Int)==0) && ((decide ((((E.on m).bE p):Int)<0)) || (((E.aj.getD (Int.toNat ((E.on m).bE p)) Ent.free).state:Int) !=1))) (ae (fun c4=>ae (fun c5=>(by grind)) fun c5=>af (by grind) fun RA=>(by grind)) fun c4=>(by grind))<| bj h (by grind)))
end
end
section
set_option maxRecDepth 100000
set_option maxHeartbeats 1000000
attribute [local irreducible] Vc2 VcD
attribute [local grind=] Pd.bN Pd.bt Pd.fX Pd.gu Pd.ep Pd.du Pd.dG Pd.dX Pd.jt Pd.oS
attribute [local grind .] Pd.Ok.ent
attribute [local grind→] Pd.Ok.most
def kL:Ctr Un:=⟨[.one (.ptr 0),.one (.int .i64)],[],[.blk [.obj 1 0,.sl 3] 136,.ob 1 [(1,2,0)],.ob 0 [],.lst 4 false 127],[],fun p g r E rm m A c l K=>E.n=m.S∧l=E.aj∧(E.on m).has p=true∧K ⟨(.bool ((E.on m).clause 8 p)),none,[],[],[]⟩⟩
def BX(p:Int)(g:Nat)(r:Nat→Nat)(E:Pd)(rm:Nat→Nat)(m:Mem)(A:Option Addr)(c:Nat)(l:List Ent)(Q:Ou Un→Prop):Prop:=
 Pd.Ok E→
 Mem.Wf m→
 ∃J:Bool→Prop,(
  E.n=m.S∧
  l=E.aj∧
  (E.on m).has p=true∧
  split (!((E.on m).is p 3)) (
   J true) (
   E.n=m.S∧
   l=E.aj∧
   (E.on m).has p=true∧
   J (!(if(E.on m).is p 1 then((E.on m).at_ p).state !=3 else(E.on m).alive p))))∧∀(Ic:Nat→Value)(PQ:Bool),J PQ→
 split PQ (
  Q ⟨(.bool true),none,[],[],[]⟩) (
  E.n=m.S∧
  l=E.aj∧
  (0≤(256:Int)∧(1024:Int)≤1024)∧
  split (!((E.on m).zero p 256 1024)) (
   Q ⟨(.bool false),none,[],[],[]⟩) (
   ((64:Int)=64∧0≤(64:Int)∧1*(64:Int)≤281474976710656)∧
   ∀(Hm:Nat),
   ∀(l1:List Bl),l1=(List.replicate (Int.toNat 64) (Bl.mk false:Bl))→
   ∀count:Int,count=0→
   (0≤p∧p<(l.length:Int))∧
   E.n=m.S∧
   l=E.aj∧
   ∀(A1:Option Addr)(c1:Nat),
   ∀(l2:List I64),l2=(E.on m).pgs 4 ((l.getD p.toNat Ent.free).owner) (E.on m).S→
   ∃I:Nat→Int→Int→Option Addr→Nat→List Bl→Prop,(∃m1,I m1 count 0 (some (Addr.mk Hm 0 none)) (Int.toNat 64) l1)∧∀(m1:Nat)(I7:Nat→Value)(count1:Int)(HS:Int)(A4:Option Addr)(c4:Nat)(l4:List Bl),I m1 count1 HS A4 c4 l4→
   split (decide (HS<256)) (
    E.n=m.S∧
    l=E.aj∧
    split (((E.on m).word p HS)==0) (
     ∃m2,m2<m1∧I m2 count1 (i64.wrap (HS+1)) A4 c4 l4) (
     (0≤((E.on m).word p HS)∧((E.on m).word p HS)<4294967296)∧
     ∃J1:Bool→Prop,(
      split ((iA ((E.on m).word p HS)) !=0) (
       J1 true) (
       (0≤(aG ((E.on m).word p HS))∧(aG ((E.on m).word p HS))<(l4.length:Int))∧
       J1 ((l4.getD (Int.toNat (aG ((E.on m).word p HS))) (Bl.mk false)).v)))∧∀(Kj:Nat→Value)(x60:Bool),J1 x60→
     split x60 (
      Q ⟨(.bool false),none,[],[],[]⟩) (
      ∃I1:Nat→Int→Int→Option Addr→Nat→List Bl→Prop,(∃m3,I1 m3 count1 0 A4 c4 l4)∧∀(m3:Nat)(IC:Nat→Value)(count2:Int)(I8:Int)(Rz:Option Addr)(Ru:Nat)(NM:List Bl),I1 m3 count2 I8 Rz Ru NM→
      split (decide (I8<((((E.on m).pgs 4 ((l.getD p.toNat Ent.free).owner) (E.on m).S).length):Int))) (
       (0≤I8∧I8<(l2.length:Int))∧
       split ((l2.getD I8.toNat (I64.mk 0)).v==(aG ((E.on m).word p HS))) (
        (0≤(aG ((E.on m).word p HS))∧(aG ((E.on m).word p HS))<(NM.length:Int))∧
        ∀(l3:List Bl),l3=(NM.set (Int.toNat (aG ((E.on m).word p HS))) (Bl.mk true))→
        ∀count3:Int,count3=(i64.wrap (count2+1))→
        ∃m2,m2<m1∧I m2 count3 (i64.wrap (HS+1)) Rz Ru l3) (
        ∃m4,m4<m3∧I1 m4 count2 (i64.wrap (I8+1)) Rz Ru NM)) (
       Q ⟨(.bool false),none,[],[],[]⟩)))) (
    Q ⟨(.bool (count1==((((E.on m).pgs 4 ((l.getD p.toNat Ent.free).owner) (E.on m).S).length):Int))),none,[],[],[]⟩)))
theorem BY:Vc2 Un prog (aN [(119,bT),(179,cY),(121,dm),(180,mf),(175,cg),(181,cX)]) [6] Tryz.f129 (.r' (.two (.two (.two (.node [] (some ⟨[(23,(.one .bool))],[],upN 14 10,[]⟩) [] [] .leaf .leaf) .leaf) (.r' (.r' (.r' (.r' (.two (.r' (.two (.node [] (some ⟨[(6,(.one (.int .i64))),(39,(.one (.int .i64)))],[(5,(.p (.sl 4 0)))],[4,6,8,9,10,11,13]++upN 39 38,[(4,(.lst 3))]⟩) [] [] (.r' (.r' (.two (.two (.r' (.r' (.r' (.r' (.two (.two (.node [] (some ⟨[(60,(.one .bool))],[],upN 53 8,[]⟩) [] [] .leaf .leaf) .leaf) (.two (.r' (.two (.node [] (some ⟨[(6,(.one (.int .i64))),(63,(.one (.int .i64)))],[(5,(.p (.sl 4 0)))],[6,13]++upN 63 13,[(4,(.lst 3))]⟩) [] [] .leaf .leaf) .leaf)) .leaf)))))) .leaf) .leaf))) .leaf) .leaf)) .leaf)))))) .leaf)) [] kL=(∀p g r (E:Pd) rm (m:Mem) A c (l:List Ent),∀Q,(E.n=m.S∧l=E.aj∧(E.on m).has p=true∧Q ⟨(.bool ((E.on m).clause 8 p)),none,[],[],[]⟩)→BX p g r E rm m A c l Q):=by kernel_rfl
section
attribute [local grind=] DB.gC DB.is
theorem BW:LV Un prog 129 kL:=verify Tryz.func129 aa (tb:= [(119,bT),(179,cY),(121,dm),(180,mf),(175,cg),(181,cX)]) ⟨fM,kN,kI,BV,g9,oZ,trivial⟩ (by kernel_rfl) (BY.mpr fun p g r E rm m A c l Q h=>by
 obtain⟨Hw,HB,HH,h⟩:=h
 subst HB
 exact fun f1 f2=>(by(have hw:=fun a b=>ej (E:=E) f2 a b);(have L5:E.aj.getD p.toNat Ent.free=(E.on m).at_ p:=by rw [Pd.bt (by grind),Pd.gu]);exact bB ((!((E.on m).is p 3)) || (!(if(E.on m).is p 1 then((E.on m).at_ p).state !=3 else(E.on m).alive p))) (af ‹_› fun s3=>af (by rfl) fun s4=>af ‹_› fun s5=>ae (fun c1=>(by grind)) fun c1=>af ‹_› fun s6=>af (by rfl) fun s7=>af ‹_› fun s8=>(by grind))<| aL (fun c2=>bj h (by grind)) fun c2=>(by(have RE:((E.on m).at_ p).typ=3∧(E.on m).alive p=true:=by grind);exact af ‹_› fun s9=>af (by rfl) fun K3=>af (by omega) fun JN=>br (fun c3=>bj h (by rw [DB.gC,DB.gO,c3];simp [RE])) fun c3=>af (by omega) fun Mj Hm l1 Ia=>allEq<| af (by grind) fun LK=>af ‹_› fun Mi=>af (by rfl) fun Og A1 c1 l2 Jj=>⟨fun m1 count1 HS A4 c4 l4=>(m1=(256 - HS).toNat)∧(0≤HS∧HS≤256)∧(DB.Nms (E.on m) p HS count1 l4),⟨_,rfl,(by omega),(by rw [Ia];exact DB.Nms.init _ _)⟩,fun m1 _ count1 HS A4 c4 l4 ⟨hm,hx,hn⟩=>(by(have JX:l2=(E.on m).pgs 4 ((E.on m).at_ p).owner (E.on m).S:=by rw [Jj,L5]);(have Rr:(l2.length:Int)≤64:=by rw [JX];(have h8:=DB.gU (E.on m) 4 ((E.on m).at_ p).owner (E.on m).S);have h7:=f1.most;(rw [Pd.oS _ _ Hw]at h8 ⊢);omega);(have hcb:0≤count1∧count1≤64:=by rw [hn.cnt];(have h7:=kC (f:=fun q=>(E.on m).named p HS q==1) (n:=((E.on m).S:Int)) (by omega));(have h6:=fK (f:=fun q=>(E.on m).named p HS q==1) (n:=((E.on m).S:Int)));have h5:=f1.most;(rw [Pd.oS _ _ Hw]at h7 h6 ⊢);omega);exact aA (fun c4=>af ‹_› fun So=>af (by rfl) fun Sn=>aC (fun c5=>⟨_,(by rw [ah (x:=HS+1) (by omega)];omega),rfl,(by rw [ah (x:=HS+1) (by omega)];omega),(by rw [ah (x:=HS+1) (by omega)];exact hn.skip hx.1 c5)⟩) fun c5=>af (hw p HS) fun s18=>bB ((((iA ((E.on m).word p HS)):Int) !=0) || ((l4.getD (Int.toNat (aG ((E.on m).word p HS))) (Bl.mk false)).v)) (ae (fun c6=>(by grind)) fun c6=>af (by(have h8:=mH (hw p HS).1);(have h7:=hn.len);(rw [h7];exact h8)) fun s19=>(by grind))<| aL (fun c7=>bj h (by(have hb:=hn.bad ⟨hx.1,c4⟩ (hw p HS).1 c5 (fun he ho=>by rcases c7 with h | h;(simp [he]at h);exact h));rw [DB.gC,hb];simp [RE])) fun c7=>⟨fun m3 count2 I8 Rz Ru NM=>(m3=((l2.length:Int) - I8).toNat)∧(0≤I8∧I8≤(l2.length:Int))∧(count2=count1)∧(NM=l4)∧(∀j:Nat,(j:Int)<I8→¬(l2.getD j (I64.mk 0)).v=aG ((E.on m).word p HS)),⟨_,rfl,(by omega),(by rfl),(by rfl),(by intro j hj;omega)⟩,fun m3 _ count2 I8 Rz Ru NM ⟨hm,hy,L9,NX,RJ⟩=>(by have hy2:I8<(l2.length:Int)∨¬I8<(l2.length:Int):=Classical.em _;exact aA (fun c8=>af (by rw [Jj];exact⟨hy.1,c8⟩) fun Sm=>aC (fun c9=>af (by(have h8:=mH (hw p HS).1);(have h7:=hn.len);(rw [NX,h7];exact h8)) fun Sl l3 Tl=>allEq<| ⟨_,(by rw [ah (x:=HS+1) (by omega)];omega),rfl,(by rw [ah (x:=HS+1) (by omega)];omega),(by rw [ah (x:=HS+1) (by omega)];(rw [Tl,NX,L9,ah (x:=count1+1) (by omega)];exact hn.put hx.1 (hw p HS).1 c5 (by simpa using c7.1) c7.2 (DB.Fg JX ⟨hy.1,by rw [Jj];exact c8⟩ c9)))⟩) fun c9=>⟨_,(by have Rt:=c8;rw [← Jj]at Rt;rw [ah (x:=I8+1) (by omega)];omega),rfl,(by have Rt:=c8;rw [← Jj]at Rt;rw [ah (x:=I8+1) (by omega)];omega),(L9),(NX),(by have Rt:=c8;rw [← Jj]at Rt;rw [ah (x:=I8+1) (by omega)];intro j hj;by_cases hjx:(j:Int)=I8;(have hjn:j=I8.toNat:=by omega);subst hjn;exact c9;exact RJ j (by omega))⟩) fun c8=>bj h (by(have hb:=hn.bad ⟨hx.1,c4⟩ (hw p HS).1 c5 (fun _ ho=>by rw [DB.Dh JX (fun j hj=>RJ j (by rw [← Jj]at c8;omega))]at ho;cases ho));rw [DB.gC,hb];simp [RE]))⟩) fun c4=>bj h (by(have Qw:HS=256:=by omega);subst Qw;rw [DB.gC,hn.done (by rw [Pd.oS _ _ Hw];exact f1.most) c3,L5];simp [RE]))⟩)))
end
def mQ:Ctr Un:=⟨[.one (.ptr 0),.one (.int .i64)],[],[.blk [.obj 1 0,.sl 3] 136,.ob 1 [(1,2,0)],.ob 0 [],.lst 4 false 127],[],fun p g r E rm m A c l K=>E.n=m.S∧l=E.aj∧(E.on m).has p=true∧K ⟨(.bool ((E.on m).clause 9 p)),none,[],[],[]⟩⟩
def DT(p:Int)(g:Nat)(r:Nat→Nat)(E:Pd)(rm:Nat→Nat)(m:Mem)(A:Option Addr)(c:Nat)(l:List Ent)(Q:Ou Un→Prop):Prop:=
 Pd.Ok E→
 Mem.Wf m→
 ∃J:Bool→Prop,(
  E.n=m.S∧
  l=E.aj∧
  (E.on m).has p=true∧
  split (!((E.on m).is p 4)) (
   J true) (
   E.n=m.S∧
   l=E.aj∧
   (E.on m).has p=true∧
   J (!(if(E.on m).is p 1 then((E.on m).at_ p).state !=3 else(E.on m).alive p))))∧∀(Ic:Nat→Value)(Jd:Bool),J Jd→
 split Jd (
  Q ⟨(.bool true),none,[],[],[]⟩) (
  ∃I:Nat→Int→Prop,(∃m1,I m1 0)∧∀(m1:Nat)(Hn:Nat→Value)(Hz:Int),I m1 Hz→
  split (decide (Hz<1024)) (
   E.n=m.S∧
   l=E.aj∧
   split (((E.on m).word p Hz)==0) (
    ∃m2,m2<m1∧I m2 (i64.wrap (Hz+1))) (
    (0≤((E.on m).word p Hz)∧((E.on m).word p Hz)<4294967296)∧
    ∀(IF:Nat),
    ∃J1:Bool→Prop,(
     split ((kd ((E.on m).word p Hz)) !=0) (
      J1 true) (
      J1 (!(m.has ((bz ((E.on m).word p Hz)).aW) ((bz ((E.on m).word p Hz)).ak)))))∧∀(Kj:Nat→Value)(OR:Bool),J1 OR→
    split OR (
     Q ⟨(.bool false),none,[],[],[]⟩) (
     ∃J2:Bool→Prop,(
      split ((bz ((E.on m).word p Hz)).aW) (
       E.n=m.S∧
       l=E.aj∧
       (E.on m).has ((bz ((E.on m).word p Hz)).ak)=true∧
       split (!((E.on m).is ((bz ((E.on m).word p Hz)).ak) 5)) (
        J2 true) (
        (0≤(bz ((E.on m).word p Hz)).ak∧(bz ((E.on m).word p Hz)).ak<(l.length:Int))∧
        (0≤p∧p<(l.length:Int))∧
        J2 ((l.getD (Int.toNat ((bz ((E.on m).word p Hz)).ak)) Ent.free).owner !=((l.getD p.toNat Ent.free).owner)))) (
       J2 false))∧∀(IC:Nat→Value)(OG:Bool),J2 OG→
     split OG (
      Q ⟨(.bool false),none,[],[],[]⟩) (
      ∃m2,m2<m1∧I m2 (i64.wrap (Hz+1)))))) (
   Q ⟨(.bool true),none,[],[],[]⟩))
theorem DU:Vc2 Un prog (aN [(119,bT),(179,cY),(175,cg),(182,bP),(32,cl),(183,wu)]) [] Tryz.f130 (.r' (.two (.two (.node [] (some ⟨[(18,(.one .bool))],[],upN 9 10,[]⟩) [] [] .leaf .leaf) .leaf) (.two (.r' (.two (.node [] (some ⟨[(19,(.one (.int .i64)))],[],upN 4 5++upN 19 60,[]⟩) [] [] (.r' (.r' (.two (.two (.r' (.r' (.r' (.r' (.two (.two (.node [] (some ⟨[(45,(.one .bool))],[],upN 33 13,[]⟩) [] [(6,[0]),(9,[4])] .leaf .leaf) .leaf) (.two (.node [] (some ⟨[(77,(.one .bool))],[],upN 46 32,[]⟩) [] [(2,[4]),(7,[4]),(14,[0]),(17,[4]),(20,[3]),(24,[0]),(28,[3])] .leaf .leaf) .leaf)))))) .leaf) .leaf))) .leaf) .leaf)) .leaf))) [] mQ=(∀p g r (E:Pd) rm (m:Mem) A c (l:List Ent),∀Q,(E.n=m.S∧l=E.aj∧(E.on m).has p=true∧Q ⟨(.bool ((E.on m).clause 9 p)),none,[],[],[]⟩)→DT p g r E rm m A c l Q):=by kernel_rfl
section
attribute [local grind=] DB.iJ DB.is
theorem DS:LV Un prog 130 mQ:=verify Tryz.func130 aa (tb:= [(119,bT),(179,cY),(175,cg),(182,bP),(32,cl),(183,wu)]) ⟨fM,kN,g9,iL,gK,FM,trivial⟩ (by kernel_rfl) (DU.mpr fun p g r E rm m A c l Q h=>by
 obtain⟨Hw,HB,HH,h⟩:=h
 subst HB
 exact fun f1 f2=>(by(have hw:=fun a b=>ej (E:=E) f2 a b);(have MV:=fun a b=>ah (x:=(E.on m).word a b) (by have:=hw a b;omega));(have MM:=fun a b=>fT (x:=(E.on m).word a b) (by have:=hw a b;omega));(have L5:E.aj.getD p.toNat Ent.free=(E.on m).at_ p:=by rw [Pd.bt (by grind),Pd.gu]);(have hmt:∀q,m.has true q=(E.on m).has q:=fun q=>rfl);(have hmf:∀q,m.has false q=decide (0≤q∧q<(m.I:Int)):=fun q=>rfl);(have SD:=fun w=>xh w);exact bB ((!((E.on m).is p 4)) || (!(if(E.on m).is p 1 then((E.on m).at_ p).state !=3 else(E.on m).alive p))) (af ‹_› fun s3=>af (by rfl) fun s4=>af ‹_› fun s5=>ae (fun c1=>(by grind)) fun c1=>af ‹_› fun s6=>af (by rfl) fun s7=>af ‹_› fun s8=>(by grind))<| aL (fun c2=>bj h (by grind)) fun c2=>⟨fun m1 Hz=>(m1=(1024 - Hz).toNat)∧(0≤Hz∧Hz≤1024)∧(fB ((E.on m).kp p) 0 Hz=true),⟨_,rfl,(by omega),(gE (Int.le_refl _))⟩,fun m1 _ Hz ⟨hm,hx,hz⟩=>aA (fun c3=>af ‹_› fun s9=>af (by rfl) fun K3=>aC (fun c4=>⟨_,(by(have h9:=ah (x:=Hz+1) (by grind));omega),rfl,(by(have h9:=ah (x:=Hz+1) (by grind));omega),(dW hz (by(grind [DB.kp,DB.of])) (ah (by omega)))⟩) fun c4=>af (hw p Hz) fun JN IF=>bB ((((kd ((E.on m).word p Hz)):Int) !=0) || (!(m.has ((bz ((E.on m).word p Hz)).aW) ((bz ((E.on m).word p Hz)).ak)))) (ae (fun c5=>(by grind)) fun c5=>(by grind))<| aL (fun c6=>bj h (by(have hb:(E.on m).kp p Hz=false:=by(grind [DB.kp,DB.of]));rw [DB.iJ,DB.pB,fp hx.1 c3 hb];grind)) fun c6=>bB (((bz ((E.on m).word p Hz)).aW) && ((!((E.on m).is ((bz ((E.on m).word p Hz)).ak) 5)) || (((E.aj.getD (Int.toNat ((bz ((E.on m).word p Hz)).ak)) Ent.free).owner:Int) !=((E.aj.getD p.toNat Ent.free).owner)))) (ae (fun c7=>af ‹_› fun Mj=>af (by rfl) fun LK=>af (by grind) fun Mi=>ae (fun c8=>(by grind)) fun c8=>af (by grind) fun Og=>af (by grind) fun So=>(by grind)) fun c7=>(by grind))<| bW (fun c9=>bj h (by(have hb:(E.on m).kp p Hz=false:=by(grind [DB.kp,DB.of]));rw [DB.iJ,DB.pB,fp hx.1 c3 hb];grind)) fun c9=>⟨_,(by(have h9:=ah (x:=Hz+1) (by grind));omega),rfl,(by(have h9:=ah (x:=Hz+1) (by grind));omega),(dW hz (by(grind [DB.kp,DB.of])) (ah (by omega)))⟩) fun c3=>bj h (by rw [DB.iJ,DB.pB,← show Hz=1024 by omega,hz];simp)⟩))
end
def jm:Ctr Un:=⟨[.one (.ptr 0),.one (.int .i64)],[],[.blk [.obj 1 0,.sl 3] 136,.ob 1 [(1,2,0)],.ob 0 [],.lst 4 false 127],[],fun p g r E rm m A c l K=>E.n=m.S∧l=E.aj∧(E.on m).has p=true∧K ⟨(.bool ((E.on m).clause 10 p)),none,[],[],[]⟩⟩
def zm(p:Int)(g:Nat)(r:Nat→Nat)(E:Pd)(rm:Nat→Nat)(m:Mem)(A:Option Addr)(c:Nat)(l:List Ent)(Q:Ou Un→Prop):Prop:=
 Pd.Ok E→
 Mem.Wf m→
 ∃J:Bool→Prop,(
  E.n=m.S∧
  l=E.aj∧
  (E.on m).has p=true∧
  split (!((E.on m).is p 5)) (
   J true) (
   E.n=m.S∧
   l=E.aj∧
   (E.on m).has p=true∧
   J (!(if(E.on m).is p 1 then((E.on m).at_ p).state !=3 else(E.on m).alive p))))∧∀(Ic:Nat→Value)(KC:Bool),J KC→
 split KC (
  Q ⟨(.bool true),none,[],[],[]⟩) (
  ∀n:Int,n=0→
  (0≤p∧p<(l.length:Int))∧
  E.n=m.S∧
  l=E.aj∧
  ∀(A1:Option Addr)(c1:Nat),
  ∀(l1:List I64),l1=(E.on m).pgs 4 ((l.getD p.toNat Ent.free).owner) (E.on m).S→
  ∃I:Nat→Int→Int→Prop,(∃m1,I m1 n 0)∧∀(m1:Nat)(Hn:Nat→Value)(n1:Int)(Iq:Int),I m1 n1 Iq→
  split (decide (Iq<((((E.on m).pgs 4 ((l.getD p.toNat Ent.free).owner) (E.on m).S).length):Int))) (
   (0≤Iq∧Iq<(l1.length:Int))∧
   ∃I1:Nat→Int→Int→Prop,(∃m3,I1 m3 n1 0)∧∀(m3:Nat)(I7:Nat→Value)(n2:Int)(Ih:Int),I1 m3 n2 Ih→
   split (decide (Ih<1024)) (
    E.n=m.S∧
    l=E.aj∧
    (0≤((E.on m).word ((l1.getD Iq.toNat (I64.mk 0)).v) Ih)∧((E.on m).word ((l1.getD Iq.toNat (I64.mk 0)).v) Ih)<4294967296)∧
    ∀(Jc:Nat),
    ∃J1:Bool→Prop,(
     split ((kd ((E.on m).word ((l1.getD Iq.toNat (I64.mk 0)).v) Ih))==0) (
      J1 (aY #[(.bool ((bz ((E.on m).word ((l1.getD Iq.toNat (I64.mk 0)).v) Ih)).aW)),(.int .i64 ((bz ((E.on m).word ((l1.getD Iq.toNat (I64.mk 0)).v) Ih)).ak))] #[(.bool true),(.int .i64 p)])) (
      J1 false))∧∀(IC:Nat→Value)(M4:Bool),J1 M4→
    split M4 (
     ∀n3:Int,n3=(i64.wrap (n2+1))→
     ∃m4,m4<m3∧I1 m4 n3 (i64.wrap (Ih+1))) (
     ∃m4,m4<m3∧I1 m4 n2 (i64.wrap (Ih+1)))) (
    ∃m2,m2<m1∧I m2 n2 (i64.wrap (Iq+1)))) (
   Q ⟨(.bool (n1==1)),none,[],[],[]⟩))
theorem zn:Vc2 Un prog (aN [(119,bT),(179,cY),(180,mf),(175,cg),(182,bP)]) [5] Tryz.f131 (.r' (.two (.two (.node [] (some ⟨[(20,(.one .bool))],[],upN 11 10,[]⟩) [] [] .leaf .leaf) .leaf) (.r' (.two (.r' (.two (.node [] (some ⟨[(5,(.one (.int .i64))),(32,(.one (.int .i64)))],[],[5,7,8,9,10]++upN 32 28,[]⟩) [] [] (.r' (.r' (.two (.two (.r' (.r' (.two (.node [] (some ⟨[(5,(.one (.int .i64))),(36,(.one (.int .i64)))],[],[5,8,9,10]++upN 36 23,[]⟩) [] [] (.r' (.r' (.two (.two (.r' (.r' (.two (.node [] (some ⟨[(55,(.one .bool))],[],upN 47 9,[]⟩) [] [] .leaf .leaf) .leaf))) .leaf) .leaf))) .leaf) .leaf))) .leaf) .leaf))) .leaf) .leaf)) .leaf)))) [] jm=(∀p g r (E:Pd) rm (m:Mem) A c (l:List Ent),∀Q,(E.n=m.S∧l=E.aj∧(E.on m).has p=true∧Q ⟨(.bool ((E.on m).clause 10 p)),none,[],[],[]⟩)→zm p g r E rm m A c l Q):=by kernel_rfl
section
attribute [local grind=] DB.lE DB.is
theorem zl:LV Un prog 131 jm:=verify Tryz.func131 aa (tb:= [(119,bT),(179,cY),(180,mf),(175,cg),(182,bP)]) ⟨fM,kN,BV,g9,iL,trivial⟩ (by kernel_rfl) (zn.mpr fun p g r E rm m A c l Q h=>by
 obtain⟨Hw,HB,HH,h⟩:=h
 subst HB
 exact fun f1 f2=>(by(have hw:=fun a b=>ej (E:=E) f2 a b);(have MV:=fun a b=>ah (x:=(E.on m).word a b) (by have:=hw a b;omega));(have MM:=fun a b=>fT (x:=(E.on m).word a b) (by have:=hw a b;omega));(have L5:E.aj.getD p.toNat Ent.free=(E.on m).at_ p:=by rw [Pd.bt (by grind),Pd.gu]);(have hmt:∀q,m.has true q=(E.on m).has q:=fun q=>rfl);(have hmf:∀q,m.has false q=decide (0≤q∧q<(m.I:Int)):=fun q=>rfl);(have SD:=fun w=>xh w);exact bB ((!((E.on m).is p 5)) || (!(if(E.on m).is p 1 then((E.on m).at_ p).state !=3 else(E.on m).alive p))) (af ‹_› fun s3=>af (by rfl) fun s4=>af ‹_› fun s5=>ae (fun c1=>(by grind)) fun c1=>af ‹_› fun s6=>af (by rfl) fun s7=>af ‹_› fun s8=>(by grind))<| aL (fun c2=>bj h (by grind)) fun c2=>allEq<| af (by grind) fun s9=>af ‹_› fun K3=>af (by rfl) fun JN A1 c1 l1 Ia=>⟨fun m1 n1 Iq=>(m1=((l1.length:Int) - Iq).toNat)∧(0≤Iq∧Iq≤(l1.length:Int))∧(n1=(E.on m).gm p l1 Iq),⟨_,rfl,(by constructor<;>omega),(by rfl)⟩,fun m1 _ n1 Iq ⟨hm,hx,hn⟩=>(by(have KX:l1=(E.on m).pgs 4 ((E.on m).at_ p).owner (E.on m).S:=by rw [Ia,L5]);exact aA (fun c3=>af (by grind) fun Mj=>⟨fun m3 n2 Ih=>(m3=(1024 - Ih).toNat)∧(0≤Ih∧Ih≤1024)∧(n2=(E.on m).gm p l1 Iq+bR ((E.on m).gY p (l1.getD Iq.toNat (I64.mk 0)).v) Ih),⟨_,rfl,(by omega),(by rw [yU,Int.add_zero];exact hn)⟩,fun m3 _ n2 Ih ⟨hm,hj,Jo⟩=>aA (fun c4=>af ‹_› fun LK=>af (by rfl) fun Mi=>af (hw _ Ih) fun Og Jc=>bB ((((kd ((E.on m).word ((l1.getD Iq.toNat (I64.mk 0)).v) Ih)):Int)==0) && (aY #[(.bool ((bz ((E.on m).word ((l1.getD Iq.toNat (I64.mk 0)).v) Ih)).aW)),(.int .i64 ((bz ((E.on m).word ((l1.getD Iq.toNat (I64.mk 0)).v) Ih)).ak))] #[(.bool true),(.int .i64 p)])) (ae (fun c5=>(by grind)) fun c5=>(by grind))<| bW (fun c6=>allEq<| ⟨_,(by(have h9:=ah (x:=Ih+1) (by grind));omega),rfl,(by(have h9:=ah (x:=Ih+1) (by grind));omega),(by have MZ:=DB.gU (E.on m) 4 ((E.on m).at_ p).owner (E.on m).S;rw [← KX]at MZ;have h9:=ah (x:=Ih+1) (by omega);have h8:=cx (f:=(E.on m).gY p (l1.getD Iq.toNat (I64.mk 0)).v) hj.1;have h7:=kC (f:=(E.on m).gY p (l1.getD Iq.toNat (I64.mk 0)).v) hj.1;have h6:=fK (f:=(E.on m).gY p (l1.getD Iq.toNat (I64.mk 0)).v) (n:=Ih);have h5:=DB.pF (D:=E.on m) (p:=p) (l:=l1) hx.1;have h3:=ah (x:=n2+1) (by grind);(grind [DB.gY,eqF]))⟩) fun c6=>⟨_,(by(have h9:=ah (x:=Ih+1) (by grind));omega),rfl,(by(have h9:=ah (x:=Ih+1) (by grind));omega),(by have MZ:=DB.gU (E.on m) 4 ((E.on m).at_ p).owner (E.on m).S;rw [← KX]at MZ;have h9:=ah (x:=Ih+1) (by omega);have h8:=cx (f:=(E.on m).gY p (l1.getD Iq.toNat (I64.mk 0)).v) hj.1;have h7:=kC (f:=(E.on m).gY p (l1.getD Iq.toNat (I64.mk 0)).v) hj.1;have h6:=fK (f:=(E.on m).gY p (l1.getD Iq.toNat (I64.mk 0)).v) (n:=Ih);have h5:=DB.pF (D:=E.on m) (p:=p) (l:=l1) hx.1;have h3:=ah (x:=n2+1) (by grind);(grind [DB.gY,eqF]))⟩) fun c4=>⟨_,(by have MZ:=DB.gU (E.on m) 4 ((E.on m).at_ p).owner (E.on m).S;rw [← KX]at MZ;rw [ah (x:=Iq+1) (by grind)];grind),rfl,(by have MZ:=DB.gU (E.on m) 4 ((E.on m).at_ p).owner (E.on m).S;rw [← KX]at MZ;rw [ah (x:=Iq+1) (by grind)];grind),(by have MZ:=DB.gU (E.on m) 4 ((E.on m).at_ p).owner (E.on m).S;rw [← KX]at MZ;rw [ah (x:=Iq+1) (by grind),DB.nd ⟨hx.1,by grind⟩,Jo,show Ih=1024 by omega])⟩⟩) fun c3=>bj h (by(have hb:=DB.once_eq (D:=E.on m) (p:=p) (n:=n1) (x:=Iq) (by rw [← KX];grind) (by rw [← KX];exact hn));rw [DB.lE,hb];grind))⟩))
end
end
section
set_option maxRecDepth 100000
set_option maxHeartbeats 1000000
attribute [local irreducible] Vc2 VcD
attribute [local grind=] Pd.bN Pd.bt Pd.fX Pd.gu Pd.ep Pd.du Pd.dG Pd.dX Pd.jt
attribute [local grind .] Pd.Ok.ent
attribute [local grind→] Pd.Ok.most
theorem DB.n6 {D:DB} {c p:Int}(hc:1≤c∧c≤12)(hb:D.eh (13 - c).toNat c=D.broken)(hz:fB (D.clause c) 0 p=true)(hf:D.clause c p=false)(hp:0≤p∧p<(D.S:Int)):D.broken=(c,p):=by
 rw [← hb,show(13 - c).toNat=(12 - c).toNat+1 by omega,eh,fZ,fp hp.1 hp.2 hf,leastN_eq hz hf hp.1 (by omega)]
 rfl
theorem DB.tT {D:DB} {c:Int}(hc:1≤c∧c≤12)(hb:D.eh (13 - c).toNat c=D.broken) {p:Int}(hp:p=(D.S:Int))(hz:fB (D.clause c) 0 p=true):D.eh (13 - (c+1)).toNat (c+1)=D.broken:=by
 subst hp
 rw [← hb,show(13 - c).toNat=(13 - (c+1)).toNat+1 by omega,eh,fZ,hz]
 rfl
theorem DB.l7 {D:DB} {c:Int}(hc:¬c≤12)(L9:c≤13)(hb:D.eh (13 - c).toNat c=D.broken):D.broken=(0,0):=by
 rw [← hb,show(13 - c).toNat=0 by omega];rfl
end
section
set_option maxRecDepth 100000
set_option maxHeartbeats 1000000
attribute [local irreducible] Vc2 VcD
attribute [local grind=] Pd.bN Pd.bt Pd.fX Pd.gu Pd.ep Pd.du Pd.dG Pd.dX Pd.jt Pd.oS
attribute [local grind .] Pd.Ok.ent
attribute [local grind→] Pd.Ok.most
def fR:Ctr Un:=⟨[.one (.int .i64),.one (.ptr 0)],[],[.blk [.ptr 1] 130,.blk [.obj 2 0,.sl 4] 136,.ob 1 [(1,3,0)],.ob 0 [],.lst 4 false 127],[],fun p gb g r E rm m A c l K=>E.n=m.S∧l=E.aj∧(E.on m).has p=true∧K ⟨(.bool ((E.on m).clause 1 p)),none,[],[],[]⟩⟩
def uz(p:Int)(gb:Nat)(g:Nat)(r:Nat→Nat)(E:Pd)(rm:Nat→Nat)(m:Mem)(A:Option Addr)(c:Nat)(l:List Ent)(Q:Ou Un→Prop):Prop:=
 Pd.Ok E→
 Mem.Wf m→
 ∃J:Bool→Prop,(
  E.n=m.S∧
  l=E.aj∧
  (E.on m).has p=true∧
  split (!((E.on m).is p 1)) (
   J true) (
   (0≤p∧p<(l.length:Int))∧
   J ((l.getD p.toNat Ent.free).owner==p)))∧∀(Ic:Nat→Value)(x3:Bool),J x3→
 Q ⟨(.bool x3),none,[],[],[]⟩
theorem uA:Vc2 Un prog (aN [(119,bT)]) [] Tryz.f118 (.r' (.two (.node [] (some ⟨[(3,(.one .bool))],[],upN 3 17,[]⟩) [] [] .leaf .leaf) .leaf)) [] fR=(∀p gb g r (E:Pd) rm (m:Mem) A c (l:List Ent),∀Q,(E.n=m.S∧l=E.aj∧(E.on m).has p=true∧Q ⟨(.bool ((E.on m).clause 1 p)),none,[],[],[]⟩)→uz p gb g r E rm m A c l Q):=by kernel_rfl
section
attribute [local grind=] DB.tP DB.is
theorem uy:LV Un prog 118 fR:=verify Tryz.func118 aa (tb:= [(119,bT)]) ⟨fM,trivial⟩ (by kernel_rfl) (uA.mpr fun p gb g r E rm m A c l Q h=>by
 obtain⟨Hw,HB,HH,h⟩:=h
 subst HB
 exact fun f1 f2=>bB ((!((E.on m).is p 1)) || (((E.aj.getD p.toNat Ent.free).owner:Int)==p)) (af ‹_› fun s3=>af (by rfl) fun s4=>af ‹_› fun s5=>ae (fun c1=>(by grind)) fun c1=>af (by grind) fun s6=>(by grind))<| bj h (by grind))
end
def fQ:Ctr Un:=⟨[.one (.int .i64),.one (.ptr 0)],[],[.blk [.ptr 1] 130,.blk [.obj 2 0,.sl 4] 136,.ob 1 [(1,3,0)],.ob 0 [],.lst 4 false 127],[],fun p gb g r E rm m A c l K=>E.n=m.S∧l=E.aj∧(E.on m).has p=true∧K ⟨(.bool ((E.on m).clause 2 p)),none,[],[],[]⟩⟩
def uw(p:Int)(gb:Nat)(g:Nat)(r:Nat→Nat)(E:Pd)(rm:Nat→Nat)(m:Mem)(A:Option Addr)(c:Nat)(l:List Ent)(Q:Ou Un→Prop):Prop:=
 Pd.Ok E→
 Mem.Wf m→
 ∃J:Bool→Prop,(
  E.n=m.S∧
  l=E.aj∧
  (E.on m).has p=true∧
  split (!((E.on m).is p 0)) (
   J true) (
   E.n=m.S∧
   l=E.aj∧
   (0≤(0:Int)∧(1024:Int)≤1024)∧
   J ((E.on m).zero p 0 1024)))∧∀(Ic:Nat→Value)(x3:Bool),J x3→
 Q ⟨(.bool x3),none,[],[],[]⟩
theorem ux:Vc2 Un prog (aN [(119,bT),(121,dm)]) [] Tryz.f120 (.r' (.two (.node [] (some ⟨[(3,(.one .bool))],[],upN 3 10,[]⟩) [] [] .leaf .leaf) .leaf)) [] fQ=(∀p gb g r (E:Pd) rm (m:Mem) A c (l:List Ent),∀Q,(E.n=m.S∧l=E.aj∧(E.on m).has p=true∧Q ⟨(.bool ((E.on m).clause 2 p)),none,[],[],[]⟩)→uw p gb g r E rm m A c l Q):=by kernel_rfl
section
attribute [local grind=] DB.tO DB.is
theorem uv:LV Un prog 120 fQ:=verify Tryz.func120 aa (tb:= [(119,bT),(121,dm)]) ⟨fM,kI,trivial⟩ (by kernel_rfl) (ux.mpr fun p gb g r E rm m A c l Q h=>by
 obtain⟨Hw,HB,HH,h⟩:=h
 subst HB
 exact fun f1 f2=>bB ((!((E.on m).is p 0)) || ((E.on m).zero p 0 1024)) (af ‹_› fun s3=>af (by rfl) fun s4=>af ‹_› fun s5=>ae (fun c1=>(by grind)) fun c1=>af ‹_› fun s6=>af (by rfl) fun s7=>af (by omega) fun s8=>(by grind))<| bj h (by grind))
end
def fP:Ctr Un:=⟨[.one (.int .i64),.one (.ptr 0)],[],[.blk [.ptr 1] 130,.blk [.obj 2 0,.sl 4] 136,.ob 1 [(1,3,0)],.ob 0 [],.lst 4 false 127],[],fun p gb g r E rm m A c l K=>E.n=m.S∧l=E.aj∧(E.on m).has p=true∧K ⟨(.bool ((E.on m).clause 3 p)),none,[],[],[]⟩⟩
def ur(p:Int)(gb:Nat)(g:Nat)(r:Nat→Nat)(E:Pd)(rm:Nat→Nat)(m:Mem)(A:Option Addr)(c:Nat)(l:List Ent)(Q:Ou Un→Prop):Prop:=
 Pd.Ok E→
 Mem.Wf m→
 ∃J:Bool→Prop,(
  E.n=m.S∧
  l=E.aj∧
  (E.on m).has p=true∧
  split ((E.on m).is p 0) (
   J true) (
   E.n=m.S∧
   l=E.aj∧
   (E.on m).has p=true∧
   split ((E.on m).is p 1) (
    J true) (
    E.n=m.S∧
    l=E.aj∧
    (E.on m).has p=true∧
    J (decide (((E.on m).bE p)≥0)))))∧∀(Ic:Nat→Value)(x3:Bool),J x3→
 Q ⟨(.bool x3),none,[],[],[]⟩
theorem uu:Vc2 Un prog (aN [(119,bT),(123,eA)]) [] Tryz.f122 (.r' (.two (.node [] (some ⟨[(3,(.one .bool))],[],upN 3 15,[]⟩) [] [] .leaf .leaf) .leaf)) [] fP=(∀p gb g r (E:Pd) rm (m:Mem) A c (l:List Ent),∀Q,(E.n=m.S∧l=E.aj∧(E.on m).has p=true∧Q ⟨(.bool ((E.on m).clause 3 p)),none,[],[],[]⟩)→ur p gb g r E rm m A c l Q):=by kernel_rfl
section
attribute [local grind=] DB.tN DB.is DB.bE
theorem uq:LV Un prog 122 fP:=verify Tryz.func122 aa (tb:= [(119,bT),(123,eA)]) ⟨fM,oq,trivial⟩ (by kernel_rfl) (uu.mpr fun p gb g r E rm m A c l Q h=>by
 obtain⟨Hw,HB,HH,h⟩:=h
 subst HB
 exact fun f1 f2=>bB (((E.on m).is p 0) || (((E.on m).is p 1) || (decide ((((E.on m).bE p):Int)≥0)))) (af ‹_› fun s3=>af (by rfl) fun s4=>af ‹_› fun s5=>ae (fun c1=>(by grind)) fun c1=>af ‹_› fun s6=>af (by rfl) fun s7=>af ‹_› fun s8=>ae (fun c2=>(by grind)) fun c2=>af ‹_› fun s9=>af (by rfl) fun K3=>af ‹_› fun JN=>(by grind))<| bj h (by grind))
end
def fO:Ctr Un:=⟨[.one (.int .i64),.one (.ptr 0)],[],[.blk [.ptr 1] 130,.blk [.obj 2 0,.sl 4] 136,.ob 1 [(1,3,0)],.ob 0 [],.lst 4 false 127],[],fun p gb g r E rm m A c l K=>E.n=m.S∧l=E.aj∧(E.on m).has p=true∧K ⟨(.bool ((E.on m).clause 4 p)),none,[],[],[]⟩⟩
def um(p:Int)(gb:Nat)(g:Nat)(r:Nat→Nat)(E:Pd)(rm:Nat→Nat)(m:Mem)(A:Option Addr)(c:Nat)(l:List Ent)(Q:Ou Un→Prop):Prop:=
 Pd.Ok E→
 Mem.Wf m→
 ∃J:Bool→Prop,(
  E.n=m.S∧
  l=E.aj∧
  (E.on m).has p=true∧
  split (!((E.on m).is p 1)) (
   J true) (
   (0≤p∧p<(l.length:Int))∧
   E.n=m.S∧
   ∀(A1:Option Addr)(c1:Nat),
   ∀(l1:List I64),l1=own (E.on m) p→
   J ((l.getD p.toNat Ent.free).refs==(((own (E.on m) p).length):Int))))∧∀(Ic:Nat→Value)(x3:Bool),J x3→
 Q ⟨(.bool x3),none,[],[],[]⟩
theorem uo:Vc2 Un prog (aN [(119,bT),(125,oL)]) [] Tryz.f124 (.r' (.two (.node [] (some ⟨[(3,(.one .bool))],[],upN 3 23,[]⟩) [] [(0,[0]),(5,[0]),(8,[1]),(12,[4]),(13,[0]),(16,[1])] .leaf .leaf) .leaf)) [] fO=(∀p gb g r (E:Pd) rm (m:Mem) A c (l:List Ent),∀Q,(E.n=m.S∧l=E.aj∧(E.on m).has p=true∧Q ⟨(.bool ((E.on m).clause 4 p)),none,[],[],[]⟩)→um p gb g r E rm m A c l Q):=by kernel_rfl
section
attribute [local grind=] DB.tM DB.is own DB.di
theorem uk:LV Un prog 124 fO:=verify Tryz.func124 aa (tb:= [(119,bT),(125,oL)]) ⟨fM,CM,trivial⟩ (by kernel_rfl) (uo.mpr fun p gb g r E rm m A c l Q h=>by
 obtain⟨Hw,HB,HH,h⟩:=h
 subst HB
 exact fun f1 f2=>bB ((!((E.on m).is p 1)) || (((E.aj.getD p.toNat Ent.free).refs:Int)==((((own (E.on m) p).length):Nat):Int))) (af ‹_› fun s3=>af (by rfl) fun s4=>af ‹_› fun s5=>ae (fun c1=>(by grind)) fun c1=>af (by grind) fun s6=>af ‹_› fun s7 A1 c1 l1 Ia=>(by grind))<| bj h (by grind))
end
def fN:Ctr Un:=⟨[.one (.int .i64),.one (.ptr 0)],[],[.blk [.ptr 1] 130,.blk [.obj 2 0,.sl 4] 136,.ob 1 [(1,3,0)],.ob 0 [],.lst 4 false 127],[],fun p gb g r E rm m A c l K=>E.n=m.S∧l=E.aj∧(E.on m).has p=true∧K ⟨(.bool ((E.on m).clause 12 p)),none,[],[],[]⟩⟩
def ui(p:Int)(gb:Nat)(g:Nat)(r:Nat→Nat)(E:Pd)(rm:Nat→Nat)(m:Mem)(A:Option Addr)(c:Nat)(l:List Ent)(Q:Ou Un→Prop):Prop:=
 Pd.Ok E→
 Mem.Wf m→
 ∃J:Bool→Prop,(
  E.n=m.S∧
  l=E.aj∧
  (E.on m).has p=true∧
  split (!((E.on m).is p 6)) (
   J true) (
   E.n=m.S∧
   l=E.aj∧
   (0≤(0:Int)∧(1024:Int)≤1024)∧
   J ((E.on m).zero p 0 1024)))∧∀(Ic:Nat→Value)(x3:Bool),J x3→
 Q ⟨(.bool x3),none,[],[],[]⟩
theorem uj:Vc2 Un prog (aN [(119,bT),(121,dm)]) [] Tryz.f133 (.r' (.two (.node [] (some ⟨[(3,(.one .bool))],[],upN 3 10,[]⟩) [] [] .leaf .leaf) .leaf)) [] fN=(∀p gb g r (E:Pd) rm (m:Mem) A c (l:List Ent),∀Q,(E.n=m.S∧l=E.aj∧(E.on m).has p=true∧Q ⟨(.bool ((E.on m).clause 12 p)),none,[],[],[]⟩)→ui p gb g r E rm m A c l Q):=by kernel_rfl
section
attribute [local grind=] DB.qh DB.is
theorem uh:LV Un prog 133 fN:=verify Tryz.func133 aa (tb:= [(119,bT),(121,dm)]) ⟨fM,kI,trivial⟩ (by kernel_rfl) (uj.mpr fun p gb g r E rm m A c l Q h=>by
 obtain⟨Hw,HB,HH,h⟩:=h
 subst HB
 exact fun f1 f2=>bB ((!((E.on m).is p 6)) || ((E.on m).zero p 0 1024)) (af ‹_› fun s3=>af (by rfl) fun s4=>af ‹_› fun s5=>ae (fun c1=>(by grind)) fun c1=>af ‹_› fun s6=>af (by rfl) fun s7=>af (by omega) fun s8=>(by grind))<| bj h (by grind))
end
def cf(g gb:Nat)(n:Int):Value:=
 if n=1 then .func (.func 118) #[] #[.pointer (some ⟨gb,0,none⟩)]
 else if n=2 then .func (.func 120) #[] #[.pointer (some ⟨gb,0,none⟩)]
 else if n=3 then .func (.func 122) #[] #[.pointer (some ⟨gb,0,none⟩)]
 else if n=4 then .func (.func 124) #[] #[.pointer (some ⟨gb,0,none⟩)]
 else if n=5 then .func (.func 126) #[.pointer (some ⟨g,0,none⟩)] #[]
 else if n=6 then .func (.func 127) #[.pointer (some ⟨g,0,none⟩)] #[]
 else if n=7 then .func (.func 128) #[.pointer (some ⟨g,0,none⟩)] #[]
 else if n=8 then .func (.func 129) #[.pointer (some ⟨g,0,none⟩)] #[]
 else if n=9 then .func (.func 130) #[.pointer (some ⟨g,0,none⟩)] #[]
 else if n=10 then .func (.func 131) #[.pointer (some ⟨g,0,none⟩)] #[]
 else if n=11 then .func (.func 132) #[.pointer (some ⟨g,0,none⟩)] #[]
 else .func (.func 133) #[] #[.pointer (some ⟨gb,0,none⟩)]
def jn:Ctr Un:=⟨[.one (.ptr 0),.one (.int .i64)],[],[.blk [.obj 1 0,.sl 3] 136,.ob 1 [(1,2,0)],.ob 0 [],.lst 4 false 127],[],fun n g r E rm m A c l K=>E.n=m.S∧l=E.aj∧∀(gb:Nat)(v:Value),v=cf g gb n→K ⟨v,none,[],[(.blk gb [(.pointer (some (Addr.mk g 0 none)))] 130)],[(.c 4 0,.p (.loc 0 0))]⟩⟩
def zp(n:Int)(g:Nat)(r:Nat→Nat)(E:Pd)(rm:Nat→Nat)(m:Mem)(A:Option Addr)(c:Nat)(l:List Ent)(Q:Ou Un→Prop):Prop:=
 Pd.Ok E→
 Mem.Wf m→
 ∀(gv:Nat),
 ∀x6:Bool,x6=((n:Int)==1)→
 split x6 (
  ∃J:Value→Prop,(
   J (.func (.func 118) #[] #[(.pointer (some (Addr.mk gv 0 none)))]))∧∀(Hn:Nat→Value)(x4:Value),J x4→
  Q ⟨x4,none,[],[(.blk gv [(.pointer (some (Addr.mk g 0 none)))] 130)],[(.c 4 0,.p (.loc 0 0))]⟩) (
  ∀x9:Bool,x9=((n:Int)==2)→
  split x9 (
   ∃J:Value→Prop,(
    J (.func (.func 120) #[] #[(.pointer (some (Addr.mk gv 0 none)))]))∧∀(Hn:Nat→Value)(x4:Value),J x4→
   Q ⟨x4,none,[],[(.blk gv [(.pointer (some (Addr.mk g 0 none)))] 130)],[(.c 4 0,.p (.loc 0 0))]⟩) (
   ∀HU:Bool,HU=((n:Int)==3)→
   split HU (
    ∃J:Value→Prop,(
     J (.func (.func 122) #[] #[(.pointer (some (Addr.mk gv 0 none)))]))∧∀(Hn:Nat→Value)(x4:Value),J x4→
    Q ⟨x4,none,[],[(.blk gv [(.pointer (some (Addr.mk g 0 none)))] 130)],[(.c 4 0,.p (.loc 0 0))]⟩) (
    ∀HA:Bool,HA=((n:Int)==4)→
    split HA (
     ∃J:Value→Prop,(
      J (.func (.func 124) #[] #[(.pointer (some (Addr.mk gv 0 none)))]))∧∀(Hn:Nat→Value)(x4:Value),J x4→
     Q ⟨x4,none,[],[(.blk gv [(.pointer (some (Addr.mk g 0 none)))] 130)],[(.c 4 0,.p (.loc 0 0))]⟩) (
     ∀Jd:Bool,Jd=((n:Int)==5)→
     split Jd (
      ∃J:Value→Prop,(
       J (.func (.func 126) #[(.pointer (some (Addr.mk g 0 none)))] #[]))∧∀(Hn:Nat→Value)(x4:Value),J x4→
      Q ⟨x4,none,[],[(.blk gv [(.pointer (some (Addr.mk g 0 none)))] 130)],[(.c 4 0,.p (.loc 0 0))]⟩) (
      ∀Ht:Bool,Ht=((n:Int)==6)→
      split Ht (
       ∃J:Value→Prop,(
        J (.func (.func 127) #[(.pointer (some (Addr.mk g 0 none)))] #[]))∧∀(Hn:Nat→Value)(x4:Value),J x4→
       Q ⟨x4,none,[],[(.blk gv [(.pointer (some (Addr.mk g 0 none)))] 130)],[(.c 4 0,.p (.loc 0 0))]⟩) (
       ∀Jl:Bool,Jl=((n:Int)==7)→
       split Jl (
        ∃J:Value→Prop,(
         J (.func (.func 128) #[(.pointer (some (Addr.mk g 0 none)))] #[]))∧∀(Hn:Nat→Value)(x4:Value),J x4→
        Q ⟨x4,none,[],[(.blk gv [(.pointer (some (Addr.mk g 0 none)))] 130)],[(.c 4 0,.p (.loc 0 0))]⟩) (
        ∀HQ:Bool,HQ=((n:Int)==8)→
        split HQ (
         ∃J:Value→Prop,(
          J (.func (.func 129) #[(.pointer (some (Addr.mk g 0 none)))] #[]))∧∀(Hn:Nat→Value)(x4:Value),J x4→
         Q ⟨x4,none,[],[(.blk gv [(.pointer (some (Addr.mk g 0 none)))] 130)],[(.c 4 0,.p (.loc 0 0))]⟩) (
         ∀M6:Bool,M6=((n:Int)==9)→
         split M6 (
          ∃J:Value→Prop,(
           J (.func (.func 130) #[(.pointer (some (Addr.mk g 0 none)))] #[]))∧∀(Hn:Nat→Value)(x4:Value),J x4→
          Q ⟨x4,none,[],[(.blk gv [(.pointer (some (Addr.mk g 0 none)))] 130)],[(.c 4 0,.p (.loc 0 0))]⟩) (
          ∀x38:Bool,x38=((n:Int)==10)→
          split x38 (
           ∃J:Value→Prop,(
            J (.func (.func 131) #[(.pointer (some (Addr.mk g 0 none)))] #[]))∧∀(Hn:Nat→Value)(x4:Value),J x4→
           Q ⟨x4,none,[],[(.blk gv [(.pointer (some (Addr.mk g 0 none)))] 130)],[(.c 4 0,.p (.loc 0 0))]⟩) (
           ∀M5:Bool,M5=((n:Int)==11)→
           split M5 (
            ∃J:Value→Prop,(
             J (.func (.func 132) #[(.pointer (some (Addr.mk g 0 none)))] #[]))∧∀(Hn:Nat→Value)(x4:Value),J x4→
            Q ⟨x4,none,[],[(.blk gv [(.pointer (some (Addr.mk g 0 none)))] 130)],[(.c 4 0,.p (.loc 0 0))]⟩) (
            ∃J:Value→Prop,(
             J (.func (.func 133) #[] #[(.pointer (some (Addr.mk gv 0 none)))]))∧∀(Hn:Nat→Value)(x4:Value),J x4→
            Q ⟨x4,none,[],[(.blk gv [(.pointer (some (Addr.mk g 0 none)))] 130)],[(.c 4 0,.p (.loc 0 0))]⟩)))))))))))
theorem zq:Vc2 Un prog (aN []) [6,9,12,15,18,22,26,30,34,38,42] Tryz.f74 (.r' (.two (.r' (.two (.r' (.two (.two (.node [] (some ⟨[(4,(.one .val))],[],[4,8],[]⟩) [] [] .leaf .leaf) .leaf) (.r' (.two (.two (.node [] (some ⟨[(4,(.one .val))],[],[4,11],[]⟩) [] [] .leaf .leaf) .leaf) (.r' (.two (.two (.node [] (some ⟨[(4,(.one .val))],[],[4,14],[]⟩) [] [] .leaf .leaf) .leaf) (.r' (.two (.two (.node [] (some ⟨[(4,(.one .val))],[],[4,17],[]⟩) [] [] .leaf .leaf) .leaf) (.r' (.two (.two (.node [] (some ⟨[(4,(.one .val))],[],[4,20,21],[]⟩) [] [] .leaf .leaf) .leaf) (.r' (.two (.two (.node [] (some ⟨[(4,(.one .val))],[],[4,24,25],[]⟩) [] [] .leaf .leaf) .leaf) (.r' (.two (.two (.node [] (some ⟨[(4,(.one .val))],[],[4,28,29],[]⟩) [] [] .leaf .leaf) .leaf) (.r' (.two (.two (.node [] (some ⟨[(4,(.one .val))],[],[4,32,33],[]⟩) [] [] .leaf .leaf) .leaf) (.r' (.two (.two (.node [] (some ⟨[(4,(.one .val))],[],[4,36,37],[]⟩) [] [] .leaf .leaf) .leaf) (.r' (.two (.two (.node [] (some ⟨[(4,(.one .val))],[],[4,40,41],[]⟩) [] [] .leaf .leaf) .leaf) (.r' (.two (.two (.node [] (some ⟨[(4,(.one .val))],[],[4,44,45],[]⟩) [] [] .leaf .leaf) .leaf) .leaf)))))))))))))))))))))) .leaf)) (.two (.node [] (some ⟨[(4,(.one .val))],[],[4,46],[]⟩) [] [] .leaf .leaf) .leaf))) [4] jn=(∀n g r (E:Pd) rm (m:Mem) A c (l:List Ent),∀Q,(E.n=m.S∧l=E.aj∧∀(gb:Nat)(v:Value),v=cf g gb n→Q ⟨v,none,[],[(.blk gb [(.pointer (some (Addr.mk g 0 none)))] 130)],[(.c 4 0,.p (.loc 0 0))]⟩)→zp n g r E rm m A c l Q):=by kernel_rfl
theorem zo:LV Un prog 74 jn:=verify Tryz.func74 aa (tb:= []) trivial (by kernel_rfl) (zq.mpr fun n g r E rm m A c l Q h=>by
 obtain⟨Hw,HB,h⟩:=h
 subst HB
 exact fun f1 f2 gv=>allEq<| aC (fun c1=>mw<| aF (h gv (.func (.func 118) #[] #[(.pointer (some (Addr.mk gv 0 none)))]) (by simp [cf,c1])) rfl rfl (ab (congrArg (fun l=>Res.blk (U:=Un) _ l _) rfl) rfl)) fun c1=>allEq<| aC (fun c2=>mw<| aF (h gv (.func (.func 120) #[] #[(.pointer (some (Addr.mk gv 0 none)))]) (by simp [cf,c1,c2])) rfl rfl (ab (congrArg (fun l=>Res.blk (U:=Un) _ l _) rfl) rfl)) fun c2=>allEq<| aC (fun c3=>mw<| aF (h gv (.func (.func 122) #[] #[(.pointer (some (Addr.mk gv 0 none)))]) (by simp [cf,c1,c2,c3])) rfl rfl (ab (congrArg (fun l=>Res.blk (U:=Un) _ l _) rfl) rfl)) fun c3=>allEq<| aC (fun c4=>mw<| aF (h gv (.func (.func 124) #[] #[(.pointer (some (Addr.mk gv 0 none)))]) (by simp [cf,c1,c2,c3,c4])) rfl rfl (ab (congrArg (fun l=>Res.blk (U:=Un) _ l _) rfl) rfl)) fun c4=>allEq<| aC (fun c5=>mw<| aF (h gv (.func (.func 126) #[(.pointer (some (Addr.mk g 0 none)))] #[]) (by simp [cf,c1,c2,c3,c4,c5])) rfl rfl (ab (congrArg (fun l=>Res.blk (U:=Un) _ l _) rfl) rfl)) fun c5=>allEq<| aC (fun c6=>mw<| aF (h gv (.func (.func 127) #[(.pointer (some (Addr.mk g 0 none)))] #[]) (by simp [cf,c1,c2,c3,c4,c5,c6])) rfl rfl (ab (congrArg (fun l=>Res.blk (U:=Un) _ l _) rfl) rfl)) fun c6=>allEq<| aC (fun c7=>mw<| aF (h gv (.func (.func 128) #[(.pointer (some (Addr.mk g 0 none)))] #[]) (by simp [cf,c1,c2,c3,c4,c5,c6,c7])) rfl rfl (ab (congrArg (fun l=>Res.blk (U:=Un) _ l _) rfl) rfl)) fun c7=>allEq<| aC (fun c8=>mw<| aF (h gv (.func (.func 129) #[(.pointer (some (Addr.mk g 0 none)))] #[]) (by simp [cf,c1,c2,c3,c4,c5,c6,c7,c8])) rfl rfl (ab (congrArg (fun l=>Res.blk (U:=Un) _ l _) rfl) rfl)) fun c8=>allEq<| aC (fun c9=>mw<| aF (h gv (.func (.func 130) #[(.pointer (some (Addr.mk g 0 none)))] #[]) (by simp [cf,c1,c2,c3,c4,c5,c6,c7,c8,c9])) rfl rfl (ab (congrArg (fun l=>Res.blk (U:=Un) _ l _) rfl) rfl)) fun c9=>allEq<| aC (fun Ki=>mw<| aF (h gv (.func (.func 131) #[(.pointer (some (Addr.mk g 0 none)))] #[]) (by simp [cf,c1,c2,c3,c4,c5,c6,c7,c8,c9,Ki])) rfl rfl (ab (congrArg (fun l=>Res.blk (U:=Un) _ l _) rfl) rfl)) fun Ki=>allEq<| aC (fun K1=>mw<| aF (h gv (.func (.func 132) #[(.pointer (some (Addr.mk g 0 none)))] #[]) (by simp [cf,c1,c2,c3,c4,c5,c6,c7,c8,c9,Ki,K1])) rfl rfl (ab (congrArg (fun l=>Res.blk (U:=Un) _ l _) rfl) rfl)) fun K1=>mw<| aF (h gv (.func (.func 133) #[] #[(.pointer (some (Addr.mk gv 0 none)))]) (by simp [cf,c1,c2,c3,c4,c5,c6,c7,c8,c9,Ki,K1])) rfl rfl (ab (congrArg (fun l=>Res.blk (U:=Un) _ l _) rfl) rfl))
def gF:Ctr Un:=⟨[.one (.obj 0 0)],[],[.ob 1 [(1,1,0)],.ob 0 []],[],fun r E rm m K=>E.n=m.S∧K ⟨(.tuple #[(.int .i64 ((E.on m).broken.1)),(.int .i64 ((E.on m).broken.2))]),(some (.t [none,none])),[],[],[]⟩⟩
def zs(r:Nat→Nat)(E:Pd)(rm:Nat→Nat)(m:Mem)(Q:Ou Un→Prop):Prop:=
 Pd.Ok E→
 Mem.Wf m→
 E.n=m.S∧
 ∀(gv:Nat)(A:Option Addr)(c:Nat),
 ∀(l:List Ent),l=E.aj→
 ∃I:Nat→Int→Int→Int→Prop,(∃m1,I m1 0 0 0)∧∀(m1:Nat)(Hn:Nat→Value)(number:Int)(ak:Int)(HE:Int),I m1 number ak HE→
 split (decide (HE<12)) (
  E.n=m.S∧
  l=E.aj∧
  ∀(gb:Nat)(v:Value),
  v=cf gv gb (i64.wrap (HE+1))→
  ∃I1:Nat→Int→Int→Int→Prop,(∃m3,I1 m3 number ak 0)∧∀(m3:Nat)(I7:Nat→Value)(number1:Int)(page1:Int)(Ht:Int),I1 m3 number1 page1 Ht→
  split (decide (Ht<(E.aj.length:Int))) (
   ∃b:Bool,(
    (v=(.func (.func 118) #[] #[(.pointer (some (Addr.mk gb 0 none)))])∧
     E.n=m.S∧
     l=E.aj∧
     (E.on m).has Ht=true∧
     ((.bool ((E.on m).clause 1 Ht)):Value)=(.bool b))∨
    (v=(.func (.func 120) #[] #[(.pointer (some (Addr.mk gb 0 none)))])∧
     E.n=m.S∧
     l=E.aj∧
     (E.on m).has Ht=true∧
     ((.bool ((E.on m).clause 2 Ht)):Value)=(.bool b))∨
    (v=(.func (.func 122) #[] #[(.pointer (some (Addr.mk gb 0 none)))])∧
     E.n=m.S∧
     l=E.aj∧
     (E.on m).has Ht=true∧
     ((.bool ((E.on m).clause 3 Ht)):Value)=(.bool b))∨
    (v=(.func (.func 124) #[] #[(.pointer (some (Addr.mk gb 0 none)))])∧
     E.n=m.S∧
     l=E.aj∧
     (E.on m).has Ht=true∧
     ((.bool ((E.on m).clause 4 Ht)):Value)=(.bool b))∨
    (v=(.func (.func 126) #[(.pointer (some (Addr.mk gv 0 none)))] #[])∧
     E.n=m.S∧
     l=E.aj∧
     (E.on m).has Ht=true∧
     ((.bool ((E.on m).clause 5 Ht)):Value)=(.bool b))∨
    (v=(.func (.func 127) #[(.pointer (some (Addr.mk gv 0 none)))] #[])∧
     E.n=m.S∧
     l=E.aj∧
     (E.on m).has Ht=true∧
     ((.bool ((E.on m).clause 6 Ht)):Value)=(.bool b))∨
    (v=(.func (.func 128) #[(.pointer (some (Addr.mk gv 0 none)))] #[])∧
     E.n=m.S∧
     l=E.aj∧
     (E.on m).has Ht=true∧
     ((.bool ((E.on m).clause 7 Ht)):Value)=(.bool b))∨
    (v=(.func (.func 129) #[(.pointer (some (Addr.mk gv 0 none)))] #[])∧
     E.n=m.S∧
     l=E.aj∧
     (E.on m).has Ht=true∧
     ((.bool ((E.on m).clause 8 Ht)):Value)=(.bool b))∨
    (v=(.func (.func 130) #[(.pointer (some (Addr.mk gv 0 none)))] #[])∧
     E.n=m.S∧
     l=E.aj∧
     (E.on m).has Ht=true∧
     ((.bool ((E.on m).clause 9 Ht)):Value)=(.bool b))∨
    (v=(.func (.func 131) #[(.pointer (some (Addr.mk gv 0 none)))] #[])∧
     E.n=m.S∧
     l=E.aj∧
     (E.on m).has Ht=true∧
     ((.bool ((E.on m).clause 10 Ht)):Value)=(.bool b))∨
    (v=(.func (.func 132) #[(.pointer (some (Addr.mk gv 0 none)))] #[])∧
     E.n=m.S∧
     l=E.aj∧
     (E.on m).has Ht=true∧
     ((.bool ((E.on m).clause 11 Ht)):Value)=(.bool b))∨
    (v=(.func (.func 133) #[] #[(.pointer (some (Addr.mk gb 0 none)))])∧
     E.n=m.S∧
     l=E.aj∧
     (E.on m).has Ht=true∧
     ((.bool ((E.on m).clause 12 Ht)):Value)=(.bool b)))∧
   split (!b) (
    Q ⟨(.tuple #[(.int .i64 (i64.wrap (HE+1))),(.int .i64 Ht)]),(some (.t [none,none])),[],[],[]⟩) (
    ∃m4,m4<m3∧I1 m4 number1 page1 (i64.wrap (Ht+1)))) (
   ∃m2,m2<m1∧I m2 number1 page1 (i64.wrap (HE+1)))) (
  Q ⟨(.tuple #[(.int .i64 number),(.int .i64 ak)]),(some (.t [none,none])),[],[],[]⟩)
theorem zt:Vc2 Un prog ⟨yh [(73,kK),(74,jn),(118,fR),(120,fQ),(122,fP),(124,fO),(126,jo),(127,kJ),(128,kM),(129,kL),(130,mQ),(131,jm),(132,jk),(133,fN)],.bool,[(118,[],[(.loc 4 0)]),(120,[],[(.loc 4 0)]),(122,[],[(.loc 4 0)]),(124,[],[(.loc 4 0)]),(126,[(.loc 2 0)],[]),(127,[(.loc 2 0)],[]),(128,[(.loc 2 0)],[]),(129,[(.loc 2 0)],[]),(130,[(.loc 2 0)],[]),(131,[(.loc 2 0)],[]),(132,[(.loc 2 0)],[]),(133,[],[(.loc 4 0)])]⟩ [] Tryz.f30 (.r' (.two (.r' (.r' (.two (.r' (.two (.node [] (some ⟨[(2,(.one (.int .i64))),(3,(.one (.int .i64))),(10,(.one (.int .i64)))],[],[2,3,5,6,7]++upN 10 24,[]⟩) [] [] (.r' (.r' (.two (.two (.r' (.r' (.r' (.two (.node [] (some ⟨[(2,(.one (.int .i64))),(3,(.one (.int .i64))),(22,(.one (.int .i64)))],[],[2,3,7]++upN 22 11,[]⟩) [] [] .leaf .leaf) .leaf)))) .leaf) .leaf))) .leaf) .leaf)) .leaf))) .leaf)) [] gF=(∀r (E:Pd) rm (m:Mem),∀Q,(gF.body r E rm m Q)→zs r E rm m Q):=by kernel_rfl
theorem zr:LV Un prog 30 gF:=verify Tryz.func30 aa (tb:= [(73,kK),(74,jn),(118,fR),(120,fQ),(122,fP),(124,fO),(126,jo),(127,kJ),(128,kM),(129,kL),(130,mQ),(131,jm),(132,jk),(133,fN)]) ⟨DP,zo,uy,uv,uq,uk,zu,BQ,BZ,BW,DS,zl,zi,uh,trivial⟩ (by kernel_rfl) (zt.mpr fun r E rm m Q h=>by
 obtain⟨Hw,h⟩:=h
 exact fun f1 f2=>af ‹_› fun s3 gv A c l Jk=>⟨fun m1 number ak HE=>(m1=(12 - HE).toNat)∧(number=0∧ak=0)∧(0≤HE∧HE≤12)∧((E.on m).eh (13 - (HE+1)).toNat (HE+1)=(E.on m).broken),⟨_,rfl,(by omega),(by omega),(by rfl)⟩,fun m1 _ number ak HE ⟨hm,hn,hc,hb⟩=>aA (fun c1=>af ‹_› fun s4=>af ‹_› fun s5 gb v f6=>(by(have hv:=(by assumption:v=cf gv gb (i64.wrap (HE+1))));(rw [ah (x:=HE+1) (by omega)]at hv);exact⟨fun m3 number1 page1 Ht=>(m3=((E.n:Int) - Ht).toNat)∧(number1=0∧page1=0)∧(0≤Ht∧Ht≤(E.n:Int))∧(fB ((E.on m).clause (HE+1)) 0 Ht=true),⟨_,rfl,‹_›,(by omega),(gE (Int.le_refl _))⟩,fun m3 _ number1 page1 Ht ⟨hm,Mq,Nm,hz⟩=>aA (fun c2=>(by(have IU:(E.on m).has Ht=true:=by grind);exact⟨((E.on m).clause (HE+1) Ht),(by rcases(show HE+1=1∨HE+1=2∨HE+1=3∨HE+1=4∨HE+1=5∨HE+1=6∨HE+1=7∨HE+1=8∨HE+1=9∨HE+1=10∨HE+1=11∨HE+1=12 from by omega)with hk | hk | hk | hk | hk | hk | hk | hk | hk | hk | hk | hk<;>first | exact .inl ⟨by rw [hv,hk];rfl,Hw,Jk,IU,by rw [hk]⟩ | exact .inr (.inl ⟨by rw [hv,hk];rfl,Hw,Jk,IU,by rw [hk]⟩) | exact .inr (.inr (.inl ⟨by rw [hv,hk];rfl,Hw,Jk,IU,by rw [hk]⟩)) | exact .inr (.inr (.inr (.inl ⟨by rw [hv,hk];rfl,Hw,Jk,IU,by rw [hk]⟩))) | exact .inr (.inr (.inr (.inr (.inl ⟨by rw [hv,hk];rfl,Hw,Jk,IU,by rw [hk]⟩)))) | exact .inr (.inr (.inr (.inr (.inr (.inl ⟨by rw [hv,hk];rfl,Hw,Jk,IU,by rw [hk]⟩))))) | exact .inr (.inr (.inr (.inr (.inr (.inr (.inl ⟨by rw [hv,hk];rfl,Hw,Jk,IU,by rw [hk]⟩)))))) | exact .inr (.inr (.inr (.inr (.inr (.inr (.inr (.inl ⟨by rw [hv,hk];rfl,Hw,Jk,IU,by rw [hk]⟩))))))) | exact .inr (.inr (.inr (.inr (.inr (.inr (.inr (.inr (.inl ⟨by rw [hv,hk];rfl,Hw,Jk,IU,by rw [hk]⟩)))))))) | exact .inr (.inr (.inr (.inr (.inr (.inr (.inr (.inr (.inr (.inl ⟨by rw [hv,hk];rfl,Hw,Jk,IU,by rw [hk]⟩))))))))) | exact .inr (.inr (.inr (.inr (.inr (.inr (.inr (.inr (.inr (.inr (.inl ⟨by rw [hv,hk];rfl,Hw,Jk,IU,by rw [hk]⟩)))))))))) | exact .inr (.inr (.inr (.inr (.inr (.inr (.inr (.inr (.inr (.inr (.inr (⟨by rw [hv,hk];rfl,Hw,Jk,IU,by rw [hk]⟩)))))))))))),br (fun c3=>aF h (congrArg (fun l=>Value.tuple (List.toArray l)) (ab (bp (by(rw [ah (x:=HE+1) (by omega),DB.n6 ⟨by omega,by omega⟩ hb hz c3 ⟨Nm.1,by grind⟩]))) (ab (bp (by(rw [DB.n6 ⟨by omega,by omega⟩ hb hz c3 ⟨Nm.1,by grind⟩]))) rfl))) rfl rfl) fun c3=>⟨_,(by(have h9:=ah (x:=Ht+1) (by grind));grind),rfl,‹_›,(by(have h9:=ah (x:=Ht+1) (by grind));grind),(dW hz (by grind) (ah (by grind)))⟩⟩)) fun c2=>⟨_,(by(have h8:=ah (x:=HE+1) (by omega));omega),rfl,(Mq),(by(have h8:=ah (x:=HE+1) (by omega));omega),(by rw [ah (x:=HE+1) (by omega)];exact DB.tT ⟨by omega,by omega⟩ hb (show Ht=((E.on m).S:Int)by grind) hz)⟩⟩)) fun c1=>aF h (congrArg (fun l=>Value.tuple (List.toArray l)) (ab (bp (by rw [DB.l7 (by omega) (by omega) hb];omega)) (ab (bp (by rw [DB.l7 (by omega) (by omega) hb];omega)) rfl))) rfl rfl⟩)
end
section
set_option maxRecDepth 100000
end
end Go.Proofs.YtfmcaoaaiganbaaGreatDoor
namespace Go.Proofs.YtfmcaoaaiganbaaGreatDoor
open Go.Proofs.Tryz (prog)
open Go Go.RowKit V
open Go.IntKind (i64 u32 u64)
section
set_option maxRecDepth 10000
set_option maxHeartbeats 1000000
theorem DB.yH {m:Mem} {l:List U32}(h:l.length=1+2*m.S)(hb:¬DB.wd l 0>64):DB.bu m l=if(List.range m.S).all (DB.Bf m l)then 0 else 110:=by unfold DB.bu;rw [if_neg (by simpa using h),if_neg hb]
theorem DB.et {m:Mem} {l:List U32}(h:l.length=1+2*m.S)(hb:¬DB.wd l 0>64) {p:Nat}(hp:p<m.S)(he:DB.Bf m l p=false):DB.bu m l=110:=by
 rw [yH h hb,if_neg]
 intro hh
 have:=List.all_eq_true.1 hh p (List.mem_range.2 hp)
 rw [he]at this;cases this
end
section
namespace V
section
variable {U:Uni}
theorem bd.Em {rs:List (Res U)} {X:Nat→Nat→Prop} {w w':World} {Q:Ou U→Prop} {v:Value} {k:Option Kn} {Z:Nat→Prop} {r:Res U} {kc:List (Key×Kn)}(hs:Sat rs X w)(q:Pu w w')(hr:RS Z w' r)(hz:∀k,Z k→w.heap.size≤k)(hQ:Q ⟨v,k,[],[r],kc⟩)(hk:KnO (rs++ [r]) v k)
 (MR:∀key k,(key,k)∈kc→cP (rs++ [r]) fr0 key k):bd rs [] X w Q (.returned v) w':=by
 obtain⟨out,rs',X',h1,rfl,h3,h4⟩:=bd.more (Q:=fun o=>o=⟨v,k,[],[r],[]⟩) hs q hr hz rfl hk
 have h3:rs=rs':=by simpa [aV]using h3
 subst h3
 exact⟨⟨v,k,[],[r],kc⟩,rs,X',dI hk,hQ,rfl,⟨h4.sat,h4.ch,h4.same,h4.grow,h4.new,h4.kr,fun key k hm _=>MR key k hm⟩⟩
theorem bd.E7 {t:Nat} {rm:Nat→Nat} {m m':U.ty t} {X:Nat→Nat→Prop} {w w':World} {Q:Ou U→Prop} {v:Value} {k:Option Kn} {Z0 Z1:Nat→Prop} {r:Res U} {kc:List (Key×Kn)}(q:Ch (X 0) w w')(hp:U.pred t rm m' Z0 w')(hz0:∀k,Z0 k→X 0 k∨w.heap.size≤k)(hr:RS Z1 w' r)(RD:∀k,Z1 k→w.heap.size≤k)(hd:∀k,Z0 k→¬Z1 k)
 (hQ:Q ⟨v,k,[.ob t m'],[r],kc⟩)(hk:KnO [.ob t rm m',r] v k)(MR:∀key k,(key,k)∈kc→cP [.ob t rm m',r] fr0 key k):bd [.ob t rm m] [0] X w Q (.returned v) w':=by
 refine⟨_,[.ob t rm m'],fun i=>if i=0 then Z0 else if i=1 then Z1 else X i,dI hk,hQ,by simp [aV,bU,nth,bh],⟨⟨fun i r' Hk=>?_,fun i j hi hj HN k II HM=>?_⟩,q.mono fun k hk=>⟨0,by simp,hk⟩,fun i hi hm=>?_,fun i hi k hk=>?_,fun i h1 h2 k hk=>?_,.inr hk,fun key k hm _=>MR key k hm⟩⟩
 ·match i with
  | 0=>simp only [List.cons_append,List.nil_append,nth,Option.some.injEq]at Hk;subst Hk;exact hp
  | 1=>simp only [List.cons_append,List.nil_append,nth,Option.some.injEq]at Hk;subst Hk;exact hr
  | i+2=>simp [nth]at Hk
 ·simp at hi hj
  match i,j,hi,hj,HN with
  | 0,1,_,_,_=>exact hd k II HM
  | 1,0,_,_,_=>exact hd k HM II
  | 0,0,_,_,h=>exact h rfl
  | 1,1,_,_,h=>exact h rfl
 ·simp at hi hm;omega
 ·simp at hi;subst hi;exact hz0 k hk
 ·simp at h1 h2
  obtain rfl:i=1:=by omega
  exact RD k hk
theorem tV {rs rs':List (Res U)} {M:List Nat} {us:List (Upd U)}(h:aV rs M us=some rs'):rs'.length=rs.length:=(dA h).1
theorem mj.pack {rs rs':List (Res U)} {aS:List Nat} {X X':Nat→Nat→Prop} {w w':World} {v:Value} {k k':Option Kn} {us:List (Upd U)} {a b c:Res U} {kc kc':List (Key×Kn)}(h:mj rs aS X w ⟨v,k,us,[a,b],kc⟩ w' rs' X')(hl:rs'.length=rs.length) {Z:Nat→Prop}(hc:RS Z w' c)(hz:∀k,Z k→X' rs.length k∨X' (rs.length+1) k)
 (hk:KnO (rs'++ [c]) v k')(MR:∀key k,(key,k)∈kc'→cP (rs'++ [c]) fr0 key k):mj rs aS X w ⟨v,k',us,[c],kc'⟩ w' rs' (fun i=>if i=rs.length then Z else X' i):=by
 refine⟨⟨fun i r hr=>?_,fun i j hi hj HN k II HM=>?_⟩,h.ch,fun i hi hm=>?_,fun i hi k hk=>?_,fun i h1 h2 k hk=>?_,.inr hk,fun key k hm _=>MR key k hm⟩
 ·by_cases hi:i<rs'.length
  ·rw [aO,if_pos hi]at hr
   simp only [if_neg (show ¬i=rs.length by omega)]
   exact h.sat.res i r (by rw [aO,if_pos hi];exact hr)
  ·have h1:=aH hr
   simp at h1
   obtain rfl:i=rs'.length:=by omega
   rw [aO,if_neg (by omega),Nat.sub_self]at hr
   obtain rfl:c=r:=by simpa [nth]using hr
   simpa [hl]using hc
 ·simp at hi hj
  have JO:∀j,j<rs'.length→Z k→¬X' j k:=fun j hj hZ hX=>by
   rcases hz k hZ with h1 | h1
   ·exact h.sat.dis rs.length j (by simp;omega) (by simp;omega) (by omega) k h1 hX
   ·exact h.sat.dis (rs.length+1) j (by simp;omega) (by simp;omega) (by omega) k h1 hX
  by_cases h1:i=rs.length
  ·have h2:¬j=rs.length:=by omega
   simp only [h1,if_true,if_neg h2]at II HM
   exact JO j (by omega) II HM
  ·simp only [if_neg h1]at II
   by_cases h2:j=rs.length
   ·simp only [h2,if_true]at HM
    exact JO i (by omega) HM II
   ·simp only [if_neg h2]at HM
    exact h.sat.dis i j (by simp;omega) (by simp;omega) HN k II HM
 ·simp only [if_neg (show ¬i=rs.length by omega)];exact h.same i hi hm
 ·by_cases h1:i=rs.length
  ·simp only [h1,if_true]at hk
   rcases hz k hk with h2 | h2
   ·exact .inr (h.new rs.length (by omega) (by simp) k h2)
   ·exact .inr (h.new (rs.length+1) (by omega) (by simp) k h2)
  ·simp only [if_neg h1]at hk;exact h.grow i hi k hk
 ·simp at h2
  obtain rfl:i=rs.length:=by omega
  simp only [if_true]at hk
  rcases hz k hk with h2 | h2
  ·exact h.new rs.length (by omega) (by simp) k h2
  ·exact h.new (rs.length+1) (by omega) (by simp) k h2
theorem bd.pack {rs rs':List (Res U)} {aS:List Nat} {X X':Nat→Nat→Prop} {w w':World} {Q:Ou U→Prop} {v:Value} {k k':Option Kn} {us:List (Upd U)} {a b c:Res U} {kc kc':List (Key×Kn)}(H9:aV rs aS us=some rs')(h:mj rs aS X w ⟨v,k,us,[a,b],kc⟩ w' rs' X') {Z:Nat→Prop}(hc:RS Z w' c)(hz:∀k,Z k→X' rs.length k∨X' (rs.length+1) k)
 (hQ:Q ⟨v,k',us,[c],kc'⟩)(hk:KnO (rs'++ [c]) v k')(MR:∀key k,(key,k)∈kc'→cP (rs'++ [c]) fr0 key k):bd rs aS X w Q (.returned v) w':=
 ⟨_,rs',_,dI hk,hQ,H9,h.pack (tV H9) hc hz hk MR⟩
theorem KnO.pair {rs:List (Res U)} {a b:Value} {p:PK}(h:den U rs p=some a):KnO rs (.tuple #[a,b]) (some (.t [some p,none])):=
 ⟨_,rfl,fun j k hj=>by
  match j,hj with
  | 0,hj=>simp only [nth,Option.some.injEq]at hj;subst hj;exact⟨a,rfl,h⟩
  | 1,hj=>simp [nth]at hj
  | j+2,hj=>simp [nth]at hj⟩
theorem AZ {rs:List (Res U)} {fr:Fr} {key:Key} {k:Kn}(h:cP rs fr key k):∀key' k',(key',k')∈ [(key,k)]→cP rs fr key' k':=fun key' k' hm=>by
 simp only [List.mem_singleton,Prod.mk.injEq]at hm
 obtain⟨rfl,rfl⟩:=hm
 exact h
theorem bd.Fi {a a':Res U} {rest:List (Res U)} {u:Upd U} {X:Nat→Nat→Prop} {w w':World} {Q:Ou U→Prop} {v:Value} {k:Option Kn} {Z:Nat→Prop}(hs:Sat (a::rest) X w)(q:Ch (X 0) w w')(hu:bU a u=some a')(hp:RS Z w' a')(hz:∀k,Z k→X 0 k∨w.heap.size≤k)(hQ:Q ⟨v,k,[u],[],[]⟩)(hk:KnO (a'::rest) v k):bd (a::rest) [0] X w Q (.returned v) w':=by
 refine⟨_,a'::rest,fun i=>if i=0 then Z else X i,dI hk,hQ,by simp [aV,hu,nth,bh],⟨⟨fun i r hr=>?_,fun i j hi hj HN k II HM=>?_⟩,q.mono fun k hk=>⟨0,by simp,hk⟩,fun i hi hm=>?_,fun i hi k hk=>?_,fun i h1 h2=>by simp at h1 h2;omega,.inr (by simpa using hk),fun _ k hk=>by cases hk⟩⟩
 ·rw [List.append_nil]at hr
  match i with
  | 0=>simp only [nth,Option.some.injEq]at hr;subst hr;exact hp
  | i+1=>exact(hs.res (i+1) r hr).ch q fun k hk h0=>hs.dis 0 (i+1) (by simp) (aH hr) (by omega) k h0 hk
 ·simp at hi hj
  have key:∀j,j<rest.length+1→j≠0→Z k→X j k→False:=fun j hj h0 hZ hX=>by
   rcases hz k hZ with h | h
   ·exact hs.dis 0 j (by simp) (by simpa using hj) (by omega) k h hX
   ·have:=hs.lt (i:=j) (by simpa using hj) k hX;omega
  by_cases h1:i=0
  ·have h2:¬j=0:=by omega
   simp only [h1,if_true,if_neg h2]at II HM
   exact key j hj h2 II HM
  ·simp only [if_neg h1]at II
   by_cases h2:j=0
   ·simp only [h2,if_true]at HM
    exact key i hi h1 HM II
   ·simp only [if_neg h2]at HM
    exact hs.dis i j (by simpa using hi) (by simpa using hj) HN k II HM
 ·simp at hm;simp only [if_neg hm]
 ·simp at hi;subst hi;exact hz k hk
theorem bd.first {t:Nat} {r:Nat→Nat} {s s':U.ty t} {rest:List (Res U)} {X:Nat→Nat→Prop} {w w':World} {Q:Ou U→Prop} {v:Value} {k:Option Kn} {Z:Nat→Prop}(hs:Sat (.ob t r s::rest) X w)(q:Ch (X 0) w w')(hp:U.pred t r s' Z w')(hz:∀k,Z k→X 0 k∨w.heap.size≤k)(hQ:Q ⟨v,k,[.ob t s'],[],[]⟩)(hk:KnO (.ob t r s'::rest) v k):bd (.ob t r s::rest) [0] X w Q (.returned v) w':=
 bd.Fi (a':= .ob t r s') hs q (by simp [bU]) hp hz hQ hk
end
end V
theorem EU {g c mg:Nat} {A:Option Addr} {E:Pd} {Y Z:Nat→Prop} {w:World}(hb:RS (U:=Un) Y w (.blk g [.pointer (some (Addr.mk mg 0 none)),.slice A E.aj.length c,.int .i64 E.aq] 98))(hl:RS (U:=Un) Z w (.lst 4 true 157 A c E.aj))(hd:∀k,Y k→¬Z k)(hn:1≤E.n)(ok:E.Ok):
 ∃e,RS (U:=Un) (fun k=>k=g∨k=e) w (.ob 3 (fun i=>if i=0 then g else if i=1 then mg else if i=2 then e else c) E)∧Z e:=by
 obtain⟨hY,hY2,hb⟩:=hb
 obtain⟨ho,_⟩: @Own Ent _ w Z 157 A E.aj.length c E.aj∧∀k,Z k→k<w.heap.size:=hl
 rw [Pd.bN]at ho hb
 obtain⟨e,rfl,hZ,Ho⟩:=ho.lt hn
 have he:e≠g:=fun h=>hd g hY (h▸hZ)
 refine⟨e,(⟨fun k=>Iff.rfl,⟨⟨_,hb⟩,?_,ok,he,hn⟩⟩:dB 3 (fun i=>if i=0 then g else if i=1 then mg else if i=2 then e else c) E (fun k=>k=g∨k=e) w),hZ⟩
 exact⟨⟨ho.own.1,fun a ha=>by injection ha with ha;rw [← ha]⟩,ho.len⟩
end
end Go.Proofs.YtfmcaoaaiganbaaGreatDoor
namespace Go.Proofs.YtfmcaoaaiganbaaGreatDoor
open Go.Proofs.Tryz (prog)
open Go Go.RowKit V
open Go.IntKind (i64 u32 u64)
section
set_option maxRecDepth 100000
set_option maxHeartbeats 1000000
attribute [local irreducible] Vc2 VcD
def wo:Ctr Un:=⟨[.one (.int .i64),.one (.int .i64)],[],[],[],fun s i K=>((1≤(s:Int)∧(s:Int)≤64)∧(1≤(i:Int)∧(i:Int)≤64))∧∀(rN:Nat→Nat),K ⟨(.tuple #[(.pointer (some (Addr.mk (rN 0) 0 none))),(.int .i64 0)]),(some (.t [(some (.obj 0 0 0)),none])),[],[(.ob 0 rN (Mem.fresh s.toNat i.toNat))],[]⟩⟩
theorem FL:LV Un prog 35 wo:=by
 show ∀(s:Int)(i:Int),∀Q:Ou Un→Prop,(((1≤(s:Int)∧(s:Int)≤64)∧(1≤(i:Int)∧(i:Int)≤64))∧∀(rN:Nat→Nat),Q ⟨(.tuple #[(.pointer (some (Addr.mk (rN 0) 0 none))),(.int .i64 0)]),(some (.t [(some (.obj 0 0 0)),none])),[],[(.ob 0 rN (Mem.fresh s.toNat i.toNat))],[]⟩)→∀(X:Nat→Nat→Prop)(w:World),Sat (U:=Un) [] X w→ar (U:=Un) [] fr0 []→Calls prog 35 #[(.int .i64 s),(.int .i64 i)] w (bd (U:=Un) [] [] X w Q)
 intro s i Q hQ X w hs hl
 obtain⟨⟨h1,h2⟩,hQ⟩:=hQ
 refine(GX s i h1 h2).mono ?_
 rintro e w' ⟨u,rfl,L,rfl,hM,hf,q⟩
 exact bd.Em (Z:=L.X) hs q (show RS (U:=Un) L.X w' (.ob 0 (fun _=>L.g) (Mem.fresh s.toNat i.toNat))from(⟨L,rfl,fun _=>Iff.rfl,hM⟩:dB 0 (fun _=>L.g) (Mem.fresh s.toNat i.toNat) L.X w')) hf (hQ (fun _=>L.g)) (KnO.pair rfl) (fun _ _ h=>by cases h)
def oG:Ctr Un:=⟨[.one (.int .i64),.one (.int .i64)],[],[],[],fun s i K=>((1≤(s:Int)∧(s:Int)≤64)∧(1≤(i:Int)∧(i:Int)≤64))∧∀(rN:Nat→Nat),K ⟨(.tuple #[(.pointer (some (Addr.mk (rN 0) 0 none))),(.int .i64 0)]),(some (.t [(some (.obj 0 0 0)),none])),[],[(.ob 2 rN (Mem.fresh s.toNat i.toNat))],[]⟩⟩
theorem Cg:LV Un prog 38 oG:=by
 show ∀(s:Int)(i:Int),∀Q:Ou Un→Prop,(((1≤(s:Int)∧(s:Int)≤64)∧(1≤(i:Int)∧(i:Int)≤64))∧∀(rN:Nat→Nat),Q ⟨(.tuple #[(.pointer (some (Addr.mk (rN 0) 0 none))),(.int .i64 0)]),(some (.t [(some (.obj 0 0 0)),none])),[],[(.ob 2 rN (Mem.fresh s.toNat i.toNat))],[]⟩)→∀(X:Nat→Nat→Prop)(w:World),Sat (U:=Un) [] X w→ar (U:=Un) [] fr0 []→Calls prog 38 #[(.int .i64 s),(.int .i64 i)] w (bd (U:=Un) [] [] X w Q)
 intro s i Q hQ X w hs hl
 obtain⟨⟨h1,h2⟩,hQ⟩:=hQ
 refine(EZ s i h1 h2).mono ?_
 rintro e w' ⟨u,rfl,g,L,rfl,hM,hf,q⟩
 exact bd.Em (Z:=L.X) hs q (show RS (U:=Un) L.X w' (.ob 2 (fun _=>g) (Mem.fresh s.toNat i.toNat))from(⟨L,fun _=>Iff.rfl,hM⟩:dB 2 (fun _=>g) (Mem.fresh s.toNat i.toNat) L.X w')) hf (hQ (fun _=>g)) (KnO.pair rfl) (fun _ _ h=>by cases h)
def wK:Ctr Un:=⟨[.one (.obj 0 0)],[],[.ob 0 []],[0],fun rm m K=>1≤m.S∧∀(rN:Nat→Nat),K ⟨(.pointer (some (Addr.mk (rN 0) 0 none))),(some (.p (.obj 1 0 0))),[.ob 0 (m.bx m.S)],[(.ob 1 rN ((DB.new m).pd))],[(.l 1 1,.p (.obj 0 0 0))]⟩⟩
theorem FO:LV Un prog 37 wK:=by
 show ∀(rm:Nat→Nat)(m:Mem),∀Q:Ou Un→Prop,(1≤m.S∧∀(rN:Nat→Nat),Q ⟨(.pointer (some (Addr.mk (rN 0) 0 none))),(some (.p (.obj 1 0 0))),[.ob 0 (m.bx m.S)],[(.ob 1 rN ((DB.new m).pd))],[(.l 1 1,.p (.obj 0 0 0))]⟩)→∀(X:Nat→Nat→Prop)(w:World),Sat (U:=Un) [(.ob 0 rm m)] X w→ar (U:=Un) [(.ob 0 rm m)] fr0 []→Calls prog 37 #[(.pointer (some (Addr.mk (rm 0) 0 none)))] w (bd (U:=Un) [(.ob 0 rm m)] [0] X w Q)
 intro rm m Q hQ X w hs hl
 obtain⟨hS,hQ⟩:=hQ
 obtain⟨L,hg,hM,hX⟩:=pX hs
 rw [hg]
 refine(G6 hM hS).mono ?_
 rintro e w' ⟨u,rfl,g,a,rfl,hM2,hD,⟨RT,JQ⟩,q⟩
 have Ho:∀k,L.X k→k<w.heap.size:=hM.lt
 exact bd.E7 (k:=some (.p (.obj 1 0 0))) (kc:= [(.l 1 1,.p (.obj 0 0 0))]) (Z0:=X 0) (Z1:=fun k=>k=g∨k=a) (q.mono fun k hk=>(hX k).1 hk) (show dB 0 rm (m.bx m.S) (X 0) w' from⟨L,hg,hX,hM2⟩) (fun k hk=>.inl hk) (show RS (U:=Un) (fun k=>k=g∨k=a) w' (.ob 1 (fun i=>if i=0 then g else L.g) (DB.new m).pd)from(⟨a,fun k=>Iff.rfl,hD.pd⟩:dB 1 (fun i=>if i=0 then g else L.g) (DB.new m).pd (fun k=>k=g∨k=a) w'))
  (fun k hk=>by rcases hk with rfl | rfl;exact RT;exact JQ) (fun k hk HM=>by have:=Ho k ((hX k).2 hk);rcases HM with rfl | rfl<;>omega) (hQ (fun i=>if i=0 then g else L.g)) rfl (AZ ⟨_,_,_,rfl,show some (Value.pointer (some ⟨rm 0,0,none⟩))=some (.pointer (some ⟨L.g,0,none⟩))by rw [hg]⟩)
end
section
set_option maxRecDepth 100000
set_option maxHeartbeats 1000000
attribute [local irreducible] Vc2 VcD
attribute [local grind=] Pd.bN Pd.bt Pd.fX Pd.gu Pd.ep Pd.du Pd.dG Pd.dX Pd.jt Pd.oS
attribute [local grind .] Pd.Ok.ent
attribute [local grind→] Pd.Ok.most
def iP:Ctr Un:=⟨[.one (.obj 0 0)],[],[.ob 2 []],[],fun rm m K=>K ⟨(.int .i64 (m.S:Int)),none,[],[],[]⟩⟩
theorem uH:LV Un prog 81 iP:=by
 show ∀(rm:Nat→Nat)(m:Mem),∀Q:Ou Un→Prop,(Q ⟨(.int .i64 (m.S:Int)),none,[],[],[]⟩)→∀(X:Nat→Nat→Prop)(w:World),Sat (U:=Un) [(.ob 2 rm m)] X w→ar (U:=Un) [(.ob 2 rm m)] fr0 []→Calls prog 81 #[(.pointer (some (Addr.mk (rm 0) 0 none)))] w (bd (U:=Un) [(.ob 2 rm m)] [] X w Q)
 intro rm m Q hQ X w hs hl
 obtain⟨L,hX,hM⟩:=(hs.res 0 _ rfl:dB 2 rm m (X 0) w)
 refine(yy hM).mono ?_
 rintro e w' ⟨u,rfl,rfl,q⟩
 subst q
 exact bd.pu hs (Ch.refl _ _) hQ trivial
def lK:Ctr Un:=⟨[.one (.obj 0 0)],[],[.ob 2 []],[0],fun rm m K=>∀(g:Nat)(A1:Option Addr)(c1:Nat),K ⟨(.pointer (some (Addr.mk g 0 none))),(some (.p (.loc 1 0))),[.ob 2 (m.bx m.S)],[(.blk g [(.pointer (some (Addr.mk (rm 0) 0 none))),(.slice A1 ((List.replicate m.S Ent.free).length) c1),(.int .i64 0)] 98),(.lst 4 true 157 A1 c1 (List.replicate m.S Ent.free))],[(.c 1 0,.p (.obj 0 0 0)),(.c 1 1,.p (.sl 2 0))]⟩⟩
def zE(rm:Nat→Nat)(m:Mem)(Q:Ou Un→Prop):Prop:=
 Mem.Wf m→
 (some (.pointer (some (Addr.mk (rm 0) 0 none))):Option Value)=some (.pointer (some (Addr.mk (rm 0) 0 none)))∧
 ∀(gv:Nat),
 ∀p:Int,p=0→
 ∃I:Nat→Int→Mem→Int→Option Addr→Nat→List Ent→Prop,(∃m1,I m1 p m 0 none 0 ([]:List Ent))∧∀(m1:Nat)(Hn:Nat→Value)(p1:Int)(s0:Mem)(JR:Int)(A2:Option Addr)(c2:Nat)(l2:List Ent),I m1 p1 s0 JR A2 c2 l2→
 Mem.Wf s0→
 split (decide (p1<s0.S)) (
  ∀(m3:Mem),m3=(s0.zero true p1)→
  Mem.Wf m3→
  ∀(IF:Nat),
  ∀(l:List Ent),l=([Ent.mk 0 0 0 0 false]:List Ent)→
  ((l2.length+l.length)*40≤140737488355328)∧
  ∀(A:Option Addr)(c:Nat),
  ∀(l1:List Ent),l1=(l2++l)→
  ∀p2:Int,p2=(i64.wrap (p1+1))→
  ∃m2,m2<m1∧I m2 p2 m3 JR A c l1) (
  Q ⟨(.pointer (some (Addr.mk gv 0 none))),(some (.p (.loc 1 0))),[.ob 2 s0],[(.blk gv [(.pointer (some (Addr.mk (rm 0) 0 none))),(.slice A2 l2.length c2),(.int .i64 JR)] 98),(.lst 4 true 157 A2 c2 l2)],[(.c 1 0,.p (.obj 0 0 0)),(.c 1 1,.p (.sl 2 0))]⟩)
theorem zF:Vc2 Un prog (aN [(81,iP),(83,dw),(82,lL)]) [4] Tryz.f39 (.r' (.r' (.r' (.two (.r' (.two (.node [(.c 1 1,4,157)] (some ⟨[(4,(.one (.int .i64)))],[],[4]++upN 10 20,[(0,(.ob 2)),(1,(.blk [(.k (.obj 0 0 0)),(.k (.sl 2 0)),(.v (.int .i64))])),(2,(.lst 4))]⟩) [] [] .leaf .leaf) .leaf)) .leaf)))) [1,2] lK=(∀rm (m:Mem),∀Q,(lK.body rm m Q)→zE rm m Q):=by kernel_rfl
theorem zD:LV Un prog 39 lK:=verify Tryz.func39 aa (tb:= [(81,iP),(83,dw),(82,lL)]) ⟨uH,oB,zG,trivial⟩ (by kernel_rfl) (zF.mpr fun rm m Q h f1=>(by have hS:=f1.2.1;exact af (by rfl) fun s2 gv=>allEq<| ⟨fun m1 p1 s0 JR A2 c2 l2=>(m1=((m.S:Int) - p1).toNat)∧(0≤p1∧p1≤(m.S:Int))∧(s0=m.bx p1.toNat)∧(JR=0)∧(l2=List.replicate p1.toNat Ent.free),⟨_,rfl,(by omega),(by rfl),(by rfl),(by rfl)⟩,fun m1 _ p1 s0 JR A2 c2 l2 ⟨hm,hi,hs,hy,hl⟩=>(by(have hsS:s0.S=m.S:=by rw [hs,Mem.gM]);exact fun f3=>aA (fun c1 m3 Hy f4 IF l Jk=>af (by rw [Jk,hl];simp;omega) fun s5 A c l1 Ia=>allEq<| ⟨_,(by rw [ah (x:=p1+1) (by omega)];omega),rfl,(by rw [ah (x:=p1+1) (by omega)];omega),(by rw [Hy,hs,Mem.mR _ (by omega)]),(hy),(by rw [Ia,Jk,hl,ah (x:=p1+1) (by omega),show(p1+1).toNat=p1.toNat+1 by omega,List.replicate_succ'])⟩) fun c1=>(by(have K6:List.replicate m.S Ent.free=l2:=by rw [hl,show p1.toNat=m.S by omega]);(have hm3:m.bx m.S=s0:=by rw [hs,show p1.toNat=m.S by omega]);exact aF (h gv A2 c2) rfl (ab (uO2 ‹_›) rfl) (ab (congrArg (fun l=>Res.blk (U:=Un) _ l _) (ab rfl (ab (by grind) (ab (bp (by omega)) rfl)))) (ab (congrArg (Res.lst (U:=Un) 4 true 157 _ _) ‹_›) rfl))))⟩))
end
section
set_option maxRecDepth 100000
set_option maxHeartbeats 1000000
attribute [local irreducible] Vc2 VcD
theorem DB.sV(m:Mem):(DB.new m).pd.aj=List.replicate m.S Ent.free:=by
 show(List.range (DB.new m).S).map (fun _=>Ent.free)=_
 rw [DB.sW,List.map_const',List.length_range]
theorem DB.E9 {m:Mem}(h:1≤m.S)(hS:m.S≤64):(DB.new m).pd.Ok:=⟨(DB.qY m h).ent,(DB.qY m h).aq,by show(DB.new m).S≤64;rw [DB.sW];exact hS⟩
def oA:Ctr Un:=⟨[.one (.obj 0 0)],[],[.ob 2 []],[0],fun rm m K=>1≤m.S∧∀(rN:Nat→Nat),K ⟨(.pointer (some (Addr.mk (rN 0) 0 none))),(some (.p (.obj 1 0 0))),[.ob 2 (m.bx m.S)],[(.ob 3 rN ((DB.new m).pd))],[(.l 1 1,.p (.obj 0 0 0))]⟩⟩
theorem Cf:LV Un prog 39 oA:=by
 show ∀(rm:Nat→Nat)(m:Mem),∀Q:Ou Un→Prop,(1≤m.S∧∀(rN:Nat→Nat),Q ⟨(.pointer (some (Addr.mk (rN 0) 0 none))),(some (.p (.obj 1 0 0))),[.ob 2 (m.bx m.S)],[(.ob 3 rN ((DB.new m).pd))],[(.l 1 1,.p (.obj 0 0 0))]⟩)→∀(X:Nat→Nat→Prop)(w:World),Sat (U:=Un) [(.ob 2 rm m)] X w→ar (U:=Un) [(.ob 2 rm m)] fr0 []→Calls prog 39 #[(.pointer (some (Addr.mk (rm 0) 0 none)))] w (bd (U:=Un) [(.ob 2 rm m)] [0] X w Q)
 intro rm m Q hQ X w hs hl
 obtain⟨hS,hQ⟩:=hQ
 have hwf:Mem.Wf m:=FG (t:=2) (r:=rm) (s:=m) (hs.res 0 _ rfl)
 have h1:=zD rm m (fun o=>∃(g:Nat)(A1:Option Addr)(c1:Nat),o=⟨(.pointer (some (Addr.mk g 0 none))),(some (.p (.loc 1 0))),[.ob 2 (m.bx m.S)],[(.blk g [(.pointer (some (Addr.mk (rm 0) 0 none))),(.slice A1 ((List.replicate m.S Ent.free).length) c1),(.int .i64 0)] 98),(.lst 4 true 157 A1 c1 (List.replicate m.S Ent.free))],[(.c 1 0,.p (.obj 0 0 0)),(.c 1 1,.p (.sl 2 0))]⟩) (fun g A1 c1=>⟨g,A1,c1,rfl⟩) X w hs hl
 refine h1.mono ?_
 rintro e w' ⟨out,rs',X',rfl,⟨g,A1,c1,rfl⟩,H9,hp⟩
 change aV [Res.ob 2 rm m] [0] [.ob 2 (m.bx m.S)]=some rs' at H9
 have Rj: [Res.ob (U:=Un) 2 rm (m.bx m.S)]=rs':=by simpa [aV,bU,nth,bh]using H9
 subst Rj
 have RT:RS (U:=Un) (X' 1) w' (.blk g [.pointer (some (Addr.mk (rm 0) 0 none)),.slice A1 (DB.new m).pd.aj.length c1,.int .i64 (DB.new m).pd.aq] 98):=by rw [DB.sV];exact hp.sat.res 1 _ rfl
 have JQ:RS (U:=Un) (X' 2) w' (.lst 4 true 157 A1 c1 (DB.new m).pd.aj):=by rw [DB.sV];exact hp.sat.res 2 _ rfl
 obtain⟨e,hob,hZ⟩:=EU (E:=(DB.new m).pd) RT JQ (hp.sat.dis 1 2 (by simp) (by simp) (by omega)) (by show 1≤(DB.new m).S;rw [DB.sW];exact hS) (DB.E9 hS hwf.2.1)
 exact bd.pack (k':=some (.p (.obj 1 0 0))) (kc':= [(.l 1 1,.p (.obj 0 0 0))]) H9 hp hob (fun k hk=>hk.elim (fun e=>.inl (e▸RT.1)) (fun e=>.inr (e▸hZ))) (hQ (fun i=>if i=0 then g else if i=1 then rm 0 else if i=2 then e else c1)) rfl (AZ ⟨_,_,_,rfl,rfl⟩)
end
end Go.Proofs.YtfmcaoaaiganbaaGreatDoor
