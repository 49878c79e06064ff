/- ValidFirst returns true for every input, and each argument reads behind the call as it read before; no condition but that the listed variables read as the row lists them. -/
import Derived.Test.YtbjlecpmgocoeaaGreatDoorF5
import Derived.KernelRfl
import Derived.Test.YtbjlecpmgocoeaaGreatDoorRows
import Derived.LaidHandle
import Derived.LaidLaws
import Derived.Carry
import Derived.Test.YtbjlecpmgocoeaaGreatDoorTie
import Derived.Test.YtbjlecpmgocoeaaGreatDoorCards
import Derived.SevenTiedAt
set_option linter.unusedVariables false
set_option linter.unusedSimpArgs false
section
set_option maxRecDepth 100000
set_option maxHeartbeats 1000000
namespace Go.Proofs.YtbjlecpmgocoeaaGreatDoor
open Go Go.RowKit V
open Go.IntKind (i64 u32 u64)
open Go.Proofs (Tryz.prog)
def di:Ctr Un:=⟨[.one (.int .i64)],[],[],[],fun n K=>K ⟨(.int .i64 n),none,[],[],[]⟩⟩
def Gg(n:Int)(Q:Ou Un→Prop):Prop:=
 Q ⟨(.int .i64 n),none,[],[],[]⟩
theorem Gh:Vc2 Un Tryz.prog (bd []) [] Tryz.f26 .leaf [] di=(∀n,∀Q,(di.body n Q)→Gg n Q):=by kernel_rfl
theorem j6:LV Un Tryz.prog 26 di:=verify Tryz.func26 aa (tb:= []) trivial (by kernel_rfl) (Gh.mpr fun n Q h=>h)
def ef:Ctr Un:=⟨[.one (.int .i64)],[],[],[],fun p K=>K ⟨(.agg #[(.bool true),(.int .i64 p)]),none,[],[],[]⟩⟩
def yI(p:Int)(Q:Ou Un→Prop):Prop:=
 ∀(gv:Nat),
 Q ⟨(.agg #[(.bool true),(.int .i64 p)]),none,[],[],[]⟩
theorem yJ:Vc2 Un Tryz.prog (bd []) [] Tryz.f24 .leaf [] ef=(∀p,∀Q,(ef.body p Q)→yI p Q):=by kernel_rfl
theorem oz:LV Un Tryz.prog 24 ef:=verify Tryz.func24 aa (tb:= []) trivial (by kernel_rfl) (yJ.mpr fun p Q h=>fun gv=>h)
def iZ:Ctr Un:=⟨[.one (.int .i64)],[],[],[],fun n K=>K ⟨(.int .i64 (sz n)),none,[],[],[]⟩⟩
def DE(n:Int)(Q:Ou Un→Prop):Prop:=
 Q ⟨(.int .i64 (i64.wrap (((i64.wrap ((n.tmod 8)+8)).tmod 8)+1))),none,[],[],[]⟩
theorem DF:Vc2 Un Tryz.prog (bd []) [] Tryz.f28 .leaf [] iZ=(∀n,∀Q,(iZ.body n Q)→DE n Q):=by kernel_rfl
theorem DD:LV Un Tryz.prog 28 iZ:=verify Tryz.func28 aa (tb:= []) trivial (by kernel_rfl) (DF.mpr fun n Q h=>eO h (by have h1:=Int.lt_tmod_of_pos n (show(0:Int)<8 by decide);have h2:=Int.tmod_lt_of_pos n (show(0:Int)<8 by decide);have h3:=Int.tmod_lt_of_pos (Int.tmod n 8+8) (show(0:Int)<8 by decide);have h4:=Int.tmod_nonneg (a:=Int.tmod n 8+8) 8 (by omega);unfold sz;rw [ai (x:=Int.tmod n 8+8) (by omega),ai (by omega)]))
def dZ:Ctr Un:=⟨[.one (.ptr 0),.one (.int .i64),.one (.int .i64),.one (.int .u32)],[],[.blk [.obj 2 0,.obj 1 0,.obj 3 0] 34,.ob 1 [(1,2,0)],.ob 0 [],.ob 3 [(1,4,0)],.ob 2 []],[2,4],fun p off v g r E rm m r2 F rm2 m2 K=>(0≤(v:Int)∧(v:Int)<4294967296)∧K ⟨(.bool (decide (m.err true p off=m2.err true p off))),none,[.ob 0 (m.write true p off v),.ob 2 (m2.write true p off v)],[],[]⟩⟩
def yG(p:Int)(off:Int)(v:Int)(g:Nat)(r:Nat→Nat)(E:Pd)(rm:Nat→Nat)(m:Mem)(r2:Nat→Nat)(F:Pd)(rm2:Nat→Nat)(m2:Mem)(Q:Ou Un→Prop):Prop:=
 Pd.Ok E→
 Mem.Wf m→
 Pd.Ok F→
 Mem.Wf m2→
 (0≤v∧v<4294967296)∧
 ∀(m1:Mem),m1=(m.write true p off v)→
 Mem.Wf m1→
 (0≤v∧v<4294967296)∧
 ∀(m3:Mem),m3=(m2.write true p off v)→
 Mem.Wf m3→
 Q ⟨(.bool ((m.err true p off)==(m2.err true p off))),none,[.ob 0 m1,.ob 2 m3],[],[]⟩
theorem yH:Vc2 Un Tryz.prog (bd [(24,ef),(23,rG),(25,gZ),(26,di)]) [] Tryz.f8 (.r' (.two (.node [] none [] [(3,[0])] .leaf .leaf) .leaf)) [] dZ=(∀p off v g r (E:Pd) rm (m:Mem) r2 (F:Pd) rm2 (m2:Mem),∀Q,(dZ.body p off v g r E rm m r2 F rm2 m2 Q)→yG p off v g r E rm m r2 F rm2 m2 Q):=by kernel_rfl
theorem j5:LV Un Tryz.prog 8 dZ:=verify Tryz.func8 aa (tb:= [(24,ef),(23,rG),(25,gZ),(26,di)]) ⟨oz,F6,rq,j6,trivial⟩ (by kernel_rfl) (yH.mpr fun p off v g r E rm m r2 F rm2 m2 Q h=>by
 obtain⟨hp0,h⟩:=h
 exact fun f1 f2 f3 f4=>ao ‹_› fun s5=>fun m1 h_m1 f6=>ao ‹_› fun s7=>fun m3 h_m3 f8=>aK h (congrArg Value.bool (by grind)) (af (congrArg (Upd.ob (U:=Un) 0) (show @Eq Mem _ _ from(by grind))) (af (congrArg (Upd.ob (U:=Un) 2) (show @Eq Mem _ _ from(by grind))) rfl)) rfl)
def lB:Ctr Un:=⟨[.one (.obj 0 0),.one (.int .i64),.one (.int .i64),.one (.int .u32)],[],[.ob 8 []],[0],fun p off v r s K=>s.R=s.D∧(0≤(v:Int)∧(v:Int)<4294967296)∧∀(s1:LSt),((s1.R=s1.D∧s1.D=s.D.wr p off v))→K ⟨(.bool true),none,[.ob 8 s1],[],[]⟩⟩
theorem AI:LV Un Tryz.prog 8 lB:=by
 show ∀(p:Int)(off:Int)(v:Int)(r:Nat→Nat)(s:LSt),∀Q:Ou Un→Prop,(s.R=s.D∧(0≤(v:Int)∧(v:Int)<4294967296)∧∀(s1:LSt),((s1.R=s1.D∧s1.D=s.D.wr p off v))→Q ⟨(.bool true),none,[.ob 8 s1],[],[]⟩)→∀(X:Nat→Nat→Prop)(w:World),Sat (U:=Un) [(.ob 8 r s)] X w→aD (U:=Un) [(.ob 8 r s)] fr0 []→Calls Tryz.prog 8 #[(.pointer (some (Addr.mk (r 0) 0 none))),(.int .i64 p),(.int .i64 off),(.int .u32 v)] w (aP (U:=Un) [(.ob 8 r s)] [0] X w Q)
 intro p off v r s Q hQ X w hs hl
 obtain⟨hR,hv,hQ⟩:=hQ
 refine stA (s.D.mem.write true p off v) (s.R.mem.write true p off v) (Mem.jy ..) (Mem.jy ..) hs (fun r1 rm r2 rm2 X1 hs1 hl1=>?_) (hQ _ ⟨by show s.R.aR _=s.D.aR _;rw [hR],rfl⟩) trivial
 exact j5 p off v (r 0) r1 s.D.pd rm s.D.mem r2 s.R.pd rm2 s.R.mem (fun o=>o=_) ⟨hv,by simp [hR]⟩ X1 w hs1 hl1
def j7:Ctr Un:=⟨[.one (.int .i64),.one (.int .i64)],[],[],[],fun n i K=>∀(g:Nat)(rP:Nat→Nat)(rN:Nat→Nat)(rQ:Nat→Nat)(rM:Nat→Nat),K ⟨(.pointer (some (Addr.mk g 0 none))),(some (.p (.loc 0 0))),[],[(.blk g [(.pointer (some (Addr.mk (rN 0) 0 none))),(.pointer (some (Addr.mk (rP 0) 0 none))),(.pointer (some (Addr.mk (rQ 0) 0 none)))] 34),(.ob 1 rP ((DB.new (Mem.fresh (sz n).toNat (sz i).toNat)).pd)),(.ob 0 rN ((Mem.fresh (sz n).toNat (sz i).toNat).bL (sz n).toNat)),(.ob 3 rQ ((DB.new (Mem.fresh (sz n).toNat (sz i).toNat)).pd)),(.ob 2 rM ((Mem.fresh (sz n).toNat (sz i).toNat).bL (sz n).toNat))],[(.c 0 0,.p (.obj 2 0 0)),(.c 0 1,.p (.obj 1 0 0)),(.c 0 2,.p (.obj 3 0 0)),(.l 3 1,.p (.obj 4 0 0)),(.l 1 1,.p (.obj 2 0 0))]⟩⟩
def yO(n:Int)(i:Int)(Q:Ou Un→Prop):Prop:=
 ((1≤(sz n)∧(sz n)≤64)∧(1≤(sz i)∧(sz i)≤64))∧
 ∀(rN:Nat→Nat),
 ∀(m:Mem),m=(Mem.fresh (sz n).toNat (sz i).toNat)→
 Mem.Wf m→
 ∃J:Bool→Prop,(
  J false)∧∀(_gv:Nat→Value)(x24:Bool),J x24→
 split x24 (
  Q ⟨(.pointer none),none,[],[],[]⟩) (
  1≤m.S∧
  ∀(rN1:Nat→Nat),
  ∀(m1:Mem),m1=(m.bL m.S)→
  Mem.Wf m1→
  ∀(E:Pd),E=(DB.new m).pd→
  Pd.Ok E→
  ((1≤(sz n)∧(sz n)≤64)∧(1≤(sz i)∧(sz i)≤64))∧
  ∀(rN2:Nat→Nat),
  ∀(m2:Mem),m2=(Mem.fresh (sz n).toNat (sz i).toNat)→
  Mem.Wf m2→
  1≤m2.S∧
  ∀(rN3:Nat→Nat),
  ∀(m3:Mem),m3=(m2.bL m2.S)→
  Mem.Wf m3→
  ∀(E1:Pd),E1=(DB.new m2).pd→
  Pd.Ok E1→
  (some (.pointer (some (Addr.mk (rN 0) 0 none))):Option Value)=some (.pointer (some (Addr.mk (rN 0) 0 none)))∧
  (some (.pointer (some (Addr.mk (rN1 0) 0 none))):Option Value)=some (.pointer (some (Addr.mk (rN1 0) 0 none)))∧
  (some (.pointer (some (Addr.mk (rN3 0) 0 none))):Option Value)=some (.pointer (some (Addr.mk (rN3 0) 0 none)))∧
  ∀(gv1:Nat),
  Q ⟨(.pointer (some (Addr.mk gv1 0 none))),(some (.p (.loc 0 0))),[],[(.blk gv1 [(.pointer (some (Addr.mk (rN 0) 0 none))),(.pointer (some (Addr.mk (rN1 0) 0 none))),(.pointer (some (Addr.mk (rN3 0) 0 none)))] 34),(.ob 1 rN1 E),(.ob 0 rN m1),(.ob 3 rN3 E1),(.ob 2 rN2 m3)],[(.c 0 0,.p (.obj 2 0 0)),(.c 0 1,.p (.obj 1 0 0)),(.c 0 2,.p (.obj 3 0 0)),(.l 3 1,.p (.obj 4 0 0)),(.l 1 1,.p (.obj 2 0 0))]⟩)
theorem yP:Vc2 Un Tryz.prog (bd [(28,iZ),(27,AF),(26,di),(29,A5),(30,ry),(31,rl)]) [] Tryz.f9 (.r' (.r' (.two (.two (.node [] (some ⟨[(24,(.one .bool))],[],upN 18 7,[]⟩) [] [] .leaf .leaf) .leaf) .leaf))) [1000000,4,1,0,3,2] j7=(∀n i,∀Q,(j7.body n i Q)→yO n i Q):=by kernel_rfl
theorem yN:LV Un Tryz.prog 9 j7:=verify Tryz.func9 aa (tb:= [(28,iZ),(27,AF),(26,di),(29,A5),(30,ry),(31,rl)]) ⟨DD,Jj,j6,Jm,F2,F1,trivial⟩ (by kernel_rfl) (yP.mpr fun n i Q h=>by
 have hz1:=Ee n
 have hz2:=Ee i
 exact ao (by omega) fun s1=>fun rN=>fun m h_m f2=>bw false ((by grind))<| eD<| ao (by subst_vars;show 1≤(sz n).toNat;omega) fun s3=>fun rN1=>fun m1 h_m1 f4=>fun E h_E f5=>ao (by omega) fun s6=>fun rN2=>fun m2 h_m2 f7=>ao (by subst_vars;show 1≤(sz n).toNat;omega) fun s8=>fun rN3=>fun m3 h_m3 f9=>fun E1 h_E1 f10=>ao (by rfl) fun s11=>ao (by rfl) fun s12=>ao (by rfl) fun s13=>fun gv1=>aK (h gv1 rN1 rN rN3 rN2) rfl rfl (af (congrArg (fun l=>Res.blk (U:=Un) _ l _) rfl) (af (congrArg (Res.ob (U:=Un) 1 _) (show @Eq Pd _ _ from(by subst_vars;rfl))) (af (congrArg (Res.ob (U:=Un) 0 _) (show @Eq Mem _ _ from(by subst_vars;rfl))) (af (congrArg (Res.ob (U:=Un) 3 _) (show @Eq Pd _ _ from(by subst_vars;rfl))) (af (congrArg (Res.ob (U:=Un) 2 _) (show @Eq Mem _ _ from(by subst_vars;rfl))) rfl))))))
def ia:Ctr Un:=⟨[.one (.int .i64),.one (.int .i64)],[],[],[],fun n i K=>∀(r:Nat→Nat)(s1:LSt),((s1.R=s1.D∧s1.D=DB.begun n i))→K ⟨(.pointer (some (Addr.mk (r 0) 0 none))),(some (.p (.obj 0 0 0))),[],[(.ob 8 r s1)],[]⟩⟩
theorem rK:LV Un Tryz.prog 9 ia:=by
 show ∀(n:Int)(i:Int),∀Q:Ou Un→Prop,(∀(r:Nat→Nat)(s1:LSt),((s1.R=s1.D∧s1.D=DB.begun n i))→Q ⟨(.pointer (some (Addr.mk (r 0) 0 none))),(some (.p (.obj 0 0 0))),[],[(.ob 8 r s1)],[]⟩)→∀(X:Nat→Nat→Prop)(w:World),Sat (U:=Un) [] X w→aD (U:=Un) [] fr0 []→Calls Tryz.prog 9 #[(.int .i64 n),(.int .i64 i)] w (aP (U:=Un) [] [] X w Q)
 intro n i Q hQ X w hs hl
 have h1:=yN n i (fun o=>∃(g:Nat)(rP rN rQ rM:Nat→Nat),o=⟨(.pointer (some (Addr.mk g 0 none))),(some (.p (.loc 0 0))),[],[(.blk g [(.pointer (some (Addr.mk (rN 0) 0 none))),(.pointer (some (Addr.mk (rP 0) 0 none))),(.pointer (some (Addr.mk (rQ 0) 0 none)))] 34),(.ob 1 rP ((DB.new (Mem.fresh (sz n).toNat (sz i).toNat)).pd)),(.ob 0 rN ((Mem.fresh (sz n).toNat (sz i).toNat).bL (sz n).toNat)),(.ob 3 rQ ((DB.new (Mem.fresh (sz n).toNat (sz i).toNat)).pd)),(.ob 2 rM ((Mem.fresh (sz n).toNat (sz i).toNat).bL (sz n).toNat))],[(.c 0 0,.p (.obj 2 0 0)),(.c 0 1,.p (.obj 1 0 0)),(.c 0 2,.p (.obj 3 0 0)),(.l 3 1,.p (.obj 4 0 0)),(.l 1 1,.p (.obj 2 0 0))]⟩) (fun g rP rN rQ rM=>⟨g,rP,rN,rQ,rM,rfl⟩) X w hs hl
 refine h1.mono ?_
 rintro e w' ⟨out,rs',X',rfl,⟨g,rP,rN,rQ,rM,rfl⟩,happ,hp⟩
 obtain rfl: []=rs':=Option.some.inj happ
 have hsat:Sat (aux g rP (DB.new (Mem.fresh (sz n).toNat (sz i).toNat)).pd rN ((Mem.fresh (sz n).toNat (sz i).toNat).bL (sz n).toNat) rQ (DB.new (Mem.fresh (sz n).toNat (sz i).toNat)).pd rM ((Mem.fresh (sz n).toNat (sz i).toNat).bL (sz n).toNat)) X' w':=hp.sat
 have l1:rP 1=rN 0:=by
  obtain⟨t,r,s,h1,h2⟩:=hp.kc (.l 1 1) (.p (.obj 2 0 0)) (by simp) (by simp)
  have h1:some (Res.ob (U:=Un) 1 rP (DB.new (Mem.fresh (sz n).toNat (sz i).toNat)).pd)=some (.ob t r s):=h1
  cases h1
  have h2:some (Value.pointer (some ⟨rN 0,0,none⟩))=some (.pointer (some ⟨rP 1,0,none⟩)):=h2
  simpa using h2.symm
 have l2:rQ 1=rM 0:=by
  obtain⟨t,r,s,h1,h2⟩:=hp.kc (.l 3 1) (.p (.obj 4 0 0)) (by simp) (by simp)
  have h1:some (Res.ob (U:=Un) 3 rQ (DB.new (Mem.fresh (sz n).toNat (sz i).toNat)).pd)=some (.ob t r s):=h1
  cases h1
  have h2:some (Value.pointer (some ⟨rM 0,0,none⟩))=some (.pointer (some ⟨rQ 1,0,none⟩)):=h2
  simpa using h2.symm
 obtain⟨Z,hZ,hc⟩:=uC hsat l1 l2 rfl rfl
 exact aP.wD (Z:=Z) (k:=some (.p (.obj 0 0 0))) (kc:= []) hs (ml hp.ch) (show RS (U:=Un) Z w' (.ob 8 (fun _=>g) _)from hZ) (fun k hk=>by obtain⟨i,hi,h⟩:=hc k hk;exact hp.new i (by simp) (by simpa using hi) k h) (hQ (fun _=>g) _ ⟨rfl,rfl⟩) rfl (fun _ _ h=>by cases h)
def fO:Ctr Un:=⟨[.one (.ptr 0),.agg [.int .i64,.int .i64,.int .i64,.int .i64,.int .u32,.any]],[],[.blk [.obj 2 0,.obj 1 0,.obj 3 0] 34,.ob 1 [(1,2,0)],.ob 0 [],.ob 3 [(1,4,0)],.ob 2 []],[0],fun k a b c v ws g r E rm m r2 F rm2 m2 K=>E.n=m.S∧E=F∧m=m2∧(0≤(v:Int)∧(v:Int)<4294967296)∧1≤m.S∧split (decide (DB.aJ m (DB.ldw (E.on m) a v)=0)) (∀(rN:Nat→Nat)(rN2:Nat→Nat),K ⟨(.bool true),none,[.blk [(.pointer (some (Addr.mk (rm 0) 0 none))),(.pointer (some (Addr.mk (rN 0) 0 none))),(.pointer (some (Addr.mk (rN2 0) 0 none)))]],[(.ob 1 rN ((DB.load m (DB.ldw (E.on m) a v)).pd)),(.ob 3 rN2 ((DB.load m (DB.ldw (E.on m) a v)).pd))],[(.c 0 2,.p (.obj 6 0 0)),(.c 0 1,.p (.obj 5 0 0)),(.l 6 1,.p (.obj 4 0 0)),(.l 5 1,.p (.obj 2 0 0)),(.c 0 0,.p (.obj 2 0 0))]⟩) (K ⟨(.bool true),none,[.blk [(.pointer (some (Addr.mk (rm 0) 0 none))),(.pointer (some (Addr.mk (r 0) 0 none))),(.pointer (some (Addr.mk (r2 0) 0 none)))]],[],[(.c 0 0,.p (.obj 2 0 0)),(.c 0 1,.p (.obj 1 0 0)),(.c 0 2,.p (.obj 3 0 0))]⟩)⟩
def yL(k:Int)(a:Int)(b:Int)(c:Int)(v:Int)(ws:Value)(g:Nat)(r:Nat→Nat)(E:Pd)(rm:Nat→Nat)(m:Mem)(r2:Nat→Nat)(F:Pd)(rm2:Nat→Nat)(m2:Mem)(Q:Ou Un→Prop):Prop:=
 Pd.Ok E→
 Mem.Wf m→
 Pd.Ok F→
 Mem.Wf m2→
 ∀(gv:Nat),
 E.n=m.S∧
 ∀(A:Option Addr)(c1:Nat),
 ∀(l:List U32),l=(E.on m).words.map U32.mk→
 F.n=m2.S∧
 ∀(A1:Option Addr)(c2:Nat),
 ∀(l1:List U32),l1=(F.on m2).words.map U32.mk→
 ∃J:Bool→Prop,(
  split (((((E.on m).words.map U32.mk).length):Int) !=((((F.on m2).words.map U32.mk).length):Int)) (
   J true) (
   J (((((E.on m).words.map U32.mk).length):Int)==0)))∧∀(_gv1:Nat→Value)(x31:Bool),J x31→
 split x31 (
  Q ⟨(.bool false),none,[.blk [(.pointer (some (Addr.mk (rm 0) 0 none))),(.pointer (some (Addr.mk (r 0) 0 none))),(.pointer (some (Addr.mk (r2 0) 0 none)))]],[],[(.c 0 0,.p (.obj 2 0 0)),(.c 0 1,.p (.obj 1 0 0)),(.c 0 2,.p (.obj 3 0 0))]⟩) (
  nz ((((E.on m).words.map U32.mk).length):Int) (
   nz ((((E.on m).words.map U32.mk).length):Int) (
    ∀k1:Int,k1=((i64.wrap (((a:Int).tmod (((((E.on m).words.map U32.mk).length):Nat):Int))+(((((E.on m).words.map U32.mk).length):Nat):Int)):Int).tmod (((((E.on m).words.map U32.mk).length):Nat):Int))→
    (0≤k1∧k1<(l.length:Int))∧
    ∀(l2:List U32),l2=(l.set k1.toNat (U32.mk v))→
    (0≤k1∧k1<(l1.length:Int))∧
    ∀(l3:List U32),l3=(l1.set k1.toNat (U32.mk v))→
    ((∀x∈l2,0≤x.v∧x.v<4294967296))∧
    1≤m.S∧
    split (decide (DB.aJ m l2=0)) (
     ∀(rN:Nat→Nat),
     ∀(E1:Pd),E1=(DB.load m l2).pd→
     Pd.Ok E1→
     ((∀x∈l3,0≤x.v∧x.v<4294967296))∧
     1≤m2.S∧
     split (decide (DB.aJ m2 l3=0)) (
      ∀(rN1:Nat→Nat),
      ∀(E2:Pd),E2=(DB.load m2 l3).pd→
      Pd.Ok E2→
      ∃J1:Bool→Prop,(
       J1 (!(false==false)))∧∀(_gv2:Nat→Value)(x84:Bool),J1 x84→
      split x84 (
       Q ⟨(.bool false),none,[.blk [(.pointer (some (Addr.mk (rm 0) 0 none))),(.pointer (some (Addr.mk (r 0) 0 none))),(.pointer (some (Addr.mk (r2 0) 0 none)))]],[],[(.c 0 0,.p (.obj 2 0 0)),(.c 0 1,.p (.obj 1 0 0)),(.c 0 2,.p (.obj 3 0 0))]⟩) (
       Q ⟨(.bool true),none,[.blk [(.pointer (some (Addr.mk (rm 0) 0 none))),(.pointer (some (Addr.mk (rN 0) 0 none))),(.pointer (some (Addr.mk (rN1 0) 0 none)))]],[(.ob 1 rN E1),(.ob 3 rN1 E2)],[(.c 0 2,.p (.obj 6 0 0)),(.c 0 1,.p (.obj 5 0 0)),(.l 6 1,.p (.obj 4 0 0)),(.l 5 1,.p (.obj 2 0 0)),(.c 0 0,.p (.obj 2 0 0))]⟩)) (
      ∃J1:Bool→Prop,(
       J1 true)∧∀(_gv2:Nat→Value)(x84:Bool),J1 x84→
      split x84 (
       Q ⟨(.bool false),none,[.blk [(.pointer (some (Addr.mk (rm 0) 0 none))),(.pointer (some (Addr.mk (r 0) 0 none))),(.pointer (some (Addr.mk (r2 0) 0 none)))]],[],[(.c 0 0,.p (.obj 2 0 0)),(.c 0 1,.p (.obj 1 0 0)),(.c 0 2,.p (.obj 3 0 0))]⟩) (
       False))) (
     ((∀x∈l3,0≤x.v∧x.v<4294967296))∧
     1≤m2.S∧
     split (decide (DB.aJ m2 l3=0)) (
      ∀(rN:Nat→Nat),
      ∀(E1:Pd),E1=(DB.load m2 l3).pd→
      Pd.Ok E1→
      ∃J1:Bool→Prop,(
       J1 true)∧∀(_gv2:Nat→Value)(x84:Bool),J1 x84→
      split x84 (
       Q ⟨(.bool false),none,[.blk [(.pointer (some (Addr.mk (rm 0) 0 none))),(.pointer (some (Addr.mk (r 0) 0 none))),(.pointer (some (Addr.mk (r2 0) 0 none)))]],[],[(.c 0 0,.p (.obj 2 0 0)),(.c 0 1,.p (.obj 1 0 0)),(.c 0 2,.p (.obj 3 0 0))]⟩) (
       Q ⟨(.bool true),none,[.blk [(.pointer (some (Addr.mk (rm 0) 0 none))),(.pointer (some (Addr.mk (r 0) 0 none))),(.pointer (some (Addr.mk (r2 0) 0 none)))]],[],[(.c 0 0,.p (.obj 2 0 0)),(.c 0 1,.p (.obj 1 0 0)),(.c 0 2,.p (.obj 3 0 0))]⟩)) (
      ∃J1:Bool→Prop,(
       J1 (!(true==true)))∧∀(_gv2:Nat→Value)(x84:Bool),J1 x84→
      split x84 (
       Q ⟨(.bool false),none,[.blk [(.pointer (some (Addr.mk (rm 0) 0 none))),(.pointer (some (Addr.mk (r 0) 0 none))),(.pointer (some (Addr.mk (r2 0) 0 none)))]],[],[(.c 0 0,.p (.obj 2 0 0)),(.c 0 1,.p (.obj 1 0 0)),(.c 0 2,.p (.obj 3 0 0))]⟩) (
       Q ⟨(.bool true),none,[.blk [(.pointer (some (Addr.mk (rm 0) 0 none))),(.pointer (some (Addr.mk (r 0) 0 none))),(.pointer (some (Addr.mk (r2 0) 0 none)))]],[],[(.c 0 0,.p (.obj 2 0 0)),(.c 0 1,.p (.obj 1 0 0)),(.c 0 2,.p (.obj 3 0 0))]⟩))))))
theorem yM:Vc2 Un Tryz.prog (bd [(52,ka),(93,lz),(94,vA),(95,nr),(26,di)]) [7] Tryz.f45 (.r' (.r' (.r' (.two (.two (.node [] (some ⟨[(31,(.one .bool))],[],upN 22 10,[]⟩) [] [] .leaf .leaf) .leaf) (.r' (.r' (.r' (.r' (.r' (.two (.two (.node [] (some ⟨[(84,(.one .bool))],[],upN 74 11,[]⟩) [] [] .leaf .leaf) .leaf) .leaf)))))))))) [1000000,8,9] fO=(∀k a b c v ws g r (E:Pd) rm (m:Mem) r2 (F:Pd) rm2 (m2:Mem),∀Q,(fO.body k a b c v ws g r E rm m r2 F rm2 m2 Q)→yL k a b c v ws g r E rm m r2 F rm2 m2 Q):=by kernel_rfl
theorem yK:LV Un Tryz.prog 45 fO:=verify Tryz.func45 aa (tb:= [(52,ka),(93,lz),(94,vA),(95,nr),(26,di)]) ⟨yQ,Ak,HL,Dm,j6,trivial⟩ (by kernel_rfl) (yM.mpr fun k a b c v ws g r E rm m r2 F rm2 m2 Q h=>by
 obtain⟨hp0,hp1,hp2,hp3,hp4,h⟩:=h
 subst hp1
 subst hp2
 exact fun f1 f2 f3 f4=>fun gv=>(by have hok:=Pd.Ok.on f1 hp0;(have hS:(E.on m).S≤64:=by rw [Pd.oF _ _ hp0];exact f1.cH);(have hwl:((E.on m).words.map U32.mk).length=1+2*(E.on m).S:=by rw [List.length_map,DB.eL]);exact ao ‹_› fun s5=>fun A c1=>fun l h_l=>ao ‹_› fun s6=>fun A1 c2=>fun l1 h_l1=>bw ((((((((E.on m).words.map U32.mk).length):Nat):Int):Int) !=(((((E.on m).words.map U32.mk).length):Nat):Int)) || (((((((E.on m).words.map U32.mk).length):Nat):Int):Int)==0)) (ae (fun c1=>(by grind)) fun c1=>(by grind))<| aS (fun c2=>aK (bz h (by(exfalso;rw [hwl]at c2;simp at c2;omega))) (congrArg Value.bool (by(exfalso;rw [hwl]at c2;simp at c2;omega))) (af (congrArg Upd.blk rfl) rfl) rfl) fun c2=>HT (by rw [hwl];omega)<| HT (by rw [hwl];omega)<| allEq<| ao (DB.Bu hS ‹_›) fun s7=>fun l2 h_l2=>ao (DB.Bu hS ‹_›) fun s8=>fun l3 h_l3=>ao (by rw [DB.ldw_eq hS h_l h_l2];exact DB.mY hok hp3) fun s9=>ao ‹_› fun s10=>ax (fun c3=>fun rN=>fun E1 h_E1 f11=>ao (by rw [DB.ldw_eq hS h_l1 h_l3];exact DB.mY hok hp3) fun s12=>ao ‹_› fun s13=>ax (fun c4=>fun rN1=>fun E2 h_E2 f14=>bw (!(false==false)) ((by grind))<| aW (fun c5=>aK (bz h (by(have e1:=DB.ldw_eq hS h_l h_l2;have e2:=DB.ldw_eq hS h_l1 h_l3;grind))) (congrArg Value.bool (by(have e1:=DB.ldw_eq hS h_l h_l2;have e2:=DB.ldw_eq hS h_l1 h_l3;grind))) (af (congrArg Upd.blk rfl) rfl) rfl) fun c5=>aK ((iJ h (by(have e1:=DB.ldw_eq hS h_l h_l2;have e2:=DB.ldw_eq hS h_l1 h_l3;grind))) rN rN1) rfl (af (congrArg Upd.blk rfl) rfl) (af (congrArg (Res.ob (U:=Un) 1 _) (show @Eq Pd _ _ from(by(have e1:=DB.ldw_eq hS h_l h_l2;have e2:=DB.ldw_eq hS h_l1 h_l3;grind)))) (af (congrArg (Res.ob (U:=Un) 3 _) (show @Eq Pd _ _ from(by(have e1:=DB.ldw_eq hS h_l h_l2;have e2:=DB.ldw_eq hS h_l1 h_l3;grind)))) rfl))) fun c4=>bw true ((by grind))<| bq<| aK (bz h (by(have e1:=DB.ldw_eq hS h_l h_l2;have e2:=DB.ldw_eq hS h_l1 h_l3;grind))) (congrArg Value.bool (by(have e1:=DB.ldw_eq hS h_l h_l2;have e2:=DB.ldw_eq hS h_l1 h_l3;grind))) (af (congrArg Upd.blk rfl) rfl) rfl) fun c3=>ao (by rw [DB.ldw_eq hS h_l1 h_l3];exact DB.mY hok hp3) fun s15=>ao ‹_› fun s16=>ax (fun c6=>fun rN=>fun E1 h_E1 f17=>bw true ((by grind))<| bq<| aK (bz h (by(have e1:=DB.ldw_eq hS h_l h_l2;have e2:=DB.ldw_eq hS h_l1 h_l3;grind))) (congrArg Value.bool (by(have e1:=DB.ldw_eq hS h_l h_l2;have e2:=DB.ldw_eq hS h_l1 h_l3;grind))) (af (congrArg Upd.blk rfl) rfl) rfl) fun c6=>bw (!(true==true)) ((by grind))<| aW (fun c7=>aK (bz h (by(have e1:=DB.ldw_eq hS h_l h_l2;have e2:=DB.ldw_eq hS h_l1 h_l3;grind))) (congrArg Value.bool (by(have e1:=DB.ldw_eq hS h_l h_l2;have e2:=DB.ldw_eq hS h_l1 h_l3;grind))) (af (congrArg Upd.blk rfl) rfl) rfl) fun c7=>aK (bz h (by(have e1:=DB.ldw_eq hS h_l h_l2;have e2:=DB.ldw_eq hS h_l1 h_l3;grind))) (congrArg Value.bool (by(have e1:=DB.ldw_eq hS h_l h_l2;have e2:=DB.ldw_eq hS h_l1 h_l3;grind))) (af (congrArg Upd.blk rfl) rfl) rfl))
end Go.Proofs.YtbjlecpmgocoeaaGreatDoor
end
section
set_option maxRecDepth 100000
set_option maxHeartbeats 1000000
namespace Go.Proofs.YtbjlecpmgocoeaaGreatDoor
open Go Go.RowKit V
open Go.IntKind (i64 u32 u64)
open Go.Proofs (Tryz.prog)
def eC:Ctr Un:=⟨[.one (.ptr 0),.agg [.int .i64,.int .i64,.int .i64,.int .i64,.int .u32,.any]],[(5,5),(6,6)],[.blk [.obj 2 0,.obj 1 0,.obj 3 0] 34,.ob 1 [(1,2,0)],.ob 0 [],.ob 3 [(1,4,0)],.ob 2 [],.ob 5 [],.ob 6 []],[2,4],fun k a b c v ws g r E rm m r2 F rm2 m2 rk kk rk2 kk2 K=>m=m2∧kk2=kk∧(0≤(v:Int)∧(v:Int)<4294967296)∧K ⟨(.bool true),none,[.ob 0 (((E.on m).fF kk a v).mem),.ob 2 (((E.on m).fF kk a v).mem)],[],[]⟩⟩
def sq(k:Int)(a:Int)(b:Int)(c:Int)(v:Int)(ws:Value)(g:Nat)(r:Nat→Nat)(E:Pd)(rm:Nat→Nat)(m:Mem)(r2:Nat→Nat)(F:Pd)(rm2:Nat→Nat)(m2:Mem)(rk:Nat→Nat)(kk:List Int)(rk2:Nat→Nat)(kk2:List Int)(Q:Ou Un→Prop):Prop:=
 Pd.Ok E→
 Mem.Wf m→
 Pd.Ok F→
 Mem.Wf m2→
 ∀(gv:Nat),
 ∀(rN:Nat→Nat),
 ∀(s:Dg),s=Dg.new→
 ∀(gv1:Nat),
 ∀i:Int,i=0→
 ∃I:Nat→Int→Dg→Int→Int→Int→Int→Int→Int→Int→Int→Int→Option Addr→Nat→List U32→Prop,(∃m1,I m1 i s S8.first.a S8.first.b S8.first.c S8.first.d S8.first.e S8.first.f S8.first.g S8.first.h 0 none 0 ([]:List U32))∧∀(m1:Nat)(_gv2:Nat→Value)(i1:Int)(s8:Dg)(y9a:Int)(y9b:Int)(y9c:Int)(y9d:Int)(y9e:Int)(y9f:Int)(y9g:Int)(y9h:Int)(y9j:Int)(A10:Option Addr)(c10:Nat)(l10:List U32),I m1 i1 s8 y9a y9b y9c y9d y9e y9f y9g y9h y9j A10 c10 l10→
 ∃J:Bool→Prop,(
  split (decide (i1<v)) (
   J (decide (i1<40))) (
   J false))∧∀(_gv3:Nat→Value)(x21:Bool),J x21→
 split x21 (
  ∀(gv4:Nat),
  ∀(l:List U32),l=([U32.mk 7]:List U32)→
  s8.Ok∧
  l.length≤1099511627776∧
  ∀(s1:Dg),s1=(s8.add kk l)→
  ∀(gv5:Nat),
  ∀(l1:List U32),l1=([U32.mk 7]:List U32)→
  (Dg.mk (S8.mk y9a y9b y9c y9d y9e y9f y9g y9h) y9j l10).Ok∧
  (l1.length≤1099511627776∧l1.length≤36028797018963968 - y9j)∧
  ∀(A1:Option Addr)(c1:Nat),
  ∀(l2:List U32),l2=((Dg.mk (S8.mk y9a y9b y9c y9d y9e y9f y9g y9h) y9j l10).add kk2 l1).waits→
  ∀i2:Int,i2=(u32.wrap (i1+1))→
  ∃m3,m3<m1∧I m3 i2 s1 (((Dg.mk (S8.mk y9a y9b y9c y9d y9e y9f y9g y9h) y9j l10).add kk2 l1).st.a) (((Dg.mk (S8.mk y9a y9b y9c y9d y9e y9f y9g y9h) y9j l10).add kk2 l1).st.b) (((Dg.mk (S8.mk y9a y9b y9c y9d y9e y9f y9g y9h) y9j l10).add kk2 l1).st.c) (((Dg.mk (S8.mk y9a y9b y9c y9d y9e y9f y9g y9h) y9j l10).add kk2 l1).st.d) (((Dg.mk (S8.mk y9a y9b y9c y9d y9e y9f y9g y9h) y9j l10).add kk2 l1).st.e) (((Dg.mk (S8.mk y9a y9b y9c y9d y9e y9f y9g y9h) y9j l10).add kk2 l1).st.f) (((Dg.mk (S8.mk y9a y9b y9c y9d y9e y9f y9g y9h) y9j l10).add kk2 l1).st.g) (((Dg.mk (S8.mk y9a y9b y9c y9d y9e y9f y9g y9h) y9j l10).add kk2 l1).st.h) (((Dg.mk (S8.mk y9a y9b y9c y9d y9e y9f y9g y9h) y9j l10).add kk2 l1).n) A1 c1 l2) (
  s8.Ok∧
  ∀(gv4:Nat),
  ∀(s1:List U32),s1=([U32.mk 0,U32.mk 0,U32.mk 0,U32.mk 0,U32.mk 0,U32.mk 0,U32.mk 0,U32.mk 0,U32.mk 0,U32.mk 0,U32.mk 0,U32.mk 0,U32.mk 0,U32.mk 0,U32.mk 0,U32.mk 0,U32.mk 0,U32.mk 0,U32.mk 0,U32.mk 0,U32.mk 0,U32.mk 0,U32.mk 0,U32.mk 0,U32.mk 0,U32.mk 0]:List U32)→
  (s1.length=26)∧
  ∀(s2:List U32),s2=(Dg.svL s8)→
  (s2.length=26)∧
  (Dg.mk (S8.mk y9a y9b y9c y9d y9e y9f y9g y9h) y9j l10).Ok∧
  bW (mS [.int .u32] 26) (#[(.int .u32 ((s2.getD 0 (U32.mk 0)).v)),(.int .u32 ((s2.getD 1 (U32.mk 0)).v)),(.int .u32 ((s2.getD 2 (U32.mk 0)).v)),(.int .u32 ((s2.getD 3 (U32.mk 0)).v)),(.int .u32 ((s2.getD 4 (U32.mk 0)).v)),(.int .u32 ((s2.getD 5 (U32.mk 0)).v)),(.int .u32 ((s2.getD 6 (U32.mk 0)).v)),(.int .u32 ((s2.getD 7 (U32.mk 0)).v)),(.int .u32 ((s2.getD 8 (U32.mk 0)).v)),(.int .u32 ((s2.getD 9 (U32.mk 0)).v)),(.int .u32 ((s2.getD 10 (U32.mk 0)).v)),(.int .u32 ((s2.getD 11 (U32.mk 0)).v)),(.int .u32 ((s2.getD 12 (U32.mk 0)).v)),(.int .u32 ((s2.getD 13 (U32.mk 0)).v)),(.int .u32 ((s2.getD 14 (U32.mk 0)).v)),(.int .u32 ((s2.getD 15 (U32.mk 0)).v)),(.int .u32 ((s2.getD 16 (U32.mk 0)).v)),(.int .u32 ((s2.getD 17 (U32.mk 0)).v)),(.int .u32 ((s2.getD 18 (U32.mk 0)).v)),(.int .u32 ((s2.getD 19 (U32.mk 0)).v)),(.int .u32 ((s2.getD 20 (U32.mk 0)).v)),(.int .u32 ((s2.getD 21 (U32.mk 0)).v)),(.int .u32 ((s2.getD 22 (U32.mk 0)).v)),(.int .u32 ((s2.getD 23 (U32.mk 0)).v)),(.int .u32 ((s2.getD 24 (U32.mk 0)).v)),(.int .u32 ((s2.getD 25 (U32.mk 0)).v))]:Array Value).toList=true∧
  bW (mS [.int .u32] 26) (⟨Dg.sv (Dg.mk (S8.mk y9a y9b y9c y9d y9e y9f y9g y9h) y9j l10)⟩:Array Value).toList=true∧
  split (!(bf #[(.int .u32 ((s2.getD 0 (U32.mk 0)).v)),(.int .u32 ((s2.getD 1 (U32.mk 0)).v)),(.int .u32 ((s2.getD 2 (U32.mk 0)).v)),(.int .u32 ((s2.getD 3 (U32.mk 0)).v)),(.int .u32 ((s2.getD 4 (U32.mk 0)).v)),(.int .u32 ((s2.getD 5 (U32.mk 0)).v)),(.int .u32 ((s2.getD 6 (U32.mk 0)).v)),(.int .u32 ((s2.getD 7 (U32.mk 0)).v)),(.int .u32 ((s2.getD 8 (U32.mk 0)).v)),(.int .u32 ((s2.getD 9 (U32.mk 0)).v)),(.int .u32 ((s2.getD 10 (U32.mk 0)).v)),(.int .u32 ((s2.getD 11 (U32.mk 0)).v)),(.int .u32 ((s2.getD 12 (U32.mk 0)).v)),(.int .u32 ((s2.getD 13 (U32.mk 0)).v)),(.int .u32 ((s2.getD 14 (U32.mk 0)).v)),(.int .u32 ((s2.getD 15 (U32.mk 0)).v)),(.int .u32 ((s2.getD 16 (U32.mk 0)).v)),(.int .u32 ((s2.getD 17 (U32.mk 0)).v)),(.int .u32 ((s2.getD 18 (U32.mk 0)).v)),(.int .u32 ((s2.getD 19 (U32.mk 0)).v)),(.int .u32 ((s2.getD 20 (U32.mk 0)).v)),(.int .u32 ((s2.getD 21 (U32.mk 0)).v)),(.int .u32 ((s2.getD 22 (U32.mk 0)).v)),(.int .u32 ((s2.getD 23 (U32.mk 0)).v)),(.int .u32 ((s2.getD 24 (U32.mk 0)).v)),(.int .u32 ((s2.getD 25 (U32.mk 0)).v))] ⟨Dg.sv (Dg.mk (S8.mk y9a y9b y9c y9d y9e y9f y9g y9h) y9j l10)⟩)) (
   Q ⟨(.bool false),none,[.ob 0 m,.ob 2 m2],[],[]⟩) (
   ∀i2:Int,i2=0→
   ∃I1:Nat→Int→Mem→Mem→Prop,(∃m4,I1 m4 i2 m m2)∧∀(m4:Nat)(_gv5:Nat→Value)(i3:Int)(s21:Mem)(s4:Mem),I1 m4 i3 s21 s4→
   Mem.Wf s21→
   Mem.Wf s4→
   split (decide (i3<26)) (
    ((0≤i3∧i3<(s2.length:Int))∧i3<(26:Int))∧
    (0≤((s2.getD i3.toNat (U32.mk 0)).v)∧((s2.getD i3.toNat (U32.mk 0)).v)<4294967296)∧
    ∀(m6:Mem),m6=(s21.write true a (i64.wrap (11+i3)) ((s2.getD i3.toNat (U32.mk 0)).v))→
    Mem.Wf m6→
    ∀(m7:Mem),m7=(s4.write true a (i64.wrap (11+i3)) ((s2.getD i3.toNat (U32.mk 0)).v))→
    Mem.Wf m7→
    split (!(decide (s21.err true a (i64.wrap (11+i3))=s4.err true a (i64.wrap (11+i3))))) (
     Q ⟨(.bool false),none,[.ob 0 m6,.ob 2 m7],[],[]⟩) (
     ∀i4:Int,i4=(i64.wrap (i3+1))→
     ∃m5,m5<m4∧I1 m5 i4 m6 m7)) (
    Q ⟨(.bool true),none,[.ob 0 s21,.ob 2 s4],[],[]⟩)))
theorem sr:Vc2 Un Tryz.prog (bd [(87,Ah),(88,rB),(89,Aj),(90,rE),(91,vc),(92,nu),(8,dZ)]) [7,9] Tryz.f44 (.r' (.r' (.r' (.r' (.two (.two (.node [(.c 9 8,1,22)] none [] [] .leaf .leaf) (.two (.node [] (some ⟨[(7,(.one (.int .u32)))],[],[7]++upN 14 16,[(8,(.ob 4)),(9,(.blk [(.v (.int .u32)),(.v (.int .u32)),(.v (.int .u32)),(.v (.int .u32)),(.v (.int .u32)),(.v (.int .u32)),(.v (.int .u32)),(.v (.int .u32)),(.k (.sl 10 0)),(.v (.int .i64))])),(10,(.lst 1))]⟩) [] [] (.two (.two (.node [] (some ⟨[(21,(.one .bool))],[],upN 14 8,[]⟩) [] [] .leaf .leaf) .leaf) .leaf) .leaf) .leaf)) (.r' (.two (.two (.node [] none [] [(0,[11]),(1,[9])] .leaf .leaf) .leaf) (.two (.r' (.two (.node [] (some ⟨[(9,(.one (.int .i64)))],[],[4,9]++upN 36 14,[(2,(.ob 0)),(4,(.ob 2))]⟩) [] [] (.r' (.two (.two (.two (.node [] none [] [(2,[7]),(7,[11])] .leaf .leaf) .leaf) .leaf) .leaf)) .leaf) .leaf)) .leaf)))))))) [] eC=(∀k a b c v ws g r (E:Pd) rm (m:Mem) r2 (F:Pd) rm2 (m2:Mem) rk (kk:List Int) rk2 (kk2:List Int),∀Q,(eC.body k a b c v ws g r E rm m r2 F rm2 m2 rk kk rk2 kk2 Q)→sq k a b c v ws g r E rm m r2 F rm2 m2 rk kk rk2 kk2 Q):=by kernel_rfl
theorem so:LV Un Tryz.prog 44 eC:=verify Tryz.func44 aa (tb:= [(87,Ah),(88,rB),(89,Aj),(90,rE),(91,vc),(92,nu),(8,dZ)]) ⟨Jg,F3,Jh,F4,Hv,Ds,j5,trivial⟩ (by kernel_rfl) (sr.mpr fun k a b c v ws g r E rm m r2 F rm2 m2 rk kk rk2 kk2 Q h=>by
 obtain⟨hp0,hp1,hp2,h⟩:=h
 subst hp0
 exact fun f1 f2 f3 f4=>fun gv=>fun rN=>fun s h_s=>fun gv1=>allEq<| ⟨fun m1 i1 s8 y9a y9b y9c y9d y9e y9f y9g y9h y9j A10 c10 l10=>(m1=(40 - i1).toNat)∧(0≤i1∧i1≤40∧i1≤v)∧(s8=dgN kk i1.toNat)∧((Dg.mk (S8.mk y9a y9b y9c y9d y9e y9f y9g y9h) y9j l10)=dgN kk i1.toNat),⟨_,rfl,(by omega),‹_›,(by rfl)⟩,fun m1 _ i1 s8 y9a y9b y9c y9d y9e y9f y9g y9h y9j A10 c10 l10 ⟨hm,hi,hd,hr⟩=>bw ((decide ((i1:Int)<v)) && (decide ((i1:Int)<40))) (ae (fun c1=>(by grind)) fun c1=>(by grind))<| bQ (fun c2=>(by(have hc2:i1<v∧i1<40:=by simpa using c2);exact fun gv4=>fun l h_l=>ao (by rw [hd];exact lh kk _) fun s5=>ao (by rw [h_l];decide) fun s6=>fun s1 h_s1=>fun gv5=>fun l1 h_l1=>ao (by rw [hr];exact lh kk _) fun s7=>ao (by have h7:y9j=(dgN kk i1.toNat).n:=congrArg Dg.n hr;have h8:=H3 kk i1.toNat;rw [h_l1];simp only [List.length_singleton];omega) fun s8=>fun A1 c1=>fun l2 h_l2=>allEq<| ⟨_,(by(have h8:=bZ (x:=i1+1) (by omega));omega),rfl,(by(have h8:=bZ (x:=i1+1) (by omega));omega),(by rw [xf kk (by omega),← hd,h_s1,h_l]),(by rw [xf kk (by omega),← hr,h_l2,h_l1,hp1])⟩)) fun c2=>(by(have h26:s8.save.length=26:=Dg.pQ (by rw [hd];exact lh kk _));exact ao (by rw [hd];exact lh kk _) fun s9=>fun gv4=>fun s1 h_s1=>ao (by rw [h_s1];rfl) fun s10=>fun s2 h_s2=>ao (by rw [h_s2];rfl) fun s11=>ao (by rw [hr];exact lh kk _) fun s12=>ao (by rfl) fun s13=>ao (by rfl) fun s14=>aW (fun c3=>aK h (congrArg Value.bool (by exfalso;rw [h_s2,hr,← hd]at c3;exact m8 [s8.save.getD 0 0,s8.save.getD 1 0,s8.save.getD 2 0,s8.save.getD 3 0,s8.save.getD 4 0,s8.save.getD 5 0,s8.save.getD 6 0,s8.save.getD 7 0,s8.save.getD 8 0,s8.save.getD 9 0,s8.save.getD 10 0,s8.save.getD 11 0,s8.save.getD 12 0,s8.save.getD 13 0,s8.save.getD 14 0,s8.save.getD 15 0,s8.save.getD 16 0,s8.save.getD 17 0,s8.save.getD 18 0,s8.save.getD 19 0,s8.save.getD 20 0,s8.save.getD 21 0,s8.save.getD 22 0,s8.save.getD 23 0,s8.save.getD 24 0,s8.save.getD 25 0] c3)) (af (congrArg (Upd.ob (U:=Un) 0) (show @Eq Mem _ _ from(by exfalso;rw [h_s2,hr,← hd]at c3;exact m8 [s8.save.getD 0 0,s8.save.getD 1 0,s8.save.getD 2 0,s8.save.getD 3 0,s8.save.getD 4 0,s8.save.getD 5 0,s8.save.getD 6 0,s8.save.getD 7 0,s8.save.getD 8 0,s8.save.getD 9 0,s8.save.getD 10 0,s8.save.getD 11 0,s8.save.getD 12 0,s8.save.getD 13 0,s8.save.getD 14 0,s8.save.getD 15 0,s8.save.getD 16 0,s8.save.getD 17 0,s8.save.getD 18 0,s8.save.getD 19 0,s8.save.getD 20 0,s8.save.getD 21 0,s8.save.getD 22 0,s8.save.getD 23 0,s8.save.getD 24 0,s8.save.getD 25 0] c3))) (af (congrArg (Upd.ob (U:=Un) 2) (show @Eq Mem _ _ from(by exfalso;rw [h_s2,hr,← hd]at c3;exact m8 [s8.save.getD 0 0,s8.save.getD 1 0,s8.save.getD 2 0,s8.save.getD 3 0,s8.save.getD 4 0,s8.save.getD 5 0,s8.save.getD 6 0,s8.save.getD 7 0,s8.save.getD 8 0,s8.save.getD 9 0,s8.save.getD 10 0,s8.save.getD 11 0,s8.save.getD 12 0,s8.save.getD 13 0,s8.save.getD 14 0,s8.save.getD 15 0,s8.save.getD 16 0,s8.save.getD 17 0,s8.save.getD 18 0,s8.save.getD 19 0,s8.save.getD 20 0,s8.save.getD 21 0,s8.save.getD 22 0,s8.save.getD 23 0,s8.save.getD 24 0,s8.save.getD 25 0] c3))) rfl)) rfl) fun c3=>allEq<| ⟨fun m4 i3 s21 s4=>(m4=(26 - i3).toNat)∧(0≤i3∧i3≤26)∧(s21=((E.on m).wrs a 11 (s8.save.take i3.toNat)).mem)∧(s4=s21),⟨_,rfl,(by omega),(by rfl),(by rfl)⟩,fun m4 _ i3 s21 s4 ⟨hm,hi3,hW,hE⟩=>fun f15 f16=>ax (fun c4=>ao (by rw [h_s2,show(Dg.svL s8).length=26 from rfl];omega) fun s17=>ao (by rw [h_s2,Dg.svL_eq h26,vX];exact Ce (by rw [hd];exact lh kk _) h26 (by omega)) fun s18=>fun m6 h_m6 f19=>fun m7 h_m7 f20=>zn (fun c5=>aK h (congrArg Value.bool (by exfalso;simp [hE]at c5)) (af (congrArg (Upd.ob (U:=Un) 0) (show @Eq Mem _ _ from(by exfalso;simp [hE]at c5))) (af (congrArg (Upd.ob (U:=Un) 2) (show @Eq Mem _ _ from(by exfalso;simp [hE]at c5))) rfl)) rfl) fun c5=>allEq<| ⟨_,(by(have h8:=ai (x:=i3+1) (by omega));omega),rfl,(by(have h8:=ai (x:=i3+1) (by omega));omega),(by rw [h_m6,DB.Ea h26 (by omega)];show s21.write true a _ _=((E.on m).wrs a 11 (s8.save.take i3.toNat)).mem.write true a _ _;rw [← hW,h_s2,Dg.svL_eq h26,vX]),(by rw [h_m7,h_m6,hE])⟩) fun c4=>aK h (congrArg Value.bool ‹_›) (af (congrArg (Upd.ob (U:=Un) 0) (show @Eq Mem _ _ from(by(have hf:s21=((E.on m).fF kk a v).mem:=by rw [hW,DB.fF,show i3.toNat=26 by omega,List.take_of_length_le (by omega),hd,show i1.toNat=min v.toNat 40 by simp at c2;omega]);exact hf.symm))) (af (congrArg (Upd.ob (U:=Un) 2) (show @Eq Mem _ _ from(by(have hf:s21=((E.on m).fF kk a v).mem:=by rw [hW,DB.fF,show i3.toNat=26 by omega,List.take_of_length_le (by omega),hd,show i1.toNat=min v.toNat 40 by simp at c2;omega]);(rw [hE];exact hf.symm)))) rfl)) rfl⟩)⟩)
def nA:Ctr Un:=⟨[.one (.ptr 0),.agg [.int .i64,.int .i64,.int .i64,.int .i64,.int .u32,.any]],[(5,5),(6,6)],[.blk [.obj 2 0,.obj 1 0,.obj 3 0] 34,.ob 1 [(1,2,0)],.ob 0 [],.ob 3 [(1,4,0)],.ob 2 [],.ob 5 [],.ob 6 []],[0,1,2,3,4],fun k a b c v ws g r E rm m r2 F rm2 m2 rk kk rk2 kk2 K=>E.n=m.S∧E=F∧m=m2∧kk2=kk∧(0≤(v:Int)∧(v:Int)<4294967296)∧1≤m.S∧split (decide (k=9) && decide (DB.aJ m (DB.ldw (E.on m) a v)=0)) (∀(rN:Nat→Nat)(rN2:Nat→Nat),K ⟨(.bool true),none,[.blk [(.pointer (some (Addr.mk (rm 0) 0 none))),(.pointer (some (Addr.mk (rN 0) 0 none))),(.pointer (some (Addr.mk (rN2 0) 0 none)))],.ob 1 E,.ob 0 m,.ob 3 F,.ob 2 m2],[(.ob 1 rN ((DB.load m (DB.ldw (E.on m) a v)).pd)),(.ob 3 rN2 ((DB.load m (DB.ldw (E.on m) a v)).pd))],[(.c 0 2,.p (.obj 8 0 0)),(.c 0 1,.p (.obj 7 0 0)),(.l 8 1,.p (.obj 4 0 0)),(.l 7 1,.p (.obj 2 0 0)),(.c 0 0,.p (.obj 2 0 0))]⟩) (K ⟨(.bool true),none,[.blk [(.pointer (some (Addr.mk (rm 0) 0 none))),(.pointer (some (Addr.mk (r 0) 0 none))),(.pointer (some (Addr.mk (r2 0) 0 none)))],.ob 1 (((E.on m).act kk k a b c v).pd),.ob 0 (((E.on m).act kk k a b c v).mem),.ob 3 (((E.on m).act kk k a b c v).pd),.ob 2 (((E.on m).act kk k a b c v).mem)],[],[(.c 0 0,.p (.obj 2 0 0)),(.c 0 1,.p (.obj 1 0 0)),(.c 0 2,.p (.obj 3 0 0))]⟩)⟩
def DH(k:Int)(a:Int)(b:Int)(c:Int)(v:Int)(ws:Value)(g:Nat)(r:Nat→Nat)(E:Pd)(rm:Nat→Nat)(m:Mem)(r2:Nat→Nat)(F:Pd)(rm2:Nat→Nat)(m2:Mem)(rk:Nat→Nat)(kk:List Int)(rk2:Nat→Nat)(kk2:List Int)(Q:Ou Un→Prop):Prop:=
 Pd.Ok E→
 Mem.Wf m→
 Pd.Ok F→
 Mem.Wf m2→
 ∀(gv:Nat),
 ∀x7:Bool,x7=((k:Int)==1)→
 split x7 (
  E.n=m.S∧
  ∀(E1:Pd),E1=((E.on m).aQ a b).pd→
  Pd.Ok E1→
  ∀(m1:Mem),m1=((E.on m).aQ a b).mem→
  Mem.Wf m1→
  F.n=m2.S∧
  ∀(E2:Pd),E2=((F.on m2).aQ a b).pd→
  Pd.Ok E2→
  ∀(m3:Mem),m3=((F.on m2).aQ a b).mem→
  Mem.Wf m3→
  Q ⟨(.bool (((E.on m).aV a b)==((F.on m2).aV a b))),none,[.blk [(.pointer (some (Addr.mk (rm 0) 0 none))),(.pointer (some (Addr.mk (r 0) 0 none))),(.pointer (some (Addr.mk (r2 0) 0 none)))],.ob 1 E1,.ob 0 m1,.ob 3 E2,.ob 2 m3],[],[(.c 0 0,.p (.obj 2 0 0)),(.c 0 1,.p (.obj 1 0 0)),(.c 0 2,.p (.obj 3 0 0))]⟩) (
  ∀x29:Bool,x29=((k:Int)==2)→
  split x29 (
   E.n=m.S∧
   ∀(E1:Pd),E1=((E.on m).take a b c).pd→
   Pd.Ok E1→
   ∀(m1:Mem),m1=((E.on m).take a b c).mem→
   Mem.Wf m1→
   F.n=m2.S∧
   ∀(E2:Pd),E2=((F.on m2).take a b c).pd→
   Pd.Ok E2→
   ∀(m3:Mem),m3=((F.on m2).take a b c).mem→
   Mem.Wf m3→
   Q ⟨(.bool (((E.on m).cu a b c)==((F.on m2).cu a b c))),none,[.blk [(.pointer (some (Addr.mk (rm 0) 0 none))),(.pointer (some (Addr.mk (r 0) 0 none))),(.pointer (some (Addr.mk (r2 0) 0 none)))],.ob 1 E1,.ob 0 m1,.ob 3 E2,.ob 2 m3],[],[(.c 0 0,.p (.obj 2 0 0)),(.c 0 1,.p (.obj 1 0 0)),(.c 0 2,.p (.obj 3 0 0))]⟩) (
   ∀x55:Bool,x55=((k:Int)==3)→
   split x55 (
    E.n=m.S∧
    ∀(E1:Pd),E1=((E.on m).ig a b).pd→
    Pd.Ok E1→
    ∀(m1:Mem),m1=((E.on m).ig a b).mem→
    Mem.Wf m1→
    F.n=m2.S∧
    ∀(E2:Pd),E2=((F.on m2).ig a b).pd→
    Pd.Ok E2→
    ∀(m3:Mem),m3=((F.on m2).ig a b).mem→
    Mem.Wf m3→
    Q ⟨(.bool (((E.on m).dE a b)==((F.on m2).dE a b))),none,[.blk [(.pointer (some (Addr.mk (rm 0) 0 none))),(.pointer (some (Addr.mk (r 0) 0 none))),(.pointer (some (Addr.mk (r2 0) 0 none)))],.ob 1 E1,.ob 0 m1,.ob 3 E2,.ob 2 m3],[],[(.c 0 0,.p (.obj 2 0 0)),(.c 0 1,.p (.obj 1 0 0)),(.c 0 2,.p (.obj 3 0 0))]⟩) (
    ∀x77:Bool,x77=((k:Int)==4)→
    split x77 (
     E.n=m.S∧
     ∀(E1:Pd),E1=((E.on m).eZ a).pd→
     Pd.Ok E1→
     ∀(m1:Mem),m1=((E.on m).eZ a).mem→
     Mem.Wf m1→
     F.n=m2.S∧
     ∀(E2:Pd),E2=((F.on m2).eZ a).pd→
     Pd.Ok E2→
     ∀(m3:Mem),m3=((F.on m2).eZ a).mem→
     Mem.Wf m3→
     Q ⟨(.bool (((E.on m).cv a)==((F.on m2).cv a))),none,[.blk [(.pointer (some (Addr.mk (rm 0) 0 none))),(.pointer (some (Addr.mk (r 0) 0 none))),(.pointer (some (Addr.mk (r2 0) 0 none)))],.ob 1 E1,.ob 0 m1,.ob 3 E2,.ob 2 m3],[],[(.c 0 0,.p (.obj 2 0 0)),(.c 0 1,.p (.obj 1 0 0)),(.c 0 2,.p (.obj 3 0 0))]⟩) (
     ∀x95:Bool,x95=((k:Int)==5)→
     split x95 (
      E.n=m.S∧
      ∀(E1:Pd),E1=((E.on m).setState a b).pd→
      Pd.Ok E1→
      ∀(m1:Mem),m1=((E.on m).setState a b).mem→
      Mem.Wf m1→
      F.n=m2.S∧
      ∀(E2:Pd),E2=((F.on m2).setState a b).pd→
      Pd.Ok E2→
      ∀(m3:Mem),m3=((F.on m2).setState a b).mem→
      Mem.Wf m3→
      Q ⟨(.bool (((E.on m).bB a b)==((F.on m2).bB a b))),none,[.blk [(.pointer (some (Addr.mk (rm 0) 0 none))),(.pointer (some (Addr.mk (r 0) 0 none))),(.pointer (some (Addr.mk (r2 0) 0 none)))],.ob 1 E1,.ob 0 m1,.ob 3 E2,.ob 2 m3],[],[(.c 0 0,.p (.obj 2 0 0)),(.c 0 1,.p (.obj 1 0 0)),(.c 0 2,.p (.obj 3 0 0))]⟩) (
      ∀x117:Bool,x117=((k:Int)==6)→
      split x117 (
       E.n=m.S∧
       ∀(E1:Pd),E1=((E.on m).bj a (((b:Int).tmod 2:Int) !=0)).pd→
       Pd.Ok E1→
       ∀(m1:Mem),m1=((E.on m).bj a (((b:Int).tmod 2:Int) !=0)).mem→
       Mem.Wf m1→
       F.n=m2.S∧
       ∀(E2:Pd),E2=((F.on m2).bj a (((b:Int).tmod 2:Int) !=0)).pd→
       Pd.Ok E2→
       ∀(m3:Mem),m3=((F.on m2).bj a (((b:Int).tmod 2:Int) !=0)).mem→
       Mem.Wf m3→
       Q ⟨(.bool (((E.on m).br a)==((F.on m2).br a))),none,[.blk [(.pointer (some (Addr.mk (rm 0) 0 none))),(.pointer (some (Addr.mk (r 0) 0 none))),(.pointer (some (Addr.mk (r2 0) 0 none)))],.ob 1 E1,.ob 0 m1,.ob 3 E2,.ob 2 m3],[],[(.c 0 0,.p (.obj 2 0 0)),(.c 0 1,.p (.obj 1 0 0)),(.c 0 2,.p (.obj 3 0 0))]⟩) (
       ∀x143:Bool,x143=((k:Int)==7)→
       split x143 (
        (0≤v∧v<4294967296)∧
        ∀(m1:Mem),m1=(m.write true a b v)→
        Mem.Wf m1→
        ∀(m3:Mem),m3=(m2.write true a b v)→
        Mem.Wf m3→
        Q ⟨(.bool (decide (m.err true a b=m2.err true a b))),none,[.blk [(.pointer (some (Addr.mk (rm 0) 0 none))),(.pointer (some (Addr.mk (r 0) 0 none))),(.pointer (some (Addr.mk (r2 0) 0 none)))],.ob 1 E,.ob 0 m1,.ob 3 F,.ob 2 m3],[],[(.c 0 0,.p (.obj 2 0 0)),(.c 0 1,.p (.obj 1 0 0)),(.c 0 2,.p (.obj 3 0 0))]⟩) (
        ∀x153:Bool,x153=((k:Int)==8)→
        split x153 (
         m=m2∧
         kk2=kk∧
         (0≤v∧v<4294967296)∧
         ∀(m1:Mem),m1=((E.on m).fF kk a v).mem→
         Mem.Wf m1→
         ∀(m3:Mem),m3=((E.on m).fF kk a v).mem→
         Mem.Wf m3→
         Q ⟨(.bool true),none,[.blk [(.pointer (some (Addr.mk (rm 0) 0 none))),(.pointer (some (Addr.mk (r 0) 0 none))),(.pointer (some (Addr.mk (r2 0) 0 none)))],.ob 1 E,.ob 0 m1,.ob 3 F,.ob 2 m3],[],[(.c 0 0,.p (.obj 2 0 0)),(.c 0 1,.p (.obj 1 0 0)),(.c 0 2,.p (.obj 3 0 0))]⟩) (
         ∀x158:Bool,x158=((k:Int)==9)→
         split x158 (
          E.n=m.S∧
          E=F∧
          m=m2∧
          (0≤v∧v<4294967296)∧
          1≤m.S∧
          split (decide (DB.aJ m (DB.ldw (E.on m) a v)=0)) (
           ∀(rN:Nat→Nat)(rN2:Nat→Nat),
           ∀(E1:Pd),E1=(DB.load m (DB.ldw (E.on m) a v)).pd→
           Pd.Ok E1→
           ∀(E2:Pd),E2=(DB.load m (DB.ldw (E.on m) a v)).pd→
           Pd.Ok E2→
           Q ⟨(.bool true),none,[.blk [(.pointer (some (Addr.mk (rm 0) 0 none))),(.pointer (some (Addr.mk (rN 0) 0 none))),(.pointer (some (Addr.mk (rN2 0) 0 none)))],.ob 1 E,.ob 0 m,.ob 3 F,.ob 2 m2],[(.ob 1 rN E1),(.ob 3 rN2 E2)],[(.c 0 2,.p (.obj 8 0 0)),(.c 0 1,.p (.obj 7 0 0)),(.l 8 1,.p (.obj 4 0 0)),(.l 7 1,.p (.obj 2 0 0)),(.c 0 0,.p (.obj 2 0 0))]⟩) (
           Q ⟨(.bool true),none,[.blk [(.pointer (some (Addr.mk (rm 0) 0 none))),(.pointer (some (Addr.mk (r 0) 0 none))),(.pointer (some (Addr.mk (r2 0) 0 none)))],.ob 1 E,.ob 0 m,.ob 3 F,.ob 2 m2],[],[(.c 0 0,.p (.obj 2 0 0)),(.c 0 1,.p (.obj 1 0 0)),(.c 0 2,.p (.obj 3 0 0))]⟩)) (
          Q ⟨(.bool true),none,[.blk [(.pointer (some (Addr.mk (rm 0) 0 none))),(.pointer (some (Addr.mk (r 0) 0 none))),(.pointer (some (Addr.mk (r2 0) 0 none)))],.ob 1 E,.ob 0 m,.ob 3 F,.ob 2 m2],[],[(.c 0 0,.p (.obj 2 0 0)),(.c 0 1,.p (.obj 1 0 0)),(.c 0 2,.p (.obj 3 0 0))]⟩)))))))))
theorem DI:Vc2 Un Tryz.prog (bd [(32,jB),(26,di),(33,dY),(34,vw),(35,iX),(36,vv),(37,iW),(38,vB),(39,iY),(40,kb),(41,eB),(42,iD),(43,dA),(8,dZ),(44,eC),(45,fO)]) [7,29,55,77,95,117,143,153,158] Tryz.f11 (.r' (.two (.r' (.two (.r' (.two (.two (.node [] none [] [(3,[0]),(5,[7]),(7,[7]),(13,[0]),(15,[7]),(17,[7])] .leaf .leaf) .leaf) (.r' (.two (.two (.node [] none [] [(3,[0]),(5,[7]),(7,[7]),(9,[7]),(15,[0]),(17,[7]),(19,[7]),(21,[7])] .leaf .leaf) .leaf) (.r' (.two (.two (.node [] none [] [(3,[0]),(5,[7]),(7,[7]),(13,[0]),(15,[7]),(17,[7])] .leaf .leaf) .leaf) (.r' (.two (.two (.node [] none [] [(3,[0]),(5,[7]),(11,[0]),(13,[7])] .leaf .leaf) .leaf) (.r' (.two (.two (.node [] none [] [(3,[0]),(5,[7]),(7,[7]),(13,[0]),(15,[7]),(17,[7])] .leaf .leaf) .leaf) (.r' (.two (.two (.node [] none [] [(3,[0]),(5,[7]),(7,[7]),(15,[0]),(17,[7]),(19,[7])] .leaf .leaf) .leaf) .leaf)))))))))))) .leaf)) .leaf)) [1000000,8,9] nA=(∀k a b c v ws g r (E:Pd) rm (m:Mem) r2 (F:Pd) rm2 (m2:Mem) rk (kk:List Int) rk2 (kk2:List Int),∀Q,(nA.body k a b c v ws g r E rm m r2 F rm2 m2 rk kk rk2 kk2 Q)→DH k a b c v ws g r E rm m r2 F rm2 m2 rk kk rk2 kk2 Q):=by kernel_rfl
theorem DG:LV Un Tryz.prog 11 nA:=verify Tryz.func11 aa (tb:= [(32,jB),(26,di),(33,dY),(34,vw),(35,iX),(36,vv),(37,iW),(38,vB),(39,iY),(40,kb),(41,eB),(42,iD),(43,dA),(8,dZ),(44,eC),(45,fO)]) ⟨vx,j6,rh,HI,Df,HH,Dc,HN,Dn,yV,se,sx,oJ,j5,so,yK,trivial⟩ (by kernel_rfl) (DI.mpr fun k a b c v ws g r E rm m r2 F rm2 m2 rk kk rk2 kk2 Q h=>by
 obtain⟨hp0,hp1,hp2,hp3,hp4,hp5,h⟩:=h
 subst hp1
 subst hp2
 exact fun f1 f2 f3 f4=>fun gv=>allEq<| aE (fun c1=>ao ‹_› fun s5=>fun E1 h_E1 f6=>fun m1 h_m1 f7=>ao ‹_› fun s8=>fun E2 h_E2 f9=>fun m3 h_m3 f10=>aK (bz h (by simp [c1,h_E1,h_m1,h_E2,h_m3])) (congrArg Value.bool (by(simp [c1,h_E1,h_m1,h_E2,h_m3,DB.act];done))) (af (congrArg Upd.blk rfl) (af (congrArg (Upd.ob (U:=Un) 1) (show @Eq Pd _ _ from(by(simp [c1,h_E1,h_m1,h_E2,h_m3,DB.act];done)))) (af (congrArg (Upd.ob (U:=Un) 0) (show @Eq Mem _ _ from(by(simp [c1,h_E1,h_m1,h_E2,h_m3,DB.act];done)))) (af (congrArg (Upd.ob (U:=Un) 3) (show @Eq Pd _ _ from(by(simp [c1,h_E1,h_m1,h_E2,h_m3,DB.act];done)))) (af (congrArg (Upd.ob (U:=Un) 2) (show @Eq Mem _ _ from(by(simp [c1,h_E1,h_m1,h_E2,h_m3,DB.act];done)))) rfl))))) rfl) fun c1=>allEq<| aE (fun c2=>ao ‹_› fun s11=>fun E1 h_E1 f12=>fun m1 h_m1 f13=>ao ‹_› fun s14=>fun E2 h_E2 f15=>fun m3 h_m3 f16=>aK (bz h (by simp [c1,c2,h_E1,h_m1,h_E2,h_m3])) (congrArg Value.bool (by(simp [c1,c2,h_E1,h_m1,h_E2,h_m3,DB.act];done))) (af (congrArg Upd.blk rfl) (af (congrArg (Upd.ob (U:=Un) 1) (show @Eq Pd _ _ from(by(simp [c1,c2,h_E1,h_m1,h_E2,h_m3,DB.act];done)))) (af (congrArg (Upd.ob (U:=Un) 0) (show @Eq Mem _ _ from(by(simp [c1,c2,h_E1,h_m1,h_E2,h_m3,DB.act];done)))) (af (congrArg (Upd.ob (U:=Un) 3) (show @Eq Pd _ _ from(by(simp [c1,c2,h_E1,h_m1,h_E2,h_m3,DB.act];done)))) (af (congrArg (Upd.ob (U:=Un) 2) (show @Eq Mem _ _ from(by(simp [c1,c2,h_E1,h_m1,h_E2,h_m3,DB.act];done)))) rfl))))) rfl) fun c2=>allEq<| aE (fun c3=>ao ‹_› fun s17=>fun E1 h_E1 f18=>fun m1 h_m1 f19=>ao ‹_› fun s20=>fun E2 h_E2 f21=>fun m3 h_m3 f22=>aK (bz h (by simp [c1,c2,c3,h_E1,h_m1,h_E2,h_m3])) (congrArg Value.bool (by(simp [c1,c2,c3,h_E1,h_m1,h_E2,h_m3,DB.act];done))) (af (congrArg Upd.blk rfl) (af (congrArg (Upd.ob (U:=Un) 1) (show @Eq Pd _ _ from(by(simp [c1,c2,c3,h_E1,h_m1,h_E2,h_m3,DB.act];done)))) (af (congrArg (Upd.ob (U:=Un) 0) (show @Eq Mem _ _ from(by(simp [c1,c2,c3,h_E1,h_m1,h_E2,h_m3,DB.act];done)))) (af (congrArg (Upd.ob (U:=Un) 3) (show @Eq Pd _ _ from(by(simp [c1,c2,c3,h_E1,h_m1,h_E2,h_m3,DB.act];done)))) (af (congrArg (Upd.ob (U:=Un) 2) (show @Eq Mem _ _ from(by(simp [c1,c2,c3,h_E1,h_m1,h_E2,h_m3,DB.act];done)))) rfl))))) rfl) fun c3=>allEq<| aE (fun c4=>ao ‹_› fun s23=>fun E1 h_E1 f24=>fun m1 h_m1 f25=>ao ‹_› fun s26=>fun E2 h_E2 f27=>fun m3 h_m3 f28=>aK (bz h (by simp [c1,c2,c3,c4,h_E1,h_m1,h_E2,h_m3])) (congrArg Value.bool (by(simp [c1,c2,c3,c4,h_E1,h_m1,h_E2,h_m3,DB.act];done))) (af (congrArg Upd.blk rfl) (af (congrArg (Upd.ob (U:=Un) 1) (show @Eq Pd _ _ from(by(simp [c1,c2,c3,c4,h_E1,h_m1,h_E2,h_m3,DB.act];done)))) (af (congrArg (Upd.ob (U:=Un) 0) (show @Eq Mem _ _ from(by(simp [c1,c2,c3,c4,h_E1,h_m1,h_E2,h_m3,DB.act];done)))) (af (congrArg (Upd.ob (U:=Un) 3) (show @Eq Pd _ _ from(by(simp [c1,c2,c3,c4,h_E1,h_m1,h_E2,h_m3,DB.act];done)))) (af (congrArg (Upd.ob (U:=Un) 2) (show @Eq Mem _ _ from(by(simp [c1,c2,c3,c4,h_E1,h_m1,h_E2,h_m3,DB.act];done)))) rfl))))) rfl) fun c4=>allEq<| aE (fun c5=>ao ‹_› fun s29=>fun E1 h_E1 f30=>fun m1 h_m1 f31=>ao ‹_› fun s32=>fun E2 h_E2 f33=>fun m3 h_m3 f34=>aK (bz h (by simp [c1,c2,c3,c4,c5,h_E1,h_m1,h_E2,h_m3])) (congrArg Value.bool (by(simp [c1,c2,c3,c4,c5,h_E1,h_m1,h_E2,h_m3,DB.act];done))) (af (congrArg Upd.blk rfl) (af (congrArg (Upd.ob (U:=Un) 1) (show @Eq Pd _ _ from(by(simp [c1,c2,c3,c4,c5,h_E1,h_m1,h_E2,h_m3,DB.act];done)))) (af (congrArg (Upd.ob (U:=Un) 0) (show @Eq Mem _ _ from(by(simp [c1,c2,c3,c4,c5,h_E1,h_m1,h_E2,h_m3,DB.act];done)))) (af (congrArg (Upd.ob (U:=Un) 3) (show @Eq Pd _ _ from(by(simp [c1,c2,c3,c4,c5,h_E1,h_m1,h_E2,h_m3,DB.act];done)))) (af (congrArg (Upd.ob (U:=Un) 2) (show @Eq Mem _ _ from(by(simp [c1,c2,c3,c4,c5,h_E1,h_m1,h_E2,h_m3,DB.act];done)))) rfl))))) rfl) fun c5=>allEq<| aE (fun c6=>ao ‹_› fun s35=>fun E1 h_E1 f36=>fun m1 h_m1 f37=>ao ‹_› fun s38=>fun E2 h_E2 f39=>fun m3 h_m3 f40=>aK (bz h (by simp [c1,c2,c3,c4,c5,c6,h_E1,h_m1,h_E2,h_m3])) (congrArg Value.bool (by(simp [c1,c2,c3,c4,c5,c6,h_E1,h_m1,h_E2,h_m3,DB.act];done))) (af (congrArg Upd.blk rfl) (af (congrArg (Upd.ob (U:=Un) 1) (show @Eq Pd _ _ from(by(simp [c1,c2,c3,c4,c5,c6,h_E1,h_m1,h_E2,h_m3,DB.act];done)))) (af (congrArg (Upd.ob (U:=Un) 0) (show @Eq Mem _ _ from(by(simp [c1,c2,c3,c4,c5,c6,h_E1,h_m1,h_E2,h_m3,DB.act];done)))) (af (congrArg (Upd.ob (U:=Un) 3) (show @Eq Pd _ _ from(by(simp [c1,c2,c3,c4,c5,c6,h_E1,h_m1,h_E2,h_m3,DB.act];done)))) (af (congrArg (Upd.ob (U:=Un) 2) (show @Eq Mem _ _ from(by(simp [c1,c2,c3,c4,c5,c6,h_E1,h_m1,h_E2,h_m3,DB.act];done)))) rfl))))) rfl) fun c6=>allEq<| aE (fun c7=>ao ‹_› fun s41=>fun m1 h_m1 f42=>fun m3 h_m3 f43=>aK (bz h (by simp [c1,c2,c3,c4,c5,c6,c7,h_m1,h_m3])) (congrArg Value.bool (by(simp [c1,c2,c3,c4,c5,c6,c7,h_m1,h_m3,DB.act];done))) (af (congrArg Upd.blk rfl) (af (congrArg (Upd.ob (U:=Un) 1) (show @Eq Pd _ _ from(by(simp [c1,c2,c3,c4,c5,c6,c7,h_m1,h_m3,DB.act,DB.jL,DB.cS,DB.iz,Pd.cx,Pd.dq _ _ hp0];done)))) (af (congrArg (Upd.ob (U:=Un) 0) (show @Eq Mem _ _ from(by(simp [c1,c2,c3,c4,c5,c6,c7,h_m1,h_m3,DB.act,DB.jL,DB.cS,DB.iz,Pd.cx,Pd.dq _ _ hp0];done)))) (af (congrArg (Upd.ob (U:=Un) 3) (show @Eq Pd _ _ from(by(simp [c1,c2,c3,c4,c5,c6,c7,h_m1,h_m3,DB.act,DB.jL,DB.cS,DB.iz,Pd.cx,Pd.dq _ _ hp0];done)))) (af (congrArg (Upd.ob (U:=Un) 2) (show @Eq Mem _ _ from(by(simp [c1,c2,c3,c4,c5,c6,c7,h_m1,h_m3,DB.act,DB.jL,DB.cS,DB.iz,Pd.cx,Pd.dq _ _ hp0];done)))) rfl))))) rfl) fun c7=>allEq<| aE (fun c8=>ao (by grind) fun s44=>ao ‹_› fun s45=>ao ‹_› fun s46=>fun m1 h_m1 f47=>fun m3 h_m3 f48=>aK (bz h (by simp [c1,c2,c3,c4,c5,c6,c7,c8,h_m1,h_m3])) (congrArg Value.bool (by(simp [c1,c2,c3,c4,c5,c6,c7,c8,h_m1,h_m3,DB.act];done))) (af (congrArg Upd.blk rfl) (af (congrArg (Upd.ob (U:=Un) 1) (show @Eq Pd _ _ from(by(simp [c1,c2,c3,c4,c5,c6,c7,c8,h_m1,h_m3,DB.act,DB.jL,DB.cS,DB.iz,Pd.cx,Pd.dq _ _ hp0];done)))) (af (congrArg (Upd.ob (U:=Un) 0) (show @Eq Mem _ _ from(by(simp [c1,c2,c3,c4,c5,c6,c7,c8,h_m1,h_m3,DB.act];done)))) (af (congrArg (Upd.ob (U:=Un) 3) (show @Eq Pd _ _ from(by(simp [c1,c2,c3,c4,c5,c6,c7,c8,h_m1,h_m3,DB.act,DB.jL,DB.cS,DB.iz,Pd.cx,Pd.dq _ _ hp0];done)))) (af (congrArg (Upd.ob (U:=Un) 2) (show @Eq Mem _ _ from(by(simp [c1,c2,c3,c4,c5,c6,c7,c8,h_m1,h_m3,DB.act];done)))) rfl))))) rfl) fun c8=>allEq<| aE (fun c9=>ao ‹_› fun s49=>ao (by grind) fun s50=>ao (by grind) fun s51=>ao ‹_› fun s52=>ao ‹_› fun s53=>ax (fun c10=>fun rN rN2=>fun E1 h_E1 f54=>fun E2 h_E2 f55=>aK ((iJ h (by simp [c1,c2,c3,c4,c5,c6,c7,c8,c9,c10,h_E1,h_E2])) rN rN2) rfl (af (congrArg Upd.blk rfl) (af rfl (af rfl (af (congrArg (Upd.ob (U:=Un) 3) (show @Eq Pd _ _ from(by(simp [c1,c2,c3,c4,c5,c6,c7,c8,c9,c10,h_E1,h_E2,DB.act];done)))) (af (congrArg (Upd.ob (U:=Un) 2) (show @Eq Mem _ _ from(by(simp [c1,c2,c3,c4,c5,c6,c7,c8,c9,c10,h_E1,h_E2,DB.act];done)))) rfl))))) (af (congrArg (Res.ob (U:=Un) 1 _) (show @Eq Pd _ _ from(by(simp [c1,c2,c3,c4,c5,c6,c7,c8,c9,c10,h_E1,h_E2,DB.act];done)))) (af (congrArg (Res.ob (U:=Un) 3 _) (show @Eq Pd _ _ from(by(simp [c1,c2,c3,c4,c5,c6,c7,c8,c9,c10,h_E1,h_E2,DB.act];done)))) rfl))) fun c10=>aK (bz h (by simp [c1,c2,c3,c4,c5,c6,c7,c8,c9,c10])) (congrArg Value.bool (by(simp [c1,c2,c3,c4,c5,c6,c7,c8,c9,c10,DB.act];done))) (af (congrArg Upd.blk rfl) (af (congrArg (Upd.ob (U:=Un) 1) (show @Eq Pd _ _ from(by(simp [c1,c2,c3,c4,c5,c6,c7,c8,c9,c10,DB.act,DB.qs,Pd.cx,Pd.dq _ _ hp0];done)))) (af (congrArg (Upd.ob (U:=Un) 0) (show @Eq Mem _ _ from(by(simp [c1,c2,c3,c4,c5,c6,c7,c8,c9,c10,DB.act,DB.qs,Pd.cx,Pd.dq _ _ hp0];done)))) (af (congrArg (Upd.ob (U:=Un) 3) (show @Eq Pd _ _ from(by(simp [c1,c2,c3,c4,c5,c6,c7,c8,c9,c10,DB.act,DB.qs,Pd.cx,Pd.dq _ _ hp0];done)))) (af (congrArg (Upd.ob (U:=Un) 2) (show @Eq Mem _ _ from(by(simp [c1,c2,c3,c4,c5,c6,c7,c8,c9,c10,DB.act,DB.qs,Pd.cx,Pd.dq _ _ hp0];done)))) rfl))))) rfl) fun c9=>aK (bz h (by simp [c1,c2,c3,c4,c5,c6,c7,c8,c9])) (congrArg Value.bool (by(simp [c1,c2,c3,c4,c5,c6,c7,c8,c9,DB.act];done))) (af (congrArg Upd.blk rfl) (af (congrArg (Upd.ob (U:=Un) 1) (show @Eq Pd _ _ from(by(simp [c1,c2,c3,c4,c5,c6,c7,c8,c9,DB.act,DB.jL,DB.cS,DB.iz,Pd.cx,Pd.dq _ _ hp0];done)))) (af (congrArg (Upd.ob (U:=Un) 0) (show @Eq Mem _ _ from(by(simp [c1,c2,c3,c4,c5,c6,c7,c8,c9,DB.act,DB.jL,DB.cS,DB.iz,Pd.cx,Pd.dq _ _ hp0];done)))) (af (congrArg (Upd.ob (U:=Un) 3) (show @Eq Pd _ _ from(by(simp [c1,c2,c3,c4,c5,c6,c7,c8,c9,DB.act,DB.jL,DB.cS,DB.iz,Pd.cx,Pd.dq _ _ hp0];done)))) (af (congrArg (Upd.ob (U:=Un) 2) (show @Eq Mem _ _ from(by(simp [c1,c2,c3,c4,c5,c6,c7,c8,c9,DB.act,DB.jL,DB.cS,DB.iz,Pd.cx,Pd.dq _ _ hp0];done)))) rfl))))) rfl)
def rL:Ctr Un:=⟨[.one (.obj 0 0),.agg [.int .i64,.int .i64,.int .i64,.int .i64,.int .u32,.any]],[(1,5),(2,6)],[.ob 8 [],.ob 5 [],.ob 6 []],[0],fun k a b c v ws r s rk kk rk2 kk2 K=>s.R=s.D∧kk2=kk∧(0≤(v:Int)∧(v:Int)<4294967296)∧∀(s1:LSt),((s1.R=s1.D∧s1.D=s.D.act kk k a b c v))→K ⟨(.bool true),none,[.ob 8 s1],[],[]⟩⟩
theorem Gi:LV Un Tryz.prog 11 rL:=by
 show ∀(k:Int)(a:Int)(b:Int)(c:Int)(v:Int)(ws:Value)(r:Nat→Nat)(s:LSt)(rk:Nat→Nat)(kk:List Int)(rk2:Nat→Nat)(kk2:List Int),∀Q:Ou Un→Prop,(s.R=s.D∧kk2=kk∧(0≤(v:Int)∧(v:Int)<4294967296)∧∀(s1:LSt),((s1.R=s1.D∧s1.D=s.D.act kk k a b c v))→Q ⟨(.bool true),none,[.ob 8 s1],[],[]⟩)→∀(X:Nat→Nat→Prop)(w:World),Sat (U:=Un) [(.ob 8 r s),(.ob 5 rk kk),(.ob 6 rk2 kk2)] X w→aD (U:=Un) [(.ob 8 r s),(.ob 5 rk kk),(.ob 6 rk2 kk2)] fr0 []→Calls Tryz.prog 11 #[(.pointer (some (Addr.mk (r 0) 0 none))),(.agg #[(.int .i64 k),(.int .i64 a),(.int .i64 b),(.int .i64 c),(.int .u32 v),ws])] w (aP (U:=Un) [(.ob 8 r s),(.ob 5 rk kk),(.ob 6 rk2 kk2)] [0] X w Q)
 intro k a b c v ws r s rk kk rk2 kk2 Q hQ X w hs hl
 obtain⟨hR,hkk,hv,hQ⟩:=hQ
 have hok:LSt.Ok s:=u9 (t:=8) (r:=r) (s:=s) (hs.res 0 _ rfl)
 have hS:1≤s.D.mem.S:=by have:=hok.pos;rw [hR]at this;exact this
 obtain⟨r1,rm,r2,rm2,Y,hY,⟨l1,l2⟩,hcl⟩:=Bf hs
 have hl1:aD (aux (r 0) r1 s.D.pd rm s.D.mem r2 s.R.pd rm2 s.R.mem++ [.ob 5 rk kk,.ob 6 rk2 kk2]) fr0 [(.l 1 1,.p (.obj 2 0 0)),(.l 3 1,.p (.obj 4 0 0))]:=fun key k hm=>by
  simp only [List.mem_cons,Prod.mk.injEq,List.not_mem_nil,or_false]at hm
  rcases hm with⟨rfl,rfl⟩ | ⟨rfl,rfl⟩
  ·exact⟨_,_,_,rfl,show some (Value.pointer (some ⟨rm 0,0,none⟩))=some (.pointer (some ⟨r1 1,0,none⟩))by rw [l1]⟩
  ·exact⟨_,_,_,rfl,show some (Value.pointer (some ⟨rm2 0,0,none⟩))=some (.pointer (some ⟨r2 1,0,none⟩))by rw [l2]⟩
 have h0:=DG k a b c v ws (r 0) r1 s.D.pd rm s.D.mem r2 s.R.pd rm2 s.R.mem rk kk rk2 kk2 (fun o=>((k=9∧DB.aJ s.D.mem (s.D.ldw a v)=0)∧∃(rN rN2:Nat→Nat),o=⟨(.bool true),none,[.blk [(.pointer (some (Addr.mk (rm 0) 0 none))),(.pointer (some (Addr.mk (rN 0) 0 none))),(.pointer (some (Addr.mk (rN2 0) 0 none)))],.ob 1 s.D.pd,.ob 0 s.D.mem,.ob 3 s.R.pd,.ob 2 s.R.mem],[(.ob 1 rN ((DB.load s.D.mem (DB.ldw (s.D.pd.on s.D.mem) a v)).pd)),(.ob 3 rN2 ((DB.load s.D.mem (DB.ldw (s.D.pd.on s.D.mem) a v)).pd))],[(.c 0 2,.p (.obj 8 0 0)),(.c 0 1,.p (.obj 7 0 0)),(.l 8 1,.p (.obj 4 0 0)),(.l 7 1,.p (.obj 2 0 0)),(.c 0 0,.p (.obj 2 0 0))]⟩)∨(¬(k=9∧DB.aJ s.D.mem (s.D.ldw a v)=0)∧o=⟨(.bool true),none,[.blk [(.pointer (some (Addr.mk (rm 0) 0 none))),(.pointer (some (Addr.mk (r1 0) 0 none))),(.pointer (some (Addr.mk (r2 0) 0 none)))],.ob 1 (((s.D.pd.on s.D.mem).act kk k a b c v).pd),.ob 0 (((s.D.pd.on s.D.mem).act kk k a b c v).mem),.ob 3 (((s.D.pd.on s.D.mem).act kk k a b c v).pd),.ob 2 (((s.D.pd.on s.D.mem).act kk k a b c v).mem)],[],[(.c 0 0,.p (.obj 2 0 0)),(.c 0 1,.p (.obj 1 0 0)),(.c 0 2,.p (.obj 3 0 0))]⟩)) ⟨rfl,by rw [hR],by rw [hR],hkk,hv,hS,ae (fun h rN rN2=>.inl ⟨by have h2:(decide (k=9) && decide (DB.aJ s.D.mem (s.D.ldw a v)=0))=true:=h;simpa using h2,rN,rN2,rfl⟩) (fun h=>.inr ⟨by have h2:(decide (k=9) && decide (DB.aJ s.D.mem (s.D.ldw a v)=0))=false:=h;simpa using h2,rfl⟩)⟩ Y w hY hl1
 refine h0.mono ?_
 rintro e w' ⟨out,rs',X',rfl,⟨he,rN,rN2,rfl⟩ | ⟨he,rfl⟩,happ,hp⟩
 ·obtain rfl: [Res.blk (U:=Un) (r 0) [.pointer (some (Addr.mk (rm 0) 0 none)),.pointer (some (Addr.mk (rN 0) 0 none)),.pointer (some (Addr.mk (rN2 0) 0 none))] 34,.ob 1 r1 s.D.pd,.ob 0 rm s.D.mem,.ob 3 r2 s.R.pd,.ob 2 rm2 s.R.mem,.ob 5 rk kk,.ob 6 rk2 kk2]=rs':=Option.some.inj happ
  have k1:rN 1=rm 0:=by
   obtain⟨t,r,s',h1,h2⟩:=hp.kc (.l 7 1) (.p (.obj 2 0 0)) (by simp) (by simp)
   have h1:some (Res.ob (U:=Un) 1 rN (DB.load s.D.mem (s.D.ldw a v)).pd)=some (.ob t r s'):=h1
   cases h1
   have h2:some (Value.pointer (some ⟨rm 0,0,none⟩))=some (.pointer (some ⟨rN 1,0,none⟩)):=h2
   simpa using h2.symm
  have k2:rN2 1=rm2 0:=by
   obtain⟨t,r,s',h1,h2⟩:=hp.kc (.l 8 1) (.p (.obj 4 0 0)) (by simp) (by simp)
   have h1:some (Res.ob (U:=Un) 3 rN2 (DB.load s.D.mem (s.D.ldw a v)).pd)=some (.ob t r s'):=h1
   cases h1
   have h2:some (Value.pointer (some ⟨rm2 0,0,none⟩))=some (.pointer (some ⟨rN2 1,0,none⟩)):=h2
   simpa using h2.symm
  have hsat:Sat (aux (r 0) rN (DB.load s.D.mem (s.D.ldw a v)).pd rm s.D.mem rN2 (DB.load s.D.mem (s.D.ldw a v)).pd rm2 s.R.mem) (fun i=>X' (if i=1 then 7 else if i=3 then 8 else i)) w':=Sat.sel hp.sat _ (fun i hi=>by
   have hi:i<5:=hi
   match i,hi with
   | 0,_ | 1,_ | 2,_ | 3,_ | 4,_=>rfl) (fun i j hi hj hij=>by
   have hi:i<5:=hi
   have hj:j<5:=hj
   (repeat' split)<;>omega)
  refine hcl hsat k1 k2 rfl (by rw [hR];rfl) (hp.ch.mono fun k ⟨j,hj,h⟩=>⟨j,by have hj:j∈ [0,1,2,3,4]:=hj;simp at hj;omega,h⟩) (fun i hi k hk=>?_) (hQ _ ⟨by show(DB.load s.D.mem (s.D.ldw a v)).pd.on s.R.mem=(DB.load s.D.mem (s.D.ldw a v)).pd.on s.D.mem;rw [hR],by rw [he.1];show _=s.D.qs a v;rw [DB.qs,if_pos he.2];rfl⟩) trivial
  match i,hi,hk with
  | 0,_,hk=>exact(hp.grow 0 (show 0∈ [0,1,2,3,4]by simp) k hk).imp (fun h=>⟨0,by omega,h⟩) id
  | 1,_,hk=>exact .inr (hp.new 7 (show 7≤7 by decide) (show 7<9 by decide) k hk)
  | 2,_,hk=>exact(hp.grow 2 (show 2∈ [0,1,2,3,4]by simp) k hk).imp (fun h=>⟨2,by omega,h⟩) id
  | 3,_,hk=>exact .inr (hp.new 8 (show 7≤8 by decide) (show 8<9 by decide) k hk)
  | 4,_,hk=>exact(hp.grow 4 (show 4∈ [0,1,2,3,4]by simp) k hk).imp (fun h=>⟨4,by omega,h⟩) id
 ·obtain rfl:aux (r 0) r1 (s.D.act kk k a b c v).pd rm (s.D.act kk k a b c v).mem r2 (s.D.act kk k a b c v).pd rm2 (s.D.act kk k a b c v).mem++ [Res.ob (U:=Un) 5 rk kk,Res.ob (U:=Un) 6 rk2 kk2]=rs':=Option.some.inj happ
  have hsat:Sat (aux (r 0) r1 (s.D.act kk k a b c v).pd rm (s.D.act kk k a b c v).mem r2 (s.D.act kk k a b c v).pd rm2 (s.D.act kk k a b c v).mem) X' w':=Sat.sel hp.sat (fun i=>i) (fun i hi=>by
   have hi:i<5:=hi
   match i,hi with
   | 0,_ | 1,_ | 2,_ | 3,_ | 4,_=>rfl) (fun i j hi hj hij=>hij)
  refine hcl hsat l1 l2 rfl rfl (hp.ch.mono fun k ⟨j,hj,h⟩=>⟨j,by have hj:j∈ [0,1,2,3,4]:=hj;simp at hj;omega,h⟩) (fun i hi k hk=>?_) (hQ _ ⟨rfl,rfl⟩) trivial
  exact(hp.grow i (show i∈ [0,1,2,3,4]by simp;omega) k hk).imp (fun h=>⟨i,hi,h⟩) id
end Go.Proofs.YtbjlecpmgocoeaaGreatDoor
end
section
namespace Go.Proofs.YtbjlecpmgocoeaaGreatDoor
open Go Go.RowKit V
open Go.IntKind (i64 u32 u64)
theorem qc {f:Nat→Int} {cs:Array Value}(hs:cs.size=1024)(h:∀o,o<1024→cs[o]? =some (.int .u32 (f o))):cs=aT ((List.range 1024).map f):=by
 apply Array.ext_getElem?
 intro i
 by_cases hi:i<1024
 ·rw [h i hi,dO (by simpa using hi),List.getD_eq_getElem?_getD,List.getElem?_map,List.getElem?_range hi];rfl
 ·rw [Array.getElem?_eq_none (by omega),Array.getElem?_eq_none (by simp;omega)]
theorem wY:∀(l l':List Int),l.length=l'.length→eqL (l.map (Value.int .u32)) (l'.map (Value.int .u32))=decide (l=l')
 | [],[],_=>by simp [eqL]
 | a::l,b::l',hl=>by
  have ih:=wY l l' (by simpa using hl)
  rw [List.map_cons,List.map_cons,eqL,ih]
  by_cases h:a=b
  ·subst h;simp [jD]
  ·simp [jD,h]
theorem wQ:∀(l:List Int),bW (mS [.int .u32] l.length) (l.map (Value.int .u32))=true
 | []=>rfl
 | a::l=>by
  have ih:=wQ l
  simpa [mS,bW,kEq]using ih
structure rF(w:World)(a n:Nat)(pg:Nat→Nat)(f:Nat→Nat→Int):Prop where
 row:∃T cs,Blk w a cs T∧∀i,i<n→cs[i]? =some (ptr (pg i))
 pgs:∀i,i<n→fW w (pg i) (f i)
theorem rF.pu {w w':World} {a n:Nat} {pg:Nat→Nat} {f:Nat→Nat→Int}(h:rF w a n pg f)(q:Pu w w'):rF w' a n pg f:=by
 obtain⟨⟨T,cs,hr,h2⟩,h3⟩:=h
 exact⟨⟨T,cs,q.blk hr,h2⟩,fun i hi=>(h3 i hi).pu q⟩
theorem cp.jF {w:World} {L:er} {m:Mem}(h:cp w L m)(s:Bool):rF w (L.row s) (m.cnt s) (L.pg s) (m.pg s):=⟨h.rows s,h.pgs s⟩
theorem HX {w:World} {a n:Nat} {pg:Nat→Nat} {f:Nat→Nat→Int}(h:rF w a n pg f)(hn:n≤64):
 Calls Tryz.prog 97 #[.slice (some (Addr.mk a 0 none)) n n] w fun e w'=>∃v,e= .returned v∧∃g p,v= .slice (some (Addr.mk g 0 none)) n n∧iC w' g n n p f w.heap.size∧Pu w w':=by
 refine yF _ _ _ ?_
 refine iq El (by omega) (by omega) (by omega) fun g w1 hM=>?_
 rw [Int.toNat_natCast]at hM ⊢
 refine⟨fun k x w'=>∃i:Nat,x=(i:Int)∧i≤n∧k=n - i∧(∃p,iC w' g n i p f w.heap.size)∧Pu w w',⟨n,0,rfl,by omega,by omega,⟨fun _=>0,⟨⟨_,_,hM.blk,by simp,by simp⟩,by simp,by simp,by simp,by rw [hM.num];exact Nat.le_refl _,by simp⟩⟩,hM.pu⟩,?_⟩
 rintro k _ x w2 ⟨i,rfl,hi,rfl,⟨p,hP⟩,hpu⟩
 refine ae (fun hb=>?_) (fun hb=>?_)
 ·have hi':i<n:=by simpa using hb
  have h2:=h.pu hpu
  obtain⟨T0,cs0,hr0,hc0⟩:=h2.row
  obtain⟨T1,cs1,hb1,hs1,hc1⟩:=h2.pgs i hi'
  refine⟨⟨by omega,by omega⟩,ah _ rfl ⟨some (Addr.mk (pg i) 0 none),by rw [Nat.mul_one,Int.toNat_natCast];exact hr0.at (hc0 i hi'),ah _ rfl ⟨cs1,⟨hs1,fun j u hj=>hb1.at hj⟩,?_⟩⟩⟩
  intro q w3 hq hw3
  have hM3:=made hq hw3
  have hone:∀v∈cs1.toList,one? v True:=by rw [qc hs1 hc1];exact lQ
  refine⟨hs1,hone,cf hM3.blk (by simpa using hs1) fun w4 hs4=>?_⟩
  have hpg:fW w4 q (f i):=⟨_,_,hs4.blk,by simpa using hs1,fun o ho=>by simpa using hc1 o ho⟩
  have hqn:w2.heap.size≤q:=by rw [hM3.num];exact Nat.le_refl _
  have h24:Pu w2 w4:=(Ch.stored (X:=fun _=>False) (hM3.pu) hs4 (.inr hqn))
  obtain⟨T,cs,hr,hsz,hmore⟩:=hP.more (w2:=w4) h24 hpg hqn hi' hpu.size
  refine⟨⟨by omega,by omega⟩,ah _ rfl ?_⟩
  rw [Nat.mul_one,Int.toNat_natCast]
  refine aM hr hsz fun w5 hs=>⟨n - (i+1),by omega,i+1,?_,hi',rfl,⟨_,hmore _ hs⟩,?_⟩
  ·rw [ai (by omega)];omega
  ·have hg:w.heap.size≤g:=hP.low.1
   exact((hpu.trans h24).mono (by simp):Ch (fun _=>False) w w4).stored hs (.inr hg)
 ·have:i=n:=by simp at hb;omega
  subst this
  exact⟨g,p,rfl,hP,hpu⟩
theorem EH {w:World} {L:er} {m:Mem}(h:cp w L m):
 Calls Tryz.prog 48 #[ptr L.g] w fun e w'=>∃v,e= .returned v∧∃L':er,v=ptr L'.g∧cp w' L' m∧(∀k,L'.X k→w.heap.size≤k)∧Pu w w':=by
 refine vq _ ?_
 obtain⟨T,hd⟩:=h.hd
 have hD:Pu w w.drew:=Pu.aI w
 have hd1:=hD.blk hd
 refine⟨fun _ k=>k=L.g,ah _ rfl ⟨by rw [block_add],_,_,_,hd1.at rfl,ah _ rfl ⟨by rw [block_add],_,_,_,hd1.at rfl,ah _ rfl ⟨by rw [block_add],_,hd1.at rfl,?_⟩⟩⟩⟩
 refine(HX ((h.jF true).pu hD) h.cH.1).mono ?_
 rintro e w1 ⟨_,rfl,a,pa,rfl,hA,hp1⟩
 have hg1:L.g<w.drew.heap.size:=hd1.lt
 refine⟨_,_,_,rfl,hp1.eY (fun k hk=>by have:k=L.g:=(by simpa [bt]using hk);rw [this];exact hg1),fun _ k=>k=L.g,fun _ k hk=>hk,?_⟩
 refine(HX (((h.jF false).pu hD).pu hp1) h.cH.2).mono ?_
 rintro e w2 ⟨_,rfl,b,pb,rfl,hB,hp2⟩
 have h12:=hp2.size
 have h01:=hp1.size
 have h0:=hD.size
 refine⟨_,_,_,rfl,hp2.eY (fun k hk=>by have:k=L.g:=(by simpa [bt]using hk);rw [this];omega),fun _ k=>k=L.g,fun _ k hk=>hk,?_⟩
 intro g w3 hg hw3
 have hM:=made hg hw3
 refine⟨hM.kept.mono (fun k hk=>by have:k=L.g:=(by simpa [bt]using hk);rw [this];omega),fun _ k=>k=L.g,fun _ k hk=>hk,?_⟩
 have hA3:=(hA.pu hp2).pu hM.pu
 have hB3:=hB.pu hM.pu
 have hal:∀j,j<m.S→pa j<w1.heap.size:=fun j hj=>(hA.pgs j hj).lt
 have hag:a<w1.heap.size:=by obtain⟨T,cs,hr,_⟩:=hA.row;exact hr.lt
 have hbl:∀j,j<m.I→pb j<w2.heap.size:=fun j hj=>(hB.pgs j hj).lt
 have hbg:b<w2.heap.size:=by obtain⟨T,cs,hr,_⟩:=hB.row;exact hr.lt
 have hgn:=hM.num
 refine⟨⟨g,a,b,fun s=>match s with | true=>pa | false=>pb,fun s=>m.cnt s⟩,rfl,⟨fun s=>rfl,⟨_,hM.blk⟩,fun s=>?_,fun s i hi=>?_,fun s i s' i' hi hi' e=>?_,⟨by show a≠g;omega,by show b≠g;omega,fun s i hi=>?_⟩,h.u32,h.cH⟩,?_,((hD.trans hp1).trans hp2).trans hM.pu⟩
 ·cases s
  ·obtain⟨T,cs,hr,_,h2⟩:=hB3.row;exact⟨T,cs,hr,h2⟩
  ·obtain⟨T,cs,hr,_,h2⟩:=hA3.row;exact⟨T,cs,hr,h2⟩
 ·cases s
  ·exact hB3.pgs i hi
  ·exact hA3.pgs i hi
 ·cases s<;>cases s'<;>simp only [Mem.cnt]at hi hi'<;>simp only at e
  ·exact⟨rfl,hB.inj _ _ hi hi' e⟩
  ·have:=hB.low.2 i hi;have:=hal i' hi';omega
  ·have:=hB.low.2 i' hi';have:=hal i hi;omega
  ·exact⟨rfl,hA.inj _ _ hi hi' e⟩
 ·cases s<;>simp only [Mem.cnt]at hi<;>simp only
  ·have:=hB.low.2 i hi;have:=hbl i hi;have:=hB.dis i hi
   refine⟨?_,?_,this⟩<;>omega
  ·have:=hA.low.2 i hi;have:=hal i hi;have h3:=hA.dis i hi;have:=hB.low.1
   refine⟨?_,h3,?_⟩<;>omega
 ·rintro k (rfl | rfl | rfl | ⟨s,i,hi,rfl⟩)
  ·omega
  ·have:=hA.low.1;omega
  ·have:=hB.low.1;omega
  ·cases s<;>simp only [Mem.cnt]at hi<;>simp only
   ·have:=hB.low.2 i hi;omega
   ·have:=hA.low.2 i hi;omega
def j1(n n':Nat)(f g:Nat→Nat→Int):Bool:=decide (n=n') && (List.range n).all fun i=>(List.range 1024).all fun o=>f i o==g i o
theorem jt {n n':Nat} {f g:Nat→Nat→Int}:j1 n n' f g=true↔n=n'∧∀i,i<n→∀o,o<1024→f i o=g i o:=by simp [j1]
theorem xJ {n n':Nat} {f g:Nat→Nat→Int}(h:¬(n=n'∧∀i,i<n→∀o,o<1024→f i o=g i o)):j1 n n' f g=false:=by
 rw [← Bool.not_eq_true,jt];exact h
theorem EI {w:World} {a b n n':Nat} {pa pb:Nat→Nat} {f g:Nat→Nat→Int}(h1:rF w a n pa f)(h2:rF w b n' pb g)(hn:n≤64):
 Calls Tryz.prog 100 #[.slice (some (Addr.mk a 0 none)) n n,.slice (some (Addr.mk b 0 none)) n' n'] w fun e w'=>∃v,e= .returned v∧v= .bool (j1 n n' f g)∧Pu w w':=by
 refine vr _ _ _ _ _ _ ?_
 refine bo (fun c=>?_) (fun c=>?_)
 ·exact⟨by rw [xJ (by rintro⟨e,_⟩;exact c (by rw [e]))],Ch.refl _ _⟩
 obtain rfl:n=n':=by omega
 refine⟨fun k x w'=>∃i:Nat,x=(i:Int)∧i≤n∧k=n - i∧(∀j,j<i→∀o,o<1024→f j o=g j o)∧Pu w w',⟨n,0,rfl,by omega,by omega,by simp,Ch.refl _ _⟩,?_⟩
 rintro k _ x w2 ⟨i,rfl,hi,rfl,hall,hpu⟩
 refine ae (fun hb=>?_) (fun hb=>?_)
 ·have hi':i<n:=by simpa using hb
  have hq:=hpu.drew
  have g1:=h1.pu hq
  have g2:=h2.pu hq
  obtain⟨T0,cs0,hr0,hc0⟩:=g1.row
  obtain⟨T1,cs1,hb1,hs1,hc1⟩:=g1.pgs i hi'
  obtain⟨T2,cs2,hr2,hc2⟩:=g2.row
  obtain⟨T3,cs3,hb3,hs3,hc3⟩:=g2.pgs i hi'
  refine⟨⟨by omega,by omega⟩,ah _ rfl ⟨some (Addr.mk (pa i) 0 none),by rw [Nat.mul_one,Int.toNat_natCast];exact hr0.at (hc0 i hi'),ah _ rfl ⟨cs1,⟨hs1,fun j u hj=>hb1.at hj⟩,⟨by omega,by omega⟩,ah _ rfl ⟨some (Addr.mk (pb i) 0 none),by rw [Nat.mul_one,Int.toNat_natCast];exact hr2.at (hc2 i hi'),ah _ rfl ⟨cs3,⟨hs3,fun j u hj=>hb3.at hj⟩,?_⟩⟩⟩⟩⟩
  rw [qc hs1 hc1,qc hs3 hc3]
  have hf:∀l:List Int,l.length=1024→bW (mS [.int .u32] 1024) (aT l).toList=true:=fun l hl=>by rw [← hl];simpa [aT]using wQ l
  refine⟨hf _ (by simp),hf _ (by simp),?_⟩
  have he:bf (aT ((List.range 1024).map (f i))) (aT ((List.range 1024).map (g i)))=true↔∀o,o<1024→f i o=g i o:=by
   unfold bf aT
   rw [show((List.range 1024).map (f i)).map (Value.int .u32)=(((List.range 1024).map (f i)).map (Value.int .u32))from rfl,List.toList_toArray,List.toList_toArray,wY _ _ (by simp),decide_eq_true_eq]
   constructor
   ·intro e o ho
    have:=congrArg (fun l=>l[o]?) e
    simpa [List.getElem?_map,List.getElem?_range ho]using this
   ·exact fun e=>List.map_congr_left fun o ho=>e o (by simpa using ho)
  refine aW (fun c=>?_) (fun c=>?_)
  ·have c:¬∀o,o<1024→f i o=g i o:=fun e=>by rw [he.2 e]at c;cases c
   exact⟨by rw [xJ (by rintro⟨_,e⟩;exact c (e i hi'))],hq⟩
  ·exact⟨n - (i+1),by omega,i+1,by rw [ai (by omega)];omega,hi',rfl,fun j hj=>by
    by_cases e:j=i
    ·rw [e];exact he.1 c
    ·exact hall j (by omega),hq⟩
 ·have:i=n:=by simp at hb;omega
  subst this
  exact⟨by rw [jt.2 ⟨rfl,hall⟩],hpu⟩
def Mem.same(m o:Mem):Bool:=j1 m.S o.S (m.pg true) (o.pg true) && j1 m.I o.I (m.pg false) (o.pg false)
theorem JG {w:World} {L L':er} {m o:Mem}(h:cp w L m)(h2:cp w L' o):
 Calls Tryz.prog 53 #[ptr L.g,ptr L'.g] w fun e w'=>∃v,e= .returned v∧v= .bool (m.same o)∧Pu w w':=by
 refine yz _ _ ?_
 refine⟨fun x w'=>x=m.same o∧Pu w w',?_,fun _ x w' ⟨hx,q⟩=>⟨by rw [hx],q⟩⟩
 obtain⟨T,hd⟩:=h.hd
 obtain⟨T',hd'⟩:=h2.hd
 have hD:Pu w w.drew:=Pu.aI w
 have d1:=hD.blk hd
 have d2:=hD.blk hd'
 refine⟨fun _ k=>k=L.g∨k=L'.g,ah _ rfl ⟨by rw [block_add];exact .inl rfl,_,_,_,d1.at rfl,ah _ rfl ⟨by rw [block_add];exact .inr rfl,_,_,_,d2.at rfl,?_⟩⟩⟩
 refine(EI ((h.jF true).pu hD) ((h2.jF true).pu hD) h.cH.1).mono ?_
 rintro e w1 ⟨_,rfl,rfl,hp1⟩
 have hlt:∀k,k=L.g∨k=L'.g→k<w.drew.heap.size:=by rintro k (rfl | rfl);exact d1.lt;exact d2.lt
 refine⟨_,rfl,hp1.eY (fun k hk=>hlt k (by simpa [bt]using hk)),fun _ k=>k=L.g∨k=L'.g,fun _ k hk=>hk,?_⟩
 refine ae (fun c=>?_) (fun c=>?_)
 ·have e1:=hp1.blk d1
  have e2:=hp1.blk d2
  have h01:=hp1.size
  refine ah _ rfl ⟨by rw [block_add];exact .inl rfl,_,_,_,e1.at rfl,ah _ rfl ⟨by rw [block_add];exact .inr rfl,_,_,_,e2.at rfl,?_⟩⟩
  refine(EI (((h.jF false).pu hD).pu hp1) (((h2.jF false).pu hD).pu hp1) h.cH.2).mono ?_
  rintro e w2 ⟨_,rfl,rfl,hp2⟩
  refine⟨_,rfl,hp2.eY (fun k hk=>by have:=hlt k (by simpa [bt]using hk);omega),fun _ k=>k=L.g∨k=L'.g,fun _ k hk=>hk,?_,(hD.trans hp1).trans hp2⟩
  have c':j1 m.S o.S (m.pg true) (o.pg true)=true:=c
  rw [Mem.same,c',Bool.true_and];rfl
 ·have c':j1 m.S o.S (m.pg true) (o.pg true)=false:=c
  exact⟨by rw [Mem.same,c',Bool.false_and],hD.trans hp1⟩
end Go.Proofs.YtbjlecpmgocoeaaGreatDoor
end
section
namespace Go.Proofs.YtbjlecpmgocoeaaGreatDoor
open Go Go.RowKit V
open Go.IntKind (i64 u32 u64)
theorem tm {w w1:World} {L:cV} {D:DB} {L':er} {s:Nat} {T':TypeId}(h:DBP w L D)(hq:Pu w w1)(hM:cp w1 L' D.mem)(hX:∀k,L'.X k→w.heap.size≤k)(hb:Blk w1 s (aT (List.replicate D.n2 0)) T')(hsw:w.heap.size≤s)(hsX:¬L'.X s) {R:aw}(hR:∀v w',(∃L2:cV,v=ptr L2.g∧DBP w' L2 D∧(∀k,L2.X k→w.heap.size≤k)∧Pu w w')→R v w'):
 ∀(gv:Nat)(wv2:World),gv=w1.heap.size→wv2=w1.alloc (.cells #[ptr L'.g,.int .i64 D.aB,.slice (some (Addr.mk s 0 none)) D.n2 D.n2] 93)→
 Kept (bt (fun _ k=>k=L.g) [0,1,2,5,6,9,10,11,12]) w1 wv2∧∃b3:Nat→Nat→Prop,(∀i k,(fun _ k=>k=L.g:Nat→Nat→Prop) i k→b3 i k)∧
 ∃b4:Nat→Nat→Prop,
 b4 3 (((Addr.mk gv 0 none).add 2).block)∧
 ∃x24A:Option Addr,∃x24N:Nat,∃x24C:Nat,wv2.drew.cell? ((Addr.mk gv 0 none).add 2)=some (.slice x24A x24N x24C)∧
 au (some (Addr.mk L.g 0 none)) fun p26=>
 b4 7 ((p26.add 2).block)∧
 ∃x28A:Option Addr,∃x28N:Nat,∃x28C:Nat,wv2.drew.cell? (p26.add 2)=some (.slice x28A x28N x28C)∧
 ∃x29:Int,∃wv3,(Builtin.copy_ #[40,40] 3 #[(.slice x24A x24N x24C),(.slice x28A x28N x28C)]:Sem Value).run Tryz.prog wv2.drew= .ok (.int .i64 x29) wv3∧
 Kept (bt b4 [0,4]) wv2.drew wv3∧∃b5:Nat→Nat→Prop,(∀i k,b4 i k→b5 i k)∧
 R (.pointer (some (Addr.mk gv 0 none))) wv3:=by
 intro gv w2 hg hw2
 have hm:=made hg hw2
 have hmn:=hm.num
 have hq2:Pu w w2.drew:=(hq.trans hm.pu).trans (Pu.aI w2)
 have hD2:=h.pu hq2
 have hMm:cp w2.drew L' D.mem:=(hM.pu hm.pu).pu (Pu.aI w2)
 have hbs:Blk w2.drew s (aT (List.replicate D.n2 0)) T':=(hm.old hb).drew
 have hbd:=hm.blk.drew
 have hsl:=hb.lt
 have hgl:L.g<w.heap.size:=h.lt _ (.inl rfl)
 have hws:=hq.size
 obtain⟨T0,hd0⟩:=hD2.hd
 refine⟨hm.kept.mono (fun k hk=>by have:k=L.g:=(by simpa [bt]using hk);rw [this];omega),fun _ k=>k=L.g,fun _ k hk=>hk,fun _ k=>k=gv∨k=L.g,by rw [block_add];exact .inl rfl,_,_,_,hbd.at rfl,ah _ rfl ⟨by rw [block_add];exact .inr rfl,_,_,_,hd0.at rfl,?_⟩⟩
 obtain⟨x,w3,hrun,hst⟩:=tn (P:=Tryz.prog) (dT:=40) (sT:=40) (ty:=3) (dn:=D.n2) (dc:=D.n2) sI hbs rfl hD2.ints (by simp) (K:=fun w3=>bu w2.drew s (aT (eX (List.replicate D.n2 0) 0 (D.ws.take (min D.n2 D.n2)))) T' w3) (fun _ hs=>hs)
 have hwl:D.ws.length=D.n2:=D.kP
 rw [List.take_of_length_le (by omega),pN _ _ (by rw [hwl];simp)]at hst
 refine⟨x,w3,hrun,hst.kept.mono (fun k hk=>by have:k=gv∨k=L.g:=(by simpa [bt]using hk);rcases this with e | e<;>omega),fun _ k=>k=gv∨k=L.g,fun _ k hk=>hk,hR _ _ ⟨⟨gv,s,L'⟩,rfl,⟨⟨_,hst.old hbd (show gv≠s by omega)⟩,⟨T',_,hst.blk,by rw [dC,hwl],fun p hp=>?_⟩,hMm.ch hst.ch fun k hk e=>hsX (e▸hk),h.ok,⟨by show s≠gv;omega,fun(hx:L'.X gv)=>absurd (hM.lt gv hx) (by omega),hsX⟩⟩,?_,?_⟩⟩
 ·have hp2:p<D.S:=hp
  have e1:=oX (fun p=>(D.ent p).w0) (fun p=>(D.ent p).w1) D.S (2*p) (by omega)
  have e2:=oX (fun p=>(D.ent p).w0) (fun p=>(D.ent p).w1) D.S (2*p+1) (by omega)
  have f1:D.ws[2*p]? =some (D.ent p).w0:=by
   show((List.range D.S).flatMap fun p=>[(D.ent p).w0,(D.ent p).w1])[2*p]? =_
   rw [e1,if_pos (by omega),show 2*p / 2=p by omega]
  have f2:D.ws[2*p+1]? =some (D.ent p).w1:=by
   show((List.range D.S).flatMap fun p=>[(D.ent p).w0,(D.ent p).w1])[2*p+1]? =_
   rw [e2,if_neg (by omega),show(2*p+1) / 2=p by omega]
  have hl:D.ws.length=2*D.S:=D.kP
  exact⟨by rw [dO (by omega),List.getD_eq_getElem?_getD,f1];rfl,by rw [dO (by omega),List.getD_eq_getElem?_getD,f2];rfl⟩
 ·rintro k (e | e | hk)
  ·rw [e];show w.heap.size≤gv;omega
  ·rw [e];exact hsw
  ·exact hX k hk
 ·exact Ch.stored (X:=fun _=>False) hq2 hst (.inr hsw)
theorem IW {w:World} {L:cV} {D:DB}(h:DBP w L D):
 Calls Tryz.prog 15 #[ptr L.g] w fun e w'=>∃v,e= .returned v∧∃L2:cV,v=ptr L2.g∧DBP w' L2 D∧(∀k,L2.X k→w.heap.size≤k)∧Pu w w':=by
 refine vD _ ?_
 have hD:Pu w w.drew:=Pu.aI w
 have h1:=h.pu hD
 obtain⟨T,hd⟩:=h1.hd
 have hgl:L.g<w.drew.heap.size:=hd.lt
 have h0s:w.drew.heap.size=w.heap.size:=rfl
 have hm64:=h.mem.cH.1
 have eY:∀(l:List Nat)(k:Nat),bt (fun _ k=>k=L.g) l k→k=L.g:=fun l k hk=>by
  induction l with
  | nil=>simp [bt]at hk
  | cons a l ih=>
   cases l with
   | nil=>exact hk
   | cons c l=>rcases(show k=L.g∨bt (fun _ k=>k=L.g) (c::l) k from hk)with hk | hk;exact hk;exact ih hk
 refine⟨fun _ k=>k=L.g,ah _ rfl ⟨by rw [block_add],_,hd.at rfl,ah _ rfl ⟨by rw [block_add],_,hd.at rfl,ah _ rfl ⟨by rw [block_add],_,_,_,hd.at rfl,?_⟩⟩⟩⟩
 refine⟨?_,?_⟩
 ·refine(EH h1.mem).mono ?_
  rintro e w1 ⟨_,rfl,L',rfl,hM,hX,hp1⟩
  refine⟨_,rfl,hp1.eY (fun k hk=>by rw [eY _ k hk];exact hgl),fun _ k=>k=L.g,fun _ k hk=>hk,?_⟩
  refine iq sI (by omega) (by unfold DB.n2;omega) (by unfold DB.n2;omega) fun s w2 hs=>?_
  have hp1s:=hp1.size
  refine⟨hs.kept.mono (fun k hk=>by rw [eY _ k hk];omega),fun _ k=>k=L.g,fun _ k hk=>hk,?_⟩
  rw [Int.toNat_natCast]at hs ⊢
  have hq:Pu w w2:=(hD.trans hp1).trans hs.pu
  have hM2:=hM.pu hs.pu
  have hsn:=hs.num
  have hb:Blk w2 s (aT (List.replicate D.n2 0)) _:=hs.blk.cast (dN _ _)
  have hsX:¬L'.X s:=fun hx=>by have:=hM.lt s hx;omega
  have hsw:w.heap.size≤s:=by omega
  have hX:∀k,L'.X k→w.heap.size≤k:=hX
  exact tm h hq hM2 hX hb hsw hsX fun _ _ h=>h
 ·refine iq sI (by omega) (by unfold DB.n2;omega) (by unfold DB.n2;omega) fun s w1 hs=>?_
  refine⟨hs.kept.mono (fun k hk=>by rw [eY _ k hk];omega),fun _ k=>k=L.g,fun _ k hk=>hk,?_⟩
  rw [Int.toNat_natCast]at hs ⊢
  refine(EH (h1.mem.pu hs.pu)).mono ?_
  rintro e w2 ⟨_,rfl,L',rfl,hM,hX,hp1⟩
  have hs1:=hs.pu.size
  refine⟨_,rfl,hp1.eY (fun k hk=>by rw [eY _ k hk];omega),fun _ k=>k=L.g,fun _ k hk=>hk,?_⟩
  have hq:Pu w w2:=(hD.trans hs.pu).trans hp1
  have hsn:=hs.num
  have hb:Blk w2 s (aT (List.replicate D.n2 0)) _:=hp1.blk (hs.blk.cast (dN _ _))
  have hsX:¬L'.X s:=fun hx=>by have:=hX s hx;have:=hs.blk.lt;omega
  exact tm h hq hM (fun k hk=>by have:=hX k hk;omega) hb (by omega) hsX fun _ _ h=>h
end Go.Proofs.YtbjlecpmgocoeaaGreatDoor
end
section
namespace Go.Proofs.YtbjlecpmgocoeaaGreatDoor
open Go Go.RowKit V
open Go.IntKind (i64 u32 u64)
section
variable {U:Uni}
theorem aP.two {rs:List (Res U)} {X:Nat→Nat→Prop} {w w':World} {Q:Ou U→Prop} {v:Value} {k:Option Kn} {Z1 Z2:Nat→Prop} {r1 r2:Res U} {kc:List (Key×Kn)}(hs:Sat rs X w)(q:Pu w w')(h1:RS Z1 w' r1)(h2:RS Z2 w' r2)(hz1:∀k,Z1 k→w.heap.size≤k)(hz2:∀k,Z2 k→w.heap.size≤k)(hd:∀k,Z1 k→¬Z2 k)(hQ:Q ⟨v,k,[],[r1,r2],kc⟩)(hk:KnO (rs++ [r1,r2]) v k)
 (hkc:∀key k,(key,k)∈kc→ej (rs++ [r1,r2]) fr0 key k):aP rs [] X w Q (.returned v) w':=by
 have n1:nth (rs++ [r1,r2]) rs.length=some r1:=by rw [aY,if_neg (by omega),Nat.sub_self];rfl
 have n2:nth (rs++ [r1,r2]) (rs.length+1)=some r2:=by rw [aY,if_neg (by omega),show rs.length+1 - rs.length=1 by omega];rfl
 let X':Nat→Nat→Prop:=fun i=>if i=rs.length then Z1 else if i=rs.length+1 then Z2 else X i
 have e1:X' rs.length=Z1:=if_pos rfl
 have e2:X' (rs.length+1)=Z2:=by show(if _ then _ else if _ then _ else _)=_;rw [if_neg (by omega),if_pos rfl]
 have e0:∀i,i<rs.length→X' i=X i:=fun i hi=>by show(if _ then _ else if _ then _ else _)=_;rw [if_neg (by omega),if_neg (by omega)]
 have new:∀i,rs.length≤i→i<rs.length+2→∀k,X' i k→w.heap.size≤k:=fun i ha hb k hk=>by
  rcases(show i=rs.length∨i=rs.length+1 by omega)with e | e
  ·subst e;rw [e1]at hk;exact hz1 k hk
  ·subst e;rw [e2]at hk;exact hz2 k hk
 refine⟨⟨v,k,[],[r1,r2],kc⟩,rs,X',rfl,hQ,by simp [bh],⟨⟨fun i r hr=>?_,fun i j hi hj hij k hk1 hk2=>?_⟩,q.mono (fun _ h=>h.elim),fun i hi _=>e0 i hi,fun i hi=>(by cases hi),fun i ha hb=>new i ha (by simpa using hb),hk,fun key k hm _=>hkc key k hm⟩⟩
 ·have hl:=aU hr
  simp only [List.length_append,List.length_cons,List.length_nil]at hl
  by_cases hi:i<rs.length
  ·rw [aY,if_pos hi]at hr
   rw [e0 i hi]
   exact(hs.res i r hr).ch q (by simp)
  ·rcases(show i=rs.length∨i=rs.length+1 by omega)with e | e
   ·subst e;rw [n1]at hr;injection hr with hr;subst hr;rw [e1];exact h1
   ·subst e;rw [n2]at hr;injection hr with hr;subst hr;rw [e2];exact h2
 ·simp only [List.length_append,List.length_cons,List.length_nil]at hi hj
  by_cases hi':i<rs.length
  ·have hl:k<w.heap.size:=hs.lt hi' k (by rw [e0 i hi']at hk1;exact hk1)
   by_cases hj':j<rs.length
   ·rw [e0 i hi']at hk1;rw [e0 j hj']at hk2
    exact hs.dis i j hi' hj' hij k hk1 hk2
   ·have:=new j (by omega) (by omega) k hk2;omega
  ·by_cases hj':j<rs.length
   ·have hl:k<w.heap.size:=hs.lt hj' k (by rw [e0 j hj']at hk2;exact hk2)
    have:=new i (by omega) (by omega) k hk1;omega
   ·rcases(show i=rs.length∧j=rs.length+1∨j=rs.length∧i=rs.length+1 by omega)with⟨ea,eb⟩ | ⟨ea,eb⟩
    ·subst ea;subst eb;rw [e1]at hk1;rw [e2]at hk2;exact hd k hk1 hk2
    ·subst ea;subst eb;rw [e2]at hk1;rw [e1]at hk2;exact hd k hk2 hk1
end
end Go.Proofs.YtbjlecpmgocoeaaGreatDoor
end
section
set_option maxRecDepth 100000
set_option maxHeartbeats 1000000
namespace Go.Proofs.YtbjlecpmgocoeaaGreatDoor
open Go Go.RowKit V
open Go.IntKind (i64 u32 u64)
open Go.Proofs (Tryz.prog)
def vn:Ctr Un:=⟨[.one (.obj 0 0),.one (.obj 1 0)],[],[.ob 0 [],.ob 0 []],[],fun rm m ro o K=>K ⟨(.bool (m.same o)),none,[],[],[]⟩⟩
theorem HB:LV Un Tryz.prog 53 vn:=by
 show ∀(rm:Nat→Nat)(m:Mem)(ro:Nat→Nat)(o:Mem),∀Q:Ou Un→Prop,(Q ⟨(.bool (m.same o)),none,[],[],[]⟩)→∀(X:Nat→Nat→Prop)(w:World),Sat (U:=Un) [(.ob 0 rm m),(.ob 0 ro o)] X w→aD (U:=Un) [(.ob 0 rm m),(.ob 0 ro o)] fr0 []→Calls Tryz.prog 53 #[(.pointer (some (Addr.mk (rm 0) 0 none))),(.pointer (some (Addr.mk (ro 0) 0 none)))] w (aP (U:=Un) [(.ob 0 rm m),(.ob 0 ro o)] [] X w Q)
 intro rm m ro o Q hQ X w hs hl
 obtain⟨L,hg,hX,hM⟩:=(hs.res 0 _ rfl:bn 0 rm m (X 0) w)
 obtain⟨L',hg',hX',hM'⟩:=(hs.res 1 _ rfl:bn 0 ro o (X 1) w)
 rw [hg,hg']
 refine(JG hM hM').mono ?_
 rintro e w' ⟨u,rfl,rfl,q⟩
 exact aP.pu hs q hQ trivial
end Go.Proofs.YtbjlecpmgocoeaaGreatDoor
end
section
namespace Go.Proofs.YtbjlecpmgocoeaaGreatDoor
open Go Go.RowKit V
open Go.IntKind (i64 u32 u64)
theorem EV {α:Type} {l:List α} {i:Nat} {d:α}(h:i<l.length):l.getD i d∈l:=by
 rw [List.getD_eq_getElem?_getD,List.getElem?_eq_getElem h]
 exact List.getElem_mem ..
namespace DB
theorem Ba(D:DB)(p o v q x:Int):(D.wr p o v).word q x=if(q=p∧x=o)∧D.has p=true∧Mem.dG o=true then v else D.word q x:=by
 show(D.mem.write true p o v).iM true q x=_
 unfold Mem.write
 by_cases h:D.mem.has true p && Mem.dG o
 ·rw [if_pos h]
  simp only [Bool.and_eq_true]at h
  have hp:=Mem.cO h.1
  have ho:=Mem.gu h.2
  show(if(((D.mem.put true p.toNat o.toNat v).tick 1).has true q && Mem.dG x)=true then _ else _)=_
  rw [show((D.mem.put true p.toNat o.toNat v).tick 1).has true q=D.mem.has true q from rfl]
  by_cases hq:D.mem.has true q && Mem.dG x
  ·rw [if_pos hq]
   simp only [Bool.and_eq_true]at hq
   have hq1:=Mem.cO hq.1
   have hx1:=Mem.gu hq.2
   have hw:D.word q x=D.mem.pg true q.toNat x.toNat:=by show D.mem.iM true q x=_;unfold Mem.iM;rw [if_pos (by simp [hq])]
   rw [hw]
   show(if(true=true∧q.toNat=p.toNat)then(if x.toNat=o.toNat then v else D.mem.pg true p.toNat x.toNat)else D.mem.pg true q.toNat x.toNat)=_
   have hh:D.has p=true:=h.1
   by_cases h1:q=p
   ·subst h1
    by_cases h2:x=o
    ·subst h2;rw [if_pos ⟨rfl,rfl⟩,if_pos rfl,if_pos ⟨⟨rfl,rfl⟩,hh,h.2⟩]
    ·rw [if_pos ⟨rfl,rfl⟩,if_neg (by omega),if_neg (fun h=>h2 h.1.2)]
   ·rw [if_neg (by omega),if_neg (fun h=>h1 h.1.1)]
  ·rw [if_neg hq]
   have hw:D.word q x=0:=by show D.mem.iM true q x=_;unfold Mem.iM;rw [if_neg hq]
   rw [hw,if_neg]
   rintro⟨⟨rfl,rfl⟩,h3,h4⟩
   exact hq (by simp [h])
 ·rw [if_neg h,if_neg]
  ·rfl
  ·rintro⟨_,h3,h4⟩
   exact h (by rw [show D.mem.has true p=D.has p from rfl,h3,h4];rfl)
theorem mr {D:DB} {c:Int}(h1:1≤c)(h2:c≤13)(h:∀c',1≤c'→c'<c→D.dz c'=true):D.dI (13 - c).toNat c=D.broken:=by
 obtain⟨n,rfl⟩:∃n:Nat,c=1+(n:Int):=⟨(c - 1).toNat,by omega⟩
 induction n with
 | zero=>rfl
 | succ n ih=>
  rw [← ih (by omega) (by omega) (fun c' a b=>h c' a (by omega)),show(13 - (1+(n:Int))).toNat=(13 - (1+((n+1:Nat):Int))).toNat+1 by omega]
  show _=if D.dz (1+(n:Int))then _ else _
  rw [if_pos (h _ (by omega) (by omega)),show 1+(n:Int)+1=1+((n+1:Nat):Int)by omega]
theorem CL {D:DB}(h:∀c,1≤c→c≤12→D.dz c=true):D.broken=(0,0):=by
 rw [← mr (c:=13) (by omega) (by omega) fun c a b=>h c a (by omega)];rfl
theorem CM {D:DB} {c p:Int}(hc:1≤c∧c≤12)(h:∀c',1≤c'→c'<c→D.dz c'=true)(hp:0≤p∧p<(D.S:Int))(hz:∀q,0≤q→q<p→D.clause c q=true)(hf:D.clause c p=false):D.broken=(c,p):=by
 have hz:fc (D.clause c) 0 p=true:=bP.2 hz
 rw [← mr (c:=c) hc.1 (by omega) h,show(13 - c).toNat=(12 - c).toNat+1 by omega,dI,dz,dU hp.1 hp.2 hf,leastN_eq hz hf hp.1 (by omega)]
 rfl
theorem vF(m:Mem):∀(k:Nat),k≤m.S→∀(p o:Nat),p<k→(m.bL k).pg true p o=0
 | 0,_,p,o,h=>by omega
 | k+1,hk,p,o,h=>by
  show((m.bL k).zero true k).pg true p o=0
  unfold Mem.zero
  rw [if_pos (by unfold Mem.has Mem.cnt;simp;omega)]
  show(if true=true∧p=(k:Int).toNat then 0 else(m.bL k).pg true p o)=0
  by_cases h1:p=k
  ·rw [if_pos (by simp [h1])]
  ·rw [if_neg (by simp;omega)]
   exact vF m k (by omega) p o (by omega)
theorem wx(m:Mem)(p o:Int):(DB.new m).word p o=0:=by
 show(m.bL m.S).iM true p o=0
 unfold Mem.iM
 split
 ·rename_i h
  simp only [Bool.and_eq_true]at h
  refine vF m m.S (Nat.le_refl _) _ _ ?_
  have:=Mem.dH h.1
  have e:(m.bL m.S).cnt true=m.S:=Mem.jc m m.S
  omega
 ·rfl
theorem Iz(m:Mem)(p:Int):(DB.new m).at_ p=Ent.free:=rfl
theorem vE {D:DB} {p lo hi:Int}:D.zero p lo hi=true↔∀o,lo≤o→o<hi→D.word p o=0:=by
 unfold zero
 rw [bP]
 exact⟨fun h o a b=>by simpa using h o a b,fun h o a b=>by simpa using h o a b⟩
theorem zE(m:Mem)(c p:Int)(hc:1≤c∧c≤12):(DB.new m).clause c p=true:=by
 unfold clause
 simp only [Iz]
 split;rfl
 split
 ·rw [vE.2 fun o _ _=>wx m p o];rfl
 split;rfl
 split;rfl
 split;rfl
 split;rfl
 split;rfl
 split;rfl
 split;rfl
 split;rfl
 split;rfl
 rfl
theorem uW(n i:Int):(DB.begun n i).broken=(0,0):=CL fun c a b=>bP.2 fun p _ _=>zE _ c p ⟨a,b⟩
theorem uN:((DB.begun 2 0).wr 1 5 9).broken=(2,1):=by
 have hS:((DB.begun 2 0).wr 1 5 9).S=3:=by
  refine(Mem.jy ..).trans ?_
  exact(DB.qm _).trans (show(sz 2).toNat=3 by decide)
 have h0:(DB.begun 2 0).has 1=true:=by unfold has;rw [show(DB.begun 2 0).S=3 from(DB.qm _).trans (show(sz 2).toNat=3 by decide)];rfl
 have ha:∀p,((DB.begun 2 0).wr 1 5 9).at_ p=Ent.free:=fun p=>rfl
 have h00:((DB.begun 2 0).wr 1 5 9).zero 0 0 1024=true:=vE.2 fun o _ _=>by rw [Ba,if_neg (fun h=>by have:=h.1.1;omega)];exact wx _ _ _
 have h10:((DB.begun 2 0).wr 1 5 9).zero 1 0 1024=false:=dU (x:=5) (by omega) (by omega) (by rw [Ba,if_pos ⟨⟨rfl,rfl⟩,h0,rfl⟩];rfl)
 refine CM ⟨by omega,by omega⟩ (fun c a b=>?_) (by rw [hS];omega) (fun q a b=>?_) ?_
 ·obtain rfl:c=1:=by omega
  exact bP.2 fun p _ _=>by rw [xn,ha];rfl
 ·obtain rfl:q=0:=by omega
  rw [qI,ha,h00,Bool.or_true]
 ·rw [qI,ha,h10];rfl
end DB
end Go.Proofs.YtbjlecpmgocoeaaGreatDoor
end
section
set_option maxRecDepth 100000
set_option maxHeartbeats 1000000
namespace Go.Proofs.YtbjlecpmgocoeaaGreatDoor
open Go Go.RowKit V
open Go.IntKind (i64 u32 u64)
open Go.Proofs (Tryz.prog)
def nJ:Ctr Un:=⟨[.one (.any)],[(0,8)],[.ob 8 []],[],fun pv r s K=>Value.pointer (some (Addr.mk (LSt.pD s) 0 none))=pv∧∀(rN:Nat→Nat)(rM:Nat→Nat),K ⟨(.pointer (some (Addr.mk (rN 0) 0 none))),(some (.p (.obj 1 0 0))),[],[(.ob 1 rN s.D.pd),(.ob 0 rM s.D.mem)],[(.l 1 1,.p (.obj 2 0 0))]⟩⟩
theorem D2:LV Un Tryz.prog 15 nJ:=by
 show ∀(pv:Value)(r:Nat→Nat)(s:LSt),∀Q:Ou Un→Prop,(Value.pointer (some (Addr.mk (LSt.pD s) 0 none))=pv∧∀(rN:Nat→Nat)(rM:Nat→Nat),Q ⟨(.pointer (some (Addr.mk (rN 0) 0 none))),(some (.p (.obj 1 0 0))),[],[(.ob 1 rN s.D.pd),(.ob 0 rM s.D.mem)],[(.l 1 1,.p (.obj 2 0 0))]⟩)→∀(X:Nat→Nat→Prop)(w:World),Sat (U:=Un) [(.ob 8 r s)] X w→aD (U:=Un) [(.ob 8 r s)] fr0 []→Calls Tryz.prog 15 #[pv] w (aP (U:=Un) [(.ob 8 r s)] [] X w Q)
 intro pv r s Q hQ X w hs hl
 obtain⟨hpv,hQ⟩:=hQ
 subst hpv
 obtain⟨r1,rm,X1,hs1,hl1,e1,e2,hsub,hcl⟩:=lZ hs
 obtain⟨a,L,hg,hr,hD,hX0,hX1⟩:=qb hs1 hl1 rfl
 rw [e1]
 refine(IW hD).mono ?_
 rintro e w' ⟨u,rfl,L2,rfl,hD2,hz,q⟩
 have hpd:PdP w' L2.g L2.a L2.M.g s.D.pd:=hD2.pd
 exact aP.two (Z1:=fun k=>k=L2.g∨k=L2.a) (Z2:=L2.M.X) (k:=some (.p (.obj 1 0 0))) (kc:= [(.l 1 1,.p (.obj 2 0 0))]) hs q
  (show RS (U:=Un) _ w' (.ob 1 (fun i=>if i=0 then L2.g else L2.M.g) s.D.pd)from(⟨L2.a,fun k=>Iff.rfl,hpd⟩:bn 1 (fun i=>if i=0 then L2.g else L2.M.g) s.D.pd (fun k=>k=L2.g∨k=L2.a) w'))
  (show RS (U:=Un) _ w' (.ob 0 (fun _=>L2.M.g) s.D.mem)from(⟨L2.M,rfl,fun _=>Iff.rfl,hD2.mem⟩:bn 0 (fun _=>L2.M.g) s.D.mem L2.M.X w'))
  (fun k hk=>hz k (hk.imp id .inl)) (fun k hk=>hz k (.inr (.inr hk))) (fun k h1 h2=>by rcases h1 with rfl | rfl;exact hD2.dis.2.1 h2;exact hD2.dis.2.2 h2) (hQ (fun i=>if i=0 then L2.g else L2.M.g) (fun _=>L2.M.g)) rfl (kZ ⟨_,_,_,rfl,rfl⟩)
def hH:Ctr Un:=⟨[.one (.obj 0 0),.one (.int .i64)],[],[.ob 8 []],[],fun p r s K=>K ⟨(.bool (s.D.zero p 0 1024)),none,[],[],[]⟩⟩
def AR(p:Int)(r:Nat→Nat)(s:LSt)(Q:Ou Un→Prop):Prop:=
 LSt.Ok s→
 ∀o:Int,o=0→
 ∃I:Nat→Int→Prop,(∃m,I m o)∧∀(m:Nat)(_gv:Nat→Value)(o1:Int),I m o1→
 split (decide (o1<1024)) (
  Value.pointer (some (Addr.mk (LSt.pM s) 0 none))=(.pointer (some (Addr.mk (LSt.pM s) 0 none)))∧
  split ((s.D.mem.iM true p o1) !=0) (
   Q ⟨(.bool false),none,[],[],[]⟩) (
   ∀o2:Int,o2=(i64.wrap (o1+1))→
   ∃m1,m1<m∧I m1 o2)) (
  Q ⟨(.bool true),none,[],[],[]⟩)
theorem AS:Vc2 Un Tryz.prog (bd [(24,ef),(98,rI)]) [5] Tryz.f50 (.r' (.two (.r' (.two (.node [] (some ⟨[(5,(.one (.int .i64)))],[],upN 4 15,[]⟩) [] [] (.r' (.two (.two (.two (.node [] none [] [(3,[0])] .leaf .leaf) .leaf) .leaf) .leaf)) .leaf) .leaf)) .leaf)) [] hH=(∀p r (s:LSt),∀Q,(hH.body p r s Q)→AR p r s Q):=by kernel_rfl
section
attribute [local grind=] DB.zero DB.word
theorem AQ:LV Un Tryz.prog 50 hH:=verify Tryz.func50 aa (tb:= [(24,ef),(98,rI)]) ⟨oz,Ga,trivial⟩ (by kernel_rfl) (AS.mpr fun p r s Q h=>fun f1=>allEq<| ⟨fun m o1=>(m=(1024 - o1).toNat)∧(0≤o1∧o1≤1024)∧(fc (fun x=>s.D.word p x==0) 0 o1=true),⟨_,rfl,(by omega),(gU (Int.le_refl _))⟩,fun m _ o1 ⟨hm,hi,hz⟩=>ax (fun c1=>ao (by rfl) fun s2=>bo (fun c2=>aX h (by rw [DB.zero,dU hi.1 c1 (by grind)])) fun c2=>allEq<| ⟨_,(by(have h9:=ai (x:=o1+1) (by omega));omega),rfl,(by(have h9:=ai (x:=o1+1) (by omega));omega),(eh hz (by grind) (ai (by omega)))⟩) fun c1=>aX h (by rw [DB.zero,← hz,show o1=1024 by omega])⟩)
end
def DB.plain(D:DB)(c p:Int):Bool:=
 if c=1 then(D.entry p).typ !=1 || (D.entry p).owner==p
 else if c=2 then(D.entry p).typ !=0 || D.zero p 0 1024
 else if c=3 then(D.entry p).typ==0 || ((D.entry p).typ==1 || (D.cQ (D.entry p).owner==0 && (D.entry (D.entry p).owner).typ==1))
 else if c=4 then(D.entry p).typ !=1 || (D.entry p).refs==((own D p).length:Int)
 else if c=12 then(D.entry p).typ !=6 || D.zero p 0 1024
 else true
def g8:Ctr Un:=⟨[.one (.obj 0 0),.one (.int .i64),.one (.int .i64)],[],[.ob 8 []],[],fun clause p r s K=>K ⟨(.bool (s.D.plain clause p)),none,[],[],[]⟩⟩
def AK(clause:Int)(p:Int)(r:Nat→Nat)(s:LSt)(Q:Ou Un→Prop):Prop:=
 LSt.Ok s→
 Value.pointer (some (Addr.mk (LSt.pD s) 0 none))=(.pointer (some (Addr.mk (LSt.pD s) 0 none)))∧
 ∀(gv:Nat),
 (Value.pointer (some (Addr.mk (LSt.pD s) 0 none))=(.pointer (some (Addr.mk (LSt.pD s) 0 none)))∧
  ∀(gv1:Nat),
  ∀x31:Bool,x31=((clause:Int)==1)→
  split x31 (
   ∃J:Bool→Prop,(
    split ((s.D.entry p).typ !=1) (
     J true) (
     J ((s.D.entry p).owner==p)))∧∀(_gv2:Nat→Value)(x6:Bool),J x6→
   Q ⟨(.bool x6),none,[],[],[]⟩) (
   ∀x42:Bool,x42=((clause:Int)==2)→
   split x42 (
    ∃J:Bool→Prop,(
     split ((s.D.entry p).typ !=0) (
      J true) (
      J (s.D.zero p 0 1024)))∧∀(_gv2:Nat→Value)(x6:Bool),J x6→
    Q ⟨(.bool x6),none,[],[],[]⟩) (
    ∀x52:Bool,x52=((clause:Int)==3)→
    split x52 (
     ∃J:Bool→Prop,(
      split ((s.D.entry p).typ==0) (
       J true) (
       split ((s.D.entry p).typ==1) (
        J true) (
        split ((s.D.cQ ((s.D.entry p).owner))==0) (
         J ((s.D.entry ((s.D.entry p).owner)).typ==1)) (
         J false))))∧∀(_gv2:Nat→Value)(x6:Bool),J x6→
     Q ⟨(.bool x6),none,[],[],[]⟩) (
     ∀x72:Bool,x72=((clause:Int)==4)→
     split x72 (
      ∃J:Bool→Prop,(
       split ((s.D.entry p).typ !=1) (
        J true) (
        Value.pointer (some (Addr.mk (LSt.pD s) 0 none))=(.pointer (some (Addr.mk (LSt.pD s) 0 none)))∧
        ∀(A:Option Addr)(c:Nat),
        ∀(l:List I64),l=(own s.D p)→
        J ((s.D.entry p).refs==((((own s.D p)).length):Int))))∧∀(_gv2:Nat→Value)(x6:Bool),J x6→
      Q ⟨(.bool x6),none,[],[],[]⟩) (
      ∀x89:Bool,x89=((clause:Int)==12)→
      split x89 (
       ∃J:Bool→Prop,(
        split ((s.D.entry p).typ !=6) (
         J true) (
         J (s.D.zero p 0 1024)))∧∀(_gv2:Nat→Value)(x6:Bool),J x6→
       Q ⟨(.bool x6),none,[],[],[]⟩) (
       Q ⟨(.bool true),none,[],[],[]⟩))))))∧
 (∀(gv1:Nat),
  Value.pointer (some (Addr.mk (LSt.pD s) 0 none))=(.pointer (some (Addr.mk (LSt.pD s) 0 none)))∧
  ∀x31:Bool,x31=((clause:Int)==1)→
  split x31 (
   ∃J:Bool→Prop,(
    split ((s.D.entry p).typ !=1) (
     J true) (
     J ((s.D.entry p).owner==p)))∧∀(_gv2:Nat→Value)(x6:Bool),J x6→
   Q ⟨(.bool x6),none,[],[],[]⟩) (
   ∀x42:Bool,x42=((clause:Int)==2)→
   split x42 (
    ∃J:Bool→Prop,(
     split ((s.D.entry p).typ !=0) (
      J true) (
      J (s.D.zero p 0 1024)))∧∀(_gv2:Nat→Value)(x6:Bool),J x6→
    Q ⟨(.bool x6),none,[],[],[]⟩) (
    ∀x52:Bool,x52=((clause:Int)==3)→
    split x52 (
     ∃J:Bool→Prop,(
      split ((s.D.entry p).typ==0) (
       J true) (
       split ((s.D.entry p).typ==1) (
        J true) (
        split ((s.D.cQ ((s.D.entry p).owner))==0) (
         J ((s.D.entry ((s.D.entry p).owner)).typ==1)) (
         J false))))∧∀(_gv2:Nat→Value)(x6:Bool),J x6→
     Q ⟨(.bool x6),none,[],[],[]⟩) (
     ∀x72:Bool,x72=((clause:Int)==4)→
     split x72 (
      ∃J:Bool→Prop,(
       split ((s.D.entry p).typ !=1) (
        J true) (
        Value.pointer (some (Addr.mk (LSt.pD s) 0 none))=(.pointer (some (Addr.mk (LSt.pD s) 0 none)))∧
        ∀(A:Option Addr)(c:Nat),
        ∀(l:List I64),l=(own s.D p)→
        J ((s.D.entry p).refs==((((own s.D p)).length):Int))))∧∀(_gv2:Nat→Value)(x6:Bool),J x6→
      Q ⟨(.bool x6),none,[],[],[]⟩) (
      ∀x89:Bool,x89=((clause:Int)==12)→
      split x89 (
       ∃J:Bool→Prop,(
        split ((s.D.entry p).typ !=6) (
         J true) (
         J (s.D.zero p 0 1024)))∧∀(_gv2:Nat→Value)(x6:Bool),J x6→
       Q ⟨(.bool x6),none,[],[],[]⟩) (
       Q ⟨(.bool true),none,[],[],[]⟩))))))
theorem AL:Vc2 Un Tryz.prog (bd [(49,nH),(50,hH),(26,di),(51,nF)]) [31,42,52,72,89] Tryz.f19 (.r' (.r' (.two (.node [] none [] [(3,[0]),(5,[1])] .leaf .leaf) (.two (.r' (.two (.r' (.two (.two (.node [] (some ⟨[(6,(.one .bool))],[],[6]++upN 33 9,[]⟩) [] [] .leaf .leaf) .leaf) (.r' (.two (.two (.node [] (some ⟨[(6,(.one .bool))],[],[6]++upN 44 8,[]⟩) [] [] .leaf .leaf) .leaf) (.r' (.two (.two (.node [] (some ⟨[(6,(.one .bool))],[],[6]++upN 54 18,[]⟩) [] [] .leaf .leaf) .leaf) (.r' (.two (.two (.node [] (some ⟨[(6,(.one .bool))],[],[6]++upN 74 15,[]⟩) [] [(1,[1]),(5,[1]),(9,[0])] .leaf .leaf) .leaf) (.r' (.two (.two (.node [] (some ⟨[(6,(.one .bool))],[],[6]++upN 91 8,[]⟩) [] [] .leaf .leaf) .leaf) .leaf)))))))))) .leaf)) .leaf)))) [] g8=(∀clause p r (s:LSt),∀Q,(g8.body clause p r s Q)→AK clause p r s Q):=by kernel_rfl
section
attribute [local grind=] DB.plain
theorem AJ:LV Un Tryz.prog 19 g8:=verify Tryz.func19 aa (tb:= [(49,nH),(50,hH),(26,di),(51,nF)]) ⟨D0,AQ,j6,DW,trivial⟩ (by kernel_rfl) (AL.mpr fun clause p r s Q h=>fun f1=>ao (by rfl) fun s2=>fun gv=>⟨ao (by rfl) fun s3=>fun gv1=>allEq<| aE (fun c1=>bw ((((s.D.entry p).typ:Int) !=1) || (((s.D.entry p).owner:Int)==p)) (ae (fun c2=>(by grind)) fun c2=>(by grind))<| aX h (by grind)) fun c1=>allEq<| aE (fun c3=>bw ((((s.D.entry p).typ:Int) !=0) || (s.D.zero p 0 1024)) (ae (fun c4=>(by grind)) fun c4=>(by grind))<| aX h (by grind)) fun c3=>allEq<| aE (fun c5=>bw ((((s.D.entry p).typ:Int)==0) || ((((s.D.entry p).typ:Int)==1) || ((((s.D.cQ ((s.D.entry p).owner)):Int)==0) && (((s.D.entry ((s.D.entry p).owner)).typ:Int)==1)))) (ae (fun c6=>(by grind)) fun c6=>ae (fun c7=>(by grind)) fun c7=>ae (fun c8=>(by grind)) fun c8=>(by grind))<| aX h (by grind)) fun c5=>allEq<| aE (fun c9=>bw ((((s.D.entry p).typ:Int) !=1) || (((s.D.entry p).refs:Int)==(((((own s.D p)).length):Nat):Int))) (ae (fun c10=>(by grind)) fun c10=>ao (by rfl) fun s4=>fun A c=>fun l h_l=>(by grind))<| aX h (by grind)) fun c9=>allEq<| aE (fun c11=>bw ((((s.D.entry p).typ:Int) !=6) || (s.D.zero p 0 1024)) (ae (fun c12=>(by grind)) fun c12=>(by grind))<| aX h (by grind)) fun c11=>aX h (by grind),fun gv1=>ao (by rfl) fun s5=>allEq<| aE (fun c13=>bw ((((s.D.entry p).typ:Int) !=1) || (((s.D.entry p).owner:Int)==p)) (ae (fun c14=>(by grind)) fun c14=>(by grind))<| aX h (by grind)) fun c13=>allEq<| aE (fun c15=>bw ((((s.D.entry p).typ:Int) !=0) || (s.D.zero p 0 1024)) (ae (fun c16=>(by grind)) fun c16=>(by grind))<| aX h (by grind)) fun c15=>allEq<| aE (fun c17=>bw ((((s.D.entry p).typ:Int)==0) || ((((s.D.entry p).typ:Int)==1) || ((((s.D.cQ ((s.D.entry p).owner)):Int)==0) && (((s.D.entry ((s.D.entry p).owner)).typ:Int)==1)))) (ae (fun c18=>(by grind)) fun c18=>ae (fun c19=>(by grind)) fun c19=>ae (fun c20=>(by grind)) fun c20=>(by grind))<| aX h (by grind)) fun c17=>allEq<| aE (fun c21=>bw ((((s.D.entry p).typ:Int) !=1) || (((s.D.entry p).refs:Int)==(((((own s.D p)).length):Nat):Int))) (ae (fun c22=>(by grind)) fun c22=>ao (by rfl) fun s6=>fun A c=>fun l h_l=>(by grind))<| aX h (by grind)) fun c21=>allEq<| aE (fun c23=>bw ((((s.D.entry p).typ:Int) !=6) || (s.D.zero p 0 1024)) (ae (fun c24=>(by grind)) fun c24=>(by grind))<| aX h (by grind)) fun c23=>aX h (by grind)⟩)
end
theorem Mem.Cc(m:Mem):m.same m=true:=by
 rw [Mem.same,Bool.and_eq_true]
 exact⟨jt.2 ⟨rfl,fun _ _ _ _=>rfl⟩,jt.2 ⟨rfl,fun _ _ _ _=>rfl⟩⟩
def fX:Ctr Un:=⟨[.one (.ptr 0),.one (.obj 5 0)],[],[.blk [.obj 2 0,.obj 1 0,.obj 3 0] 34,.ob 1 [(1,2,0)],.ob 0 [],.ob 3 [(1,4,0)],.ob 2 [],.ob 1 [(1,6,0)],.ob 0 []],[],fun g r E rm m r2 F rm2 m2 r5 E5 rm6 m6 K=>E=E5∧m=m6∧E.n=m.S∧K ⟨(.bool true),none,[],[],[]⟩⟩
def oR(g:Nat)(r:Nat→Nat)(E:Pd)(rm:Nat→Nat)(m:Mem)(r2:Nat→Nat)(F:Pd)(rm2:Nat→Nat)(m2:Mem)(r5:Nat→Nat)(E5:Pd)(rm6:Nat→Nat)(m6:Mem)(Q:Ou Un→Prop):Prop:=
 Pd.Ok E→
 Mem.Wf m→
 Pd.Ok F→
 Mem.Wf m2→
 Pd.Ok E5→
 Mem.Wf m6→
 E.n=m.S∧
 ∀(A:Option Addr)(c:Nat),
 ∀(l:List U32),l=(E.on m).words.map U32.mk→
 E5.n=m6.S∧
 ∀(A1:Option Addr)(c1:Nat),
 ∀(l1:List U32),l1=(E5.on m6).words.map U32.mk→
 ∃J:Bool→Prop,(
  split (((((E.on m).words.map U32.mk).length):Int) !=((((E5.on m6).words.map U32.mk).length):Int)) (
   J true) (
   J (!(m.same m6))))∧∀(_gv:Nat→Value)(x29:Bool),J x29→
 split x29 (
  Q ⟨(.bool false),none,[],[],[]⟩) (
  ∀i:Int,i=0→
  ∃I:Nat→Int→Prop,(∃m1,I m1 i)∧∀(m1:Nat)(_gv1:Nat→Value)(i1:Int),I m1 i1→
  split (decide (i1<((((E.on m).words.map U32.mk).length):Int))) (
   (0≤i1∧i1<(l.length:Int))∧
   (0≤i1∧i1<(l1.length:Int))∧
   split ((l.getD i1.toNat (U32.mk 0)).v !=((l1.getD i1.toNat (U32.mk 0)).v)) (
    Q ⟨(.bool false),none,[],[],[]⟩) (
    ∀i2:Int,i2=(i64.wrap (i1+1))→
    ∃m3,m3<m1∧I m3 i2)) (
   Q ⟨(.bool true),none,[],[],[]⟩))
theorem oS:Vc2 Un Tryz.prog (bd [(52,ka),(54,ek),(53,vn)]) [7] Tryz.f20 (.r' (.r' (.r' (.two (.two (.node [] (some ⟨[(29,(.one .bool))],[],upN 15 15,[]⟩) [] [(9,[0])] .leaf .leaf) .leaf) (.two (.r' (.two (.node [] (some ⟨[(7,(.one (.int .i64)))],[],[4,7]++upN 30 15,[]⟩) [] [] .leaf .leaf) .leaf)) .leaf))))) [] fX=(∀g r (E:Pd) rm (m:Mem) r2 (F:Pd) rm2 (m2:Mem) r5 (E5:Pd) rm6 (m6:Mem),∀Q,(fX.body g r E rm m r2 F rm2 m2 r5 E5 rm6 m6 Q)→oR g r E rm m r2 F rm2 m2 r5 E5 rm6 m6 Q):=by kernel_rfl
theorem oQ:LV Un Tryz.prog 20 fX:=verify Tryz.func20 aa (tb:= [(52,ka),(54,ek),(53,vn)]) ⟨yQ,nG,HB,trivial⟩ (by kernel_rfl) (oS.mpr fun g r E rm m r2 F rm2 m2 r5 E5 rm6 m6 Q h=>by
 obtain⟨rfl,rfl,hn,_⟩:=id h
 have hS:=Pd.oF E m hn
 obtain⟨hp0,hp1,hp2,h⟩:=h
 exact fun f1 f2 f3 f4 f5 f6=>ao (hn) fun s7=>fun A c=>fun l h_l=>ao (hn) fun s8=>fun A1 c1=>fun l1 h_l1=>bw ((((((((E.on m).words.map U32.mk).length):Nat):Int):Int) !=(((((E.on m).words.map U32.mk).length):Nat):Int)) || (!(m.same m))) (ae (fun c1=>(by grind)) fun c1=>(by grind))<| aS (fun c2=>aX h (by exfalso;simp [Mem.Cc]at c2)) fun c2=>allEq<| ⟨fun m1 i1=>(m1=(((E.on m).words.map U32.mk).length - i1).toNat)∧(0≤i1),⟨_,rfl,(by omega)⟩,fun m1 _ i1 ⟨hm,hi⟩=>ax (fun c3=>ao (by rw [h_l];simp at c3 ⊢;exact⟨hi,c3⟩) fun s9=>ao (by rw [h_l1];simp at c3 ⊢;exact⟨hi,c3⟩) fun s10=>bo (fun c4=>aX h (by exfalso;apply c4;rw [h_l,h_l1])) fun c4=>allEq<| ⟨_,(by(have h9:=ai (x:=i1+1) (by have h1:=(E.on m).eL;have h2:=(show Pd.Ok E by assumption).cH;have h3:=hS;simp at c3;omega));omega),rfl,(by(have h9:=ai (x:=i1+1) (by have h1:=(E.on m).eL;have h2:=(show Pd.Ok E by assumption).cH;have h3:=hS;simp at c3;omega));omega)⟩) fun c3=>aX h (by grind)⟩)
def g7:Ctr Un:=⟨[.one (.obj 0 0),.one (.obj 1 0)],[],[.ob 8 [],.ob 1 [(1,2,0)],.ob 0 []],[],fun r s r5 E5 rm6 m6 K=>s.D.pd=E5∧s.D.mem=m6∧K ⟨(.bool true),none,[],[],[]⟩⟩
theorem rJ:LV Un Tryz.prog 20 g7:=by
 show ∀(r:Nat→Nat)(s:LSt)(r5:Nat→Nat)(E5:Pd)(rm6:Nat→Nat)(m6:Mem),∀Q:Ou Un→Prop,(s.D.pd=E5∧s.D.mem=m6∧Q ⟨(.bool true),none,[],[],[]⟩)→∀(X:Nat→Nat→Prop)(w:World),Sat (U:=Un) [(.ob 8 r s),(.ob 1 r5 E5),(.ob 0 rm6 m6)] X w→aD (U:=Un) [(.ob 8 r s),(.ob 1 r5 E5),(.ob 0 rm6 m6)] fr0 [(.l 1 1,.p (.obj 2 0 0))]→Calls Tryz.prog 20 #[(.pointer (some (Addr.mk (r 0) 0 none))),(.pointer (some (Addr.mk (r5 0) 0 none)))] w (aP (U:=Un) [(.ob 8 r s),(.ob 1 r5 E5),(.ob 0 rm6 m6)] [] X w Q)
 intro r s r5 E5 rm6 m6 Q hQ X w hs hl
 obtain⟨hE,hm,hQ⟩:=hQ
 obtain⟨r1,rm,r2,rm2,Y,hY,⟨l1,l2⟩,hcl⟩:=Bf hs
 have l3:some (Value.pointer (some ⟨rm6 0,0,none⟩))=some (.pointer (some ⟨r5 1,0,none⟩)):=by
  obtain⟨t,q,s',h1,h2⟩:=hl (.l 1 1) (.p (.obj 2 0 0)) (by simp)
  have h1:some (Res.ob (U:=Un) 1 r5 E5)=some (.ob t q s'):=h1
  cases h1
  exact h2
 have hl1:aD (aux (r 0) r1 s.D.pd rm s.D.mem r2 s.R.pd rm2 s.R.mem++ [.ob 1 r5 E5,.ob 0 rm6 m6]) fr0 [(.l 1 1,.p (.obj 2 0 0)),(.l 3 1,.p (.obj 4 0 0)),(.l 5 1,.p (.obj 6 0 0))]:=fun key k hm=>by
  simp only [List.mem_cons,Prod.mk.injEq,List.not_mem_nil,or_false]at hm
  rcases hm with⟨rfl,rfl⟩ | ⟨rfl,rfl⟩ | ⟨rfl,rfl⟩
  ·exact⟨_,_,_,rfl,show some (Value.pointer (some ⟨rm 0,0,none⟩))=some (.pointer (some ⟨r1 1,0,none⟩))by rw [l1]⟩
  ·exact⟨_,_,_,rfl,show some (Value.pointer (some ⟨rm2 0,0,none⟩))=some (.pointer (some ⟨r2 1,0,none⟩))by rw [l2]⟩
  ·exact⟨_,_,_,rfl,l3⟩
 refine(oQ (r 0) r1 s.D.pd rm s.D.mem r2 s.R.pd rm2 s.R.mem r5 E5 rm6 m6 (fun o=>o=_) ⟨hE,hm,rfl,rfl⟩ Y w hY hl1).mono ?_
 rintro e w' ⟨out,rs',X',rfl,rfl,happ,hp⟩
 exact aP.pu hs (ml hp.ch) hQ trivial
end Go.Proofs.YtbjlecpmgocoeaaGreatDoor
end
section
namespace Go.Proofs.YtbjlecpmgocoeaaGreatDoor
open Go Go.RowKit V
open Go.IntKind (i64 u32 u64)
namespace DB
theorem plain_eq {D:DB} {k q:Int}(hk:k=1∨k=2∨k=3∨k=4∨k=12)(hq:0≤q∧q<(D.S:Int)):D.plain k q=D.clause k q:=by
 have hh:D.has q=true:=by simp [has,hq]
 have e1:D.entry q=D.at_ q:=by simp [entry,hh]
 rcases hk with rfl | rfl | rfl | rfl | rfl
 ·simp [plain,clause,e1]
 ·simp [plain,clause,e1]
 ·have e2:(D.cQ (D.at_ q).owner==0 && (D.entry (D.at_ q).owner).typ==1)=D.is (D.at_ q).owner 1:=by
   cases ho:D.has (D.at_ q).owner<;>simp [cQ,entry,DB.is,ho]
  simp only [plain,clause,e1,e2]
  try simp only [show ¬((3:Int)=1)by decide,show ¬((3:Int)=2)by decide,if_false,if_true]
  cases (D.at_ q).typ==0<;>cases (D.at_ q).typ==1<;>simp
 ·simp only [plain,clause,e1,own]
  try simp only [show ¬((4:Int)=1)by decide,show ¬((4:Int)=2)by decide,show ¬((4:Int)=3)by decide,if_false,if_true]
  by_cases ht:(D.at_ q).typ=1
  ·rw [if_pos (by simp [cW,hh,ht])]
  ·rw [show((D.at_ q).typ !=1)=true from by rw [bne_iff_ne];exact ht,Bool.true_or,Bool.true_or]
 ·simp [plain,clause,e1]
theorem wi {D:DB} {k q:Int}(hk:¬(k=1∨k=2∨k=3∨k=4∨k=12)):D.plain k q=true:=by
 unfold plain
 rw [if_neg (fun e=>hk (by simp [e])),if_neg (fun e=>hk (by simp [e])),if_neg (fun e=>hk (by simp [e])),if_neg (fun e=>hk (by simp [e])),if_neg (fun e=>hk (by simp [e]))]
theorem lV {D:DB} {k q:Int}(hq:0≤q∧q<(D.S:Int))(h:D.plain k q=false):D.clause k q=false:=by
 by_cases hk:k=1∨k=2∨k=3∨k=4∨k=12
 ·rw [← plain_eq hk hq];exact h
 ·rw [wi hk]at h;cases h
theorem qP {f:Int→Bool}:∀ {n:Nat},fc f 0 n=false→∃x:Int,0≤x∧x<(n:Int)∧f x=false∧fc f 0 x=true
 | 0,h=>by simp [fc]at h
 | n+1,h=>by
  by_cases h2:fc f 0 n=true
  ·refine⟨n,by omega,by omega,?_,h2⟩
   cases hf:f n with
   | false=>rfl
   | true=>
    have:fc f 0 ((n+1:Nat):Int)=true:=bP.2 fun x ha hb=>by
     by_cases hx:x=n
     ·rw [hx];exact hf
     ·exact bP.1 h2 x ha (by omega)
    rw [this]at h;cases h
  ·obtain⟨x,a,b,c,d⟩:=qP (n:=n) (by simpa using h2)
   exact⟨x,a,by omega,c,d⟩
structure Told(D:DB)(c p:Int):Prop where
 c12:0≤c∧c≤12
 pS:0≤p∧(c≠0→p<(D.S:Int))
 zero:c=0→p=0
 low:∀k,1≤k→k≤12→(c=0∨k<c)→D.dz k=true
 bad:c≠0→D.dz c=false∧D.clause c p=false∧∀q,0≤q→q<p→D.clause c q=true
theorem mq(D:DB):∀(n:Nat)(c:Int),1≤c→c+n=13→(D.dI n c=(0,0)∧∀k,c≤k→k≤12→D.dz k=true)∨∃c' p,D.dI n c=(c',p)∧c≤c'∧c'≤12∧(0≤p∧p<(D.S:Int))∧(∀k,c≤k→k<c'→D.dz k=true)∧D.dz c'=false∧D.clause c' p=false∧∀q,0≤q→q<p→D.clause c' q=true
 | 0,c,h1,h2=>.inl ⟨rfl,fun k a b=>by omega⟩
 | n+1,c,h1,h2=>by
  rw [dI]
  cases hc:D.dz c with
  | true=>
   rw [if_pos rfl]
   rcases mq D n (c+1) (by omega) (by omega)with⟨e,h⟩ | ⟨c',p,e,a,b,hp,hl,hb⟩
   ·exact .inl ⟨e,fun k x y=>by
     by_cases hk:k=c
     ·rw [hk];exact hc
     ·exact h k (by omega) y⟩
   ·exact .inr ⟨c',p,e,by omega,b,hp,fun k x y=>by
     by_cases hk:k=c
     ·rw [hk];exact hc
     ·exact hl k (by omega) y,hb⟩
  | false=>
   rw [if_neg (by simp)]
   obtain⟨x,a,b,hf,hall⟩:=qP (f:=D.clause c) (n:=D.S) hc
   rw [leastN_eq hall hf a (by omega)]
   exact .inr ⟨c,x,rfl,Int.le_refl _,by omega,⟨a,b⟩,fun k h3 h4=>by omega,hc,hf,fun q h3 h4=>bP.1 hall q h3 h4⟩
theorem xr(D:DB):Told D D.broken.1 D.broken.2:=by
 rcases mq D 12 1 (by omega) (by omega)with⟨e,h⟩ | ⟨c',p,e,a,b,hp,hl,hb⟩
 ·have e:D.broken=(0,0):=e
  rw [e]
  exact⟨by omega,by omega,fun _=>rfl,fun k h1 h2 _=>h k h1 h2,fun h=>absurd rfl h⟩
 ·have e:D.broken=(c',p):=e
  rw [e]
  exact⟨by show 0≤c'∧c'≤12;omega,⟨hp.1,fun _=>hp.2⟩,fun h=>by have h:c'=0:=h;omega,fun k h1 h2 h3=>hl k h1 (by have h3:c'=0∨k<c':=h3;omega),fun _=>hb⟩
theorem qv {D:DB} {k:Int}(h:1≤k∧k≤12):D.holds k=D.dz k:=by simp [holds,h]
theorem Cx {D:DB} {k q:Int}(h:1≤k∧k≤12)(hq:0≤q∧q<(D.S:Int))(hp:D.plain k q=false):D.holds k=false:=by
 rw [qv h,dz]
 cases he:fc (D.clause k) 0 D.S with
 | false=>rfl
 | true=>
  have:=bP.1 he q hq.1 hq.2
  rw [lV hq hp]at this
  cases this
end DB
end Go.Proofs.YtbjlecpmgocoeaaGreatDoor
end
section
set_option maxRecDepth 100000
set_option maxHeartbeats 1000000
namespace Go.Proofs.YtbjlecpmgocoeaaGreatDoor
open Go Go.RowKit V
open Go.IntKind (i64 u32 u64)
open Go.Proofs (Tryz.prog)
def g9:Ctr Un:=⟨[],[],[],[],fun K=>K ⟨(.bool true),none,[],[],[]⟩⟩
def AN(Q:Ou Un→Prop):Prop:=
 ∀(r:Nat→Nat)(s1:LSt),
 ((s1.R=s1.D∧s1.D=DB.begun 2 0))→
 ∀(s:LSt),s=s1→
 LSt.Ok s→
 Value.pointer (some (Addr.mk (LSt.pD s) 0 none))=(.pointer (some (Addr.mk (LSt.pD s) 0 none)))∧
 s.R=s.D∧
 (0≤(9:Int)∧(9:Int)<4294967296)∧
 ∀(s11:LSt),
 ((s11.R=s11.D∧s11.D=s.D.wr 1 5 9))→
 ∀(s2:LSt),s2=s11→
 LSt.Ok s2→
 Value.pointer (some (Addr.mk (LSt.pD s2) 0 none))=(.pointer (some (Addr.mk (LSt.pD s2) 0 none)))∧
 ∃J:Bool→Prop,(
  split (s.D.broken.1==0) (
   split (s2.D.broken.1==2) (
    J (s2.D.broken.2==1)) (
    J false)) (
   J false))∧∀(_gv:Nat→Value)(x0:Bool),J x0→
 Q ⟨(.bool x0),none,[],[],[]⟩
theorem AO:Vc2 Un Tryz.prog (bd [(9,ia),(7,gV),(8,lB)]) [] Tryz.f10 (.r' (.r' (.r' (.r' (.r' (.r' (.two (.node [] (some ⟨[(0,(.one .bool))],[],[0]++upN 27 10,[]⟩) [] [] .leaf .leaf) .leaf))))))) [] g9=(∀Q,(g9.body Q)→AN Q):=by kernel_rfl
theorem AM:LV Un Tryz.prog 10 g9:=verify Tryz.func10 aa (tb:= [(9,ia),(7,gV),(8,lB)]) ⟨rK,qY,AI,trivial⟩ (by kernel_rfl) (AO.mpr fun Q h=>fun r s1 f1=>fun s h_s f2=>ao (by grind) fun s3=>ao (by grind) fun s4=>ao (by omega) fun s5=>fun s11 f6=>fun s2 h_s2 f7=>ao (by grind) fun s8=>bw (((s.D.broken.1:Int)==0) && (((s2.D.broken.1:Int)==2) && ((s2.D.broken.2:Int)==1))) (ae (fun c1=>ae (fun c2=>(by grind)) fun c2=>(by grind)) fun c1=>(by grind))<| aX h (by simp [h_s2,f6.2,h_s,f1.2,DB.uW,DB.uN]))
end Go.Proofs.YtbjlecpmgocoeaaGreatDoor
end
section
set_option maxRecDepth 100000
set_option maxHeartbeats 1000000
namespace Go.Proofs.YtbjlecpmgocoeaaGreatDoor
open Go Go.RowKit V
open Go.IntKind (i64 u32 u64)
open Go.Proofs (Tryz.prog)
def jK:Ctr Un:=⟨[.one (.int .i64),.one (.int .i64),.one (.sl 0)],[(1,5),(2,6)],[.lst 5 false 42,.ob 5 [],.ob 6 []],[],fun jF insecure A c l rk kk rk2 kk2 K=>kk2=kk∧((∀x∈l,0≤x.v∧x.v<4294967296))∧l.length≤140737488355328∧K ⟨(.bool true),none,[],[],[]⟩⟩
def oO(jF:Int)(insecure:Int)(A:Option Addr)(c:Nat)(l:List kE)(rk:Nat→Nat)(kk:List Int)(rk2:Nat→Nat)(kk2:List Int)(Q:Ou Un→Prop):Prop:=
 ∀(r:Nat→Nat)(s1:LSt),
 ((s1.R=s1.D∧s1.D=DB.begun jF insecure))→
 ∀(s:LSt),s=s1→
 LSt.Ok s→
 ∃J:Bool→Prop,(
  J false)∧∀(_gv:Nat→Value)(x27:Bool),J x27→
 split x27 (
  Q ⟨(.bool false),none,[],[],[]⟩) (
  ∀i:Int,i=0→
  ∃I:Nat→Int→LSt→Prop,(∃m,I m i s)∧∀(m:Nat)(_gv1:Nat→Value)(i1:Int)(s3:LSt),I m i1 s3→
  LSt.Ok s3→
  split (decide (i1<(l.length:Int))) (
   (0≤i1∧i1<(l.length:Int))∧
   s3.R=s3.D∧
   kk2=kk∧
   (0≤((l.getD i1.toNat (kE.mk 0 0 0 0 0 none 0 0)).v)∧((l.getD i1.toNat (kE.mk 0 0 0 0 0 none 0 0)).v)<4294967296)∧
   ∀(s11:LSt),
   ((s11.R=s11.D∧s11.D=s3.D.act kk ((l.getD i1.toNat (kE.mk 0 0 0 0 0 none 0 0)).k) ((l.getD i1.toNat (kE.mk 0 0 0 0 0 none 0 0)).a) ((l.getD i1.toNat (kE.mk 0 0 0 0 0 none 0 0)).b) ((l.getD i1.toNat (kE.mk 0 0 0 0 0 none 0 0)).c) ((l.getD i1.toNat (kE.mk 0 0 0 0 0 none 0 0)).v)))→
   ∀(s2:LSt),s2=s11→
   LSt.Ok s2→
   ∀i2:Int,i2=(i64.wrap (i1+1))→
   ∃m1,m1<m∧I m1 i2 s2) (
   Value.pointer (some (Addr.mk (LSt.pD s3) 0 none))=(.pointer (some (Addr.mk (LSt.pD s3) 0 none)))∧
   ∀(rN:Nat→Nat)(rM:Nat→Nat),
   ∀(E:Pd),E=s3.D.pd→
   Pd.Ok E→
   ∀(m2:Mem),m2=s3.D.mem→
   Mem.Wf m2→
   Value.pointer (some (Addr.mk (LSt.pM s3) 0 none))=(.pointer (some (Addr.mk (LSt.pM s3) 0 none)))∧
   Value.pointer (some (Addr.mk (LSt.pD s3) 0 none))=(.pointer (some (Addr.mk (LSt.pD s3) 0 none)))∧
   ∀k:Int,k=1→
   ∃I1:Nat→Int→Prop,(∃m3,I1 m3 k)∧∀(m3:Nat)(_gv2:Nat→Value)(k1:Int),I1 m3 k1→
   split (decide (k1≤12)) (
    Value.pointer (some (Addr.mk (LSt.pD s3) 0 none))=(.pointer (some (Addr.mk (LSt.pD s3) 0 none)))∧
    ∃J1:Bool→Prop,(
     split (s3.D.broken.1==0) (
      split (!(true==(s3.D.holds k1))) (
       split (s3.D.broken.1==0) (
        J1 true) (
        J1 (decide (k1≤s3.D.broken.1)))) (
       J1 false)) (
      split (!((decide (k1<s3.D.broken.1))==(s3.D.holds k1))) (
       split (s3.D.broken.1==0) (
        J1 true) (
        J1 (decide (k1≤s3.D.broken.1)))) (
       J1 false)))∧∀(_gv3:Nat→Value)(x86:Bool),J1 x86→
    split x86 (
     Q ⟨(.bool false),none,[],[],[]⟩) (
     Value.pointer (some (Addr.mk (LSt.pD s3) 0 none))=(.pointer (some (Addr.mk (LSt.pD s3) 0 none)))∧
     ∀q:Int,q=(i64.wrap ((s3.D.S:Int) - 1))→
     ∃I2:Nat→Bool→Int→Prop,(∃m5,I2 m5 true q)∧∀(m5:Nat)(_gv4:Nat→Value)(all:Bool)(q1:Int),I2 m5 all q1→
     split (decide (q1≥0)) (
      split (!(s3.D.plain k1 q1)) (
       ∃J2:Bool→Prop,(
        split (k1==s3.D.broken.1) (
         J2 (decide (q1<s3.D.broken.2))) (
         J2 false))∧∀(_gv5:Nat→Value)(x109:Bool),J2 x109→
       split x109 (
        Q ⟨(.bool false),none,[],[],[]⟩) (
        ∀q2:Int,q2=(i64.wrap (q1 - 1))→
        ∃m6,m6<m5∧I2 m6 false q2)) (
       ∀q2:Int,q2=(i64.wrap (q1 - 1))→
       ∃m6,m6<m5∧I2 m6 all q2)) (
      ∃J2:Bool→Prop,(
       split (!all) (
        J2 (s3.D.holds k1)) (
        J2 false))∧∀(_gv5:Nat→Value)(x114:Bool),J2 x114→
      split x114 (
       Q ⟨(.bool false),none,[],[],[]⟩) (
       ∀k2:Int,k2=(i64.wrap (k1+1))→
       ∃m4,m4<m3∧I1 m4 k2)))) (
    ∃J1:Bool→Prop,(
     split (s3.D.broken.1==0) (
      split (s3.D.broken.2 !=0) (
       J1 true) (
       split (decide (s3.D.broken.1<0)) (
        J1 true) (
        split (decide (s3.D.broken.1>12)) (
         J1 true) (
         split (decide (s3.D.broken.2<0)) (
          J1 true) (
          Value.pointer (some (Addr.mk (LSt.pD s3) 0 none))=(.pointer (some (Addr.mk (LSt.pD s3) 0 none)))∧
          J1 (decide (s3.D.broken.2≥s3.D.S))))))) (
      split (decide (s3.D.broken.1<0)) (
       J1 true) (
       split (decide (s3.D.broken.1>12)) (
        J1 true) (
        split (decide (s3.D.broken.2<0)) (
         J1 true) (
         Value.pointer (some (Addr.mk (LSt.pD s3) 0 none))=(.pointer (some (Addr.mk (LSt.pD s3) 0 none)))∧
         J1 (decide (s3.D.broken.2≥s3.D.S)))))))∧∀(_gv3:Nat→Value)(x141:Bool),J1 x141→
    split x141 (
     Q ⟨(.bool false),none,[],[],[]⟩) (
     ∃J2:Bool→Prop,(
      split (decide (s3.D.broken.1>0)) (
       split (decide (s3.D.broken.1≤4)) (
        J2 (s3.D.plain s3.D.broken.1 s3.D.broken.2)) (
        split (s3.D.broken.1==12) (
         J2 (s3.D.plain s3.D.broken.1 s3.D.broken.2)) (
         J2 false))) (
       J2 false))∧∀(_gv4:Nat→Value)(x157:Bool),J2 x157→
     split x157 (
      Q ⟨(.bool false),none,[],[],[]⟩) (
      Value.pointer (some (Addr.mk (LSt.pD s3) 0 none))=(.pointer (some (Addr.mk (LSt.pD s3) 0 none)))∧
      ∃J3:Bool→Prop,(
       split (s3.D.broken.1==s3.D.broken.1) (
        split (s3.D.broken.2==s3.D.broken.2) (
         Value.pointer (some (Addr.mk (LSt.pM s3) 0 none))=(.pointer (some (Addr.mk (LSt.pM s3) 0 none)))∧
         split (s3.D.mem.fl==s3.D.mem.fl) (
          s3.D.pd=E∧
          s3.D.mem=m2∧
          J3 true) (
          J3 false)) (
         J3 false)) (
        J3 false))∧∀(_gv5:Nat→Value)(x6:Bool),J3 x6→
      Q ⟨(.bool x6),none,[],[],[]⟩)))))
theorem oP:Vc2 Un Tryz.prog (bd [(9,ia),(10,g9),(11,rL),(15,nJ),(16,nw),(7,gV),(17,nm),(18,nE),(19,g8),(20,g7)]) [8,13,16] Tryz.f5 (.r' (.r' (.two (.two (.node [] (some ⟨[(27,(.one .bool))],[],upN 22 6,[]⟩) [] [] .leaf .leaf) .leaf) (.two (.r' (.two (.node [] (some ⟨[(8,(.one (.int .i64)))],[],[6,8]++upN 28 13,[(3,(.ob 8))]⟩) [] [] .leaf .leaf) .leaf)) (.r' (.r' (.r' (.two (.r' (.two (.node [] (some ⟨[(13,(.one (.int .i64)))],[],[6,13,14,15,16]++upN 59 56,[]⟩) [] [] (.r' (.two (.two (.r' (.two (.two (.node [] (some ⟨[(86,(.one .bool))],[],upN 69 18,[]⟩) [] [] .leaf .leaf) .leaf) (.r' (.two (.r' (.two (.node [] (some ⟨[(15,(.one .bool)),(16,(.one (.int .i64)))],[],[6,15,16]++upN 93 17,[]⟩) [] [] (.r' (.two (.two (.r' (.two (.r' (.two (.node [] (some ⟨[(109,(.one .bool))],[],upN 102 8,[]⟩) [] [] .leaf .leaf) .leaf)) .leaf)) .leaf) .leaf)) .leaf) .leaf)) (.two (.node [] (some ⟨[(114,(.one .bool))],[],upN 110 5,[]⟩) [] [] .leaf .leaf) .leaf))))) .leaf) .leaf)) .leaf) .leaf)) (.two (.two (.node [] (some ⟨[(141,(.one .bool))],[],upN 115 27,[]⟩) [] [] .leaf .leaf) .leaf) (.two (.two (.node [] (some ⟨[(157,(.one .bool))],[],upN 142 16,[]⟩) [] [] .leaf .leaf) .leaf) (.r' (.two (.node [] (some ⟨[(6,(.one .bool))],[],[6]++upN 166 22,[]⟩) [] [] .leaf .leaf) .leaf)))))))))))) [] jK=(∀jF insecure A c (l:List kE) rk (kk:List Int) rk2 (kk2:List Int),∀Q,(kk2=kk∧((∀x∈l,0≤x.v∧x.v<4294967296))∧l.length≤140737488355328∧Q ⟨(.bool true),none,[],[],[]⟩)→oO jF insecure A c l rk kk rk2 kk2 Q):=by kernel_rfl
theorem oN:LV Un Tryz.prog 5 jK:=verify Tryz.func5 aa (tb:= [(9,ia),(10,g9),(11,rL),(15,nJ),(16,nw),(7,gV),(17,nm),(18,nE),(19,g8),(20,g7)]) ⟨rK,AM,Gi,D2,Dy,qY,CZ,DU,AJ,rJ,trivial⟩ (by kernel_rfl) (oP.mpr fun jF insecure A c l rk kk rk2 kk2 Q h=>by
 obtain⟨hp0,hp1,hp2,h⟩:=h
 exact fun r s1 f1=>fun s h_s f2=>bw false ((by grind))<| eD<| allEq<| ⟨fun m i1 s3=>(m=((l.length:Int) - i1).toNat)∧(0≤i1∧i1≤(l.length:Int))∧(s3.R=s3.D),⟨_,rfl,(by omega),(by grind)⟩,fun m _ i1 s3 ⟨hm,hi,hR⟩=>fun f3=>ax (fun c1=>ao (by omega) fun s4=>ao ‹_› fun s5=>ao ‹_› fun s6=>ao (hp1 _ (EV (by omega))) fun s7=>fun s11 f8=>fun s2 h_s2 f9=>allEq<| ⟨_,(by(have h8:=ai (x:=i1+1) (by omega));omega),rfl,(by(have h8:=ai (x:=i1+1) (by omega));omega),(by grind)⟩) fun c1=>ao (by rfl) fun s10=>fun rN rM=>(by have ht:=DB.xr s3.D;(have hok:LSt.Ok s3:=by assumption);(have hS:1≤s3.D.S:=by have:=hok.pos;rw [hR]at this;exact this);have hS2:s3.D.S≤64:=hok.wf.2.1;(have hpl:s3.D.broken.1>0→(s3.D.broken.1≤4∨s3.D.broken.1=12)→s3.D.plain s3.D.broken.1 s3.D.broken.2=false:=fun h1 h2=>by rw [DB.plain_eq (by omega) ⟨ht.pS.1,ht.pS.2 (by omega)⟩];exact(ht.bad (by omega)).2.1);exact fun E h_E f11=>fun m2 h_m2 f12=>ao (by rfl) fun s13=>ao (by rfl) fun s14=>allEq<| ⟨fun m3 k1=>(m3=(13 - k1).toNat)∧(1≤k1∧k1≤13),⟨_,rfl,(by omega)⟩,fun m3 _ k1 ⟨hm,hk⟩=>(by(have hl1:k1≤12→(s3.D.broken.1=0∨k1<s3.D.broken.1)→s3.D.holds k1=true:=fun h1 h2=>by rw [DB.qv ⟨hk.1,h1⟩];exact ht.low k1 hk.1 h1 h2);(have hb1:k1≤12→k1=s3.D.broken.1→s3.D.holds k1=false:=fun h1 h2=>by rw [DB.qv ⟨hk.1,h1⟩,h2];exact(ht.bad (by omega)).1);(have hq1:∀q:Int,0≤q→q<(s3.D.S:Int)→s3.D.plain k1 q=false→k1=s3.D.broken.1→¬q<s3.D.broken.2:=fun q h1 h2 h3 h4 h5=>by have h6:=DB.lV ⟨h1,h2⟩ h3;rw [h4,(ht.bad (by omega)).2.2 q h1 h5]at h6;cases h6);exact ax (fun c2=>ao (by rfl) fun s15=>⟨fun x86=>(x86=false),aE (fun c3=>aW (fun c4=>aE (fun c5=>(by(exfalso;grind))) fun c5=>(by(exfalso;grind))) fun c4=>(by rfl)) fun c3=>aW (fun c6=>aE (fun c7=>(by(exfalso;grind))) fun c7=>(by grind)) fun c6=>(by rfl),fun _ x86 gx86=>ae (fun c8=>aX h (by(simp_all;done))) fun c8=>ao (by rfl) fun s16=>allEq<| ⟨fun m5 all q1=>(m5=(q1+1).toNat)∧(-1≤q1∧q1<(s3.D.S:Int))∧(all=true∨s3.D.holds k1=false),⟨_,rfl,(by rw [ai (by omega)];omega),(.inl rfl)⟩,fun m5 _ all q1 ⟨hm,hq,ha⟩=>ax (fun c9=>aW (fun c10=>⟨fun x109=>(x109=false),aE (fun c11=>(by grind)) fun c11=>(by rfl),fun _ x109 gx109=>ae (fun c12=>aX h (by(simp_all;done))) fun c12=>allEq<| ⟨_,(by(have h8:=ai (x:=q1 - 1) (by omega));omega),rfl,(by(have h8:=ai (x:=q1 - 1) (by omega));omega),(by exact .inr (DB.Cx ⟨hk.1,by omega⟩ ⟨by omega,hq.2⟩ (by grind)))⟩⟩) fun c10=>allEq<| ⟨_,(by(have h8:=ai (x:=q1 - 1) (by omega));omega),rfl,(by(have h8:=ai (x:=q1 - 1) (by omega));omega),‹_›⟩) fun c9=>⟨fun x114=>(x114=false),aW (fun c13=>(by grind)) fun c13=>(by rfl),fun _ x114 gx114=>ae (fun c14=>aX h (by(simp_all;done))) fun c14=>allEq<| ⟨_,(by(have h8:=ai (x:=k1+1) (by omega));omega),rfl,(by(have h8:=ai (x:=k1+1) (by omega));omega)⟩⟩⟩⟩) fun c2=>⟨fun x141=>(x141=false),aE (fun c15=>bo (fun c16=>(by(have:=ht.c12;have:=ht.pS;have:=ht.zero;grind))) fun c16=>ax (fun c17=>(by(have:=ht.c12;have:=ht.pS;have:=ht.zero;grind))) fun c17=>ax (fun c18=>(by(have:=ht.c12;have:=ht.pS;have:=ht.zero;grind))) fun c18=>ax (fun c19=>(by(have:=ht.c12;have:=ht.pS;have:=ht.zero;grind))) fun c19=>ao (by rfl) fun s17=>(by(have:=ht.c12;have:=ht.pS;have:=ht.zero;grind))) fun c15=>ax (fun c20=>(by(have:=ht.c12;have:=ht.pS;have:=ht.zero;grind))) fun c20=>ax (fun c21=>(by(have:=ht.c12;have:=ht.pS;have:=ht.zero;grind))) fun c21=>ax (fun c22=>(by(have:=ht.c12;have:=ht.pS;have:=ht.zero;grind))) fun c22=>ao (by rfl) fun s18=>(by(have:=ht.c12;have:=ht.pS;have:=ht.zero;grind)),fun _ x141 gx141=>ae (fun c23=>aX h (by(simp_all;done))) fun c23=>⟨fun x157=>(x157=false),ax (fun c24=>ax (fun c25=>(by grind)) fun c25=>aE (fun c26=>(by grind)) fun c26=>(by rfl)) fun c24=>(by rfl),fun _ x157 gx157=>ae (fun c27=>aX h (by(simp_all;done))) fun c27=>ao (by rfl) fun s19=>⟨fun x6=>(x6=true),aE (fun c28=>aE (fun c29=>ao (by rfl) fun s20=>aE (fun c30=>ao (h_E.symm) fun s21=>ao (h_m2.symm) fun s22=>(by rfl)) fun c30=>(by grind)) fun c29=>(by grind)) fun c28=>(by grind),fun _ x6 g6=>aX h (by(simp_all;done))⟩⟩⟩)⟩)⟩)
end Go.Proofs.YtbjlecpmgocoeaaGreatDoor
end
section
namespace Go.Proofs.YtbjlecpmgocoeaaGreatDoor
open Go Go.RowKit V Go.ChangeShapes Go.WideShapes Go.ChangeAt
open Go.IntKind (i64 u32 u64)
open Enc (enc)
theorem G1:ownKnob Tryz.prog.godebug=none:=by kernel_rfl
theorem jU:laidOutB Tryz.prog=true:=by kernel_rfl
theorem G2:Tryz.prog.bytesOf 42=64:=by kernel_rfl
theorem II:Tryz.prog.cellsOf 42=6:=by kernel_rfl
theorem uJ:Tryz.prog.cellsOf 3=1:=by kernel_rfl
theorem zH:Tryz.prog.cellsOf 22=1:=by kernel_rfl
theorem IG:Tryz.prog.cellsOf 40=1:=by kernel_rfl
def Kk:DataW Unit→List Int
 | .agg l=>l.filterMap fun d=>match d with
  | .lit (.int _ x)=>some x
  | _=>none
 | _=>[]
def kR:List Int:=Kk Rows.laid_warden_sha_rounds
theorem G4:Rows.laid_warden_sha_rounds (H:=Unit)= .agg (kR.map fun x=>.lit (.int .u32 x)):=by kernel_rfl
theorem EP:Rows.laid_warden_wardenref02_K (H:=Unit)= .agg (kR.map fun x=>.lit (.int .u32 x)):=by kernel_rfl
theorem zI:kR.length=64:=by kernel_rfl
theorem BA:Tryz.prog.globalNamed "warden/sha.rounds" =some 1:=by kernel_rfl
theorem gK:Tryz.prog.globalNamed "warden/wardenref02.K" =some 2:=by kernel_rfl
theorem GU {W:World}(h:laidMetH Tryz.prog Rows.validFirstRow.laid W):fV W 1 kR∧fV W 2 kR:=by
 rw [MakeChecks.laidMetH_plain _ _ _ (by kernel_rfl)]at h
 obtain⟨ps,⟨g0,t0,cs0,f0,p0,q0,hg0,ht0,hv0,hd0,⟨g1,t1,cs1,f1,p1,q1,hg1,ht1,hv1,hd1,hq1,e1⟩,e0⟩,_,hc⟩:=h
 obtain rfl:=Option.some.inj (BA.symm.trans hg0)
 obtain rfl:=Option.some.inj (gK.symm.trans hg1)
 obtain rfl:=Option.some.inj ((show(Tryz.prog.globals[1]?).map (·.type)=some 194 by kernel_rfl).symm.trans ht0)
 obtain rfl:=Option.some.inj ((show(Tryz.prog.globals[2]?).map (·.type)=some 194 by kernel_rfl).symm.trans ht1)
 rw [G4]at hd0
 rw [EP]at hd1
 have c0:=sU Tryz.underlying194 Tryz.underlying22 zH hd0 (by kernel_rfl)
 have c1:=sU Tryz.underlying194 Tryz.underlying22 zH hd1 (by kernel_rfl)
 obtain⟨cs0⟩:=cs0
 obtain⟨cs1⟩:=cs1
 simp only at c0 c1
 subst c0 c1
 have s0:∀x:Nat,MemPlace.row ⟨1,0,none⟩ (kR.map (Value.int .u32)).toArray.size ⊆ ps:=fun _=>by rw [e0];intro y hy;simp only [List.mem_append];exact .inl (.inl hy)
 have s1:MemPlace.row ⟨2,0,none⟩ (kR.map (Value.int .u32)).toArray.size ⊆ ps:=by rw [e0,e1];intro y hy;simp only [List.mem_append];exact .inr (.inl (.inl hy))
 have z0:0<(kR.map (Value.int .u32)).toArray.size:=by simp [zI]
 exact⟨⟨zI,wm BA hv0 z0 (s0 0) hc⟩,⟨zI,wm gK hv1 z0 s1 hc⟩⟩
theorem E4(os:Os)(args:Array Value):laidMetH Tryz.prog Rows.validFirstRow.laid ((World.doorLaid Tryz.prog 400 os).forCall (fun _ _=>0) ⟨#[],args,[]⟩).memory:=
 laidMetH_of_parts3 (fuel:=8) (laidMet_of_run' 8 (by kernel_rfl) (by kernel_rfl)) (by kernel_rfl) (by kernel_rfl)
set_option maxRecDepth 100000 in
theorem zG(os:Os)(started:os.Started)(H:Type)(enc:TypeId×Value→H):
 ReturnsInHanded {} Tryz.checked os 5 .any (fun w args=>(Rows.validFirstSpec.pre enc Tryz.prog Tryz.f5 [] false w args∧laidMetH Tryz.prog Rows.validFirstRow.laid w)∧sizedMet enc Tryz.prog Tryz.f5 (OpenSpec.ofChange Rows.validFirstSpec) false w args)
  (Rows.validFirstSpec.post enc Tryz.prog Tryz.f5 false true false false):=by
 refine returnsInHanded_of_change_and (C:=Tryz.checked) (X:=fun w _=>laidMetH Tryz.prog Rows.validFirstRow.laid w) (fun _ _ _ hh h=>h.of_heap hh) G1 started (by kernel_rfl) Tryz.func5
  (ChangeSpec.witness_shaped (enc:=enc) (C:=Tryz.checked) (os:=os) (X:=fun w _=>laidMetH Tryz.prog Rows.validFirstRow.laid w) false (World.doorLaid Tryz.prog 400 os) #[.int .i64 1,.int .i64 1,.slice none 0 0] 8 rfl (World.shaped_of_RefB (by kernel_rfl) (by kernel_rfl)) (by kernel_rfl) (by kernel_rfl) (by kernel_rfl) (E4 os _)) ?_
 intro W base args ds gs before hval0 hW _ hsz0 hL _
 have hsz:(DataW.weightsEach Tryz.prog (Tryz.f5.params.toList++Rows.validFirstSpec.plain.varTypes Tryz.prog) (ds++gs)).all (· ≤reachBytes)=true:=hsz0
 clear hsz0
 have hval:∀(j:Nat) t v,Tryz.f5.params[j]? =some t→args[j]? =some v→Value.okWide Tryz.prog W .any base t v:=hval0
 have hW':=hW
 obtain⟨p,q,hA0,hV,rfl,_,_⟩:=hW
 have hA:DataW.TrodAll enc Tryz.prog W 0 (fun _=>true) true Tryz.f5.params.toList args.toList ds p:=hA0
 rw [Tryz.params5]at hA hval hsz
 obtain⟨v0,v1,v2,d0,d1,d2,p0,p1,p2,rfl,rfl,rfl,h0,h1,h2⟩:=trodAll_three hA
 obtain⟨rfl,rfl⟩:=trodVars_none hV
 obtain⟨x0,rfl,rfl,rfl,_⟩:=open_int Tryz.underlying3 (hval 0 3 v0 rfl rfl) h0
 obtain⟨x1,rfl,rfl,rfl,_⟩:=open_int Tryz.underlying3 (hval 1 3 v1 rfl rfl) h1
 obtain⟨A,n,c,l,rfl,hr,hw,hfst,hs⟩:=Cq Tryz.underlying36 Tryz.underlying42 II ⟨rfl,rfl,rfl,rfl,rfl,rfl⟩ ⟨uJ,uJ,uJ,uJ,zH,IG⟩ Tryz.underlying3 Tryz.underlying3 Tryz.underlying3 Tryz.underlying3 Tryz.underlying22 Tryz.underlying40 (hval 2 36 v2 rfl rfl) h2
 clear hA0 hval0
 simp only [List.append_nil,List.nil_append]at hW'
 have hlt:∀x∈p2,x.block<W.heap.size:=fun x hx=>by simpa using hW'.lt x hx
 have hnl:=hr.len
 subst hnl
 have b0:c*64≤140737488351232:=by
  rcases hs with rfl | ⟨el,sp,rfl,hlen⟩
  ·omega
  ·have:=sized_slice hsz (j:=2) (t:=36) (e:=42) rfl rfl Tryz.underlying36
   rw [G2,hlen]at this
   simpa [reachBytes]using this
 obtain⟨hR1,hR2⟩:=GU hL
 have ne:∀g cs T,(∀v∈cs.toList,∀x,v≠ .int .i64 x)→Blk W g cs T→¬(0<l.length∧∃p,A=some p∧g=p.block):=fun g cs T hcs hb ⟨h0,p,hp,hg⟩=>by
  obtain⟨x,hx⟩:=hfst p hp h0
  exact hcs _ (cell_of hb (by rw [V.block_add];exact hg.symm) hx) x rfl
 have n1:∀g,(∃T,Blk W g (aT kR) T)→¬(0<l.length∧∃p,A=some p∧g=p.block):=fun g ⟨T,hb⟩=>ne g _ T (fun v hv x e=>by
  subst e
  have hv:Value.int .i64 x∈kR.map (Value.int .u32):=hv
  obtain⟨y,_,hy⟩:=List.mem_map.1 hv
  cases hy) hb
 let X:Nat→Nat→Prop:=fun i=>if i=0 then fun k=>0<l.length∧∃p,A=some p∧k=p.block else if i=1 then fun k=>k=1 else fun k=>k=2
 have hsat:Sat (U:=Un) [.lst 5 false 42 A c l,.ob 5 (fun _=>0) kR,.ob 6 (fun _=>0) kR] X W:=⟨fun i r hr2=>by
  match i with
  | 0=>simp only [nth,Option.some.injEq]at hr2;subst hr2;exact hr
  | 1=>simp only [nth,Option.some.injEq]at hr2;subst hr2;exact(⟨fun k=>⟨fun h=>h,fun h=>h⟩,hR1⟩:(∀k,k=1↔X 1 k)∧fV W 1 kR)
  | 2=>simp only [nth,Option.some.injEq]at hr2;subst hr2;exact(⟨fun k=>⟨fun h=>h,fun h=>h⟩,hR2⟩:(∀k,k=2↔X 2 k)∧fV W 2 kR)
  | i+3=>simp [nth]at hr2,fun i j hi hj hij k k1 k2=>by
  have hi:i<3:=hi
  have hj:j<3:=hj
  have a0:∀k,X 1 k→k=1:=fun _ h=>h
  have a1:∀k,X 2 k→k=2:=fun _ h=>h
  have m1:¬X 0 1:=n1 1 hR1.blk
  have m2:¬X 0 2:=n1 2 hR2.blk
  match i,hi,j,hj with
  | 0,_,0,_ | 1,_,1,_ | 2,_,2,_=>exact hij rfl
  | 0,_,1,_=>rw [a0 k k2]at k1;exact m1 k1
  | 0,_,2,_=>rw [a1 k k2]at k1;exact m2 k1
  | 1,_,0,_=>rw [a0 k k1]at k2;exact m1 k2
  | 2,_,0,_=>rw [a1 k k1]at k2;exact m2 k2
  | 1,_,2,_=>have:=a0 k k1;have:=a1 k k2;omega
  | 2,_,1,_=>have:=a1 k k1;have:=a0 k k2;omega⟩
 have hcap:l.length≤c:=hr.cap
 have hll:l.length≤140737488355328:=by omega
 refine(oN x0 x1 A c l (fun _=>0) kR (fun _=>0) kR (fun o=>o=_) ⟨rfl,hw,hll,rfl⟩ X W hsat (fun _ _ h=>by cases h)).mono ?_
 rintro e W' ⟨out,rs',X',rfl,rfl,happ,hp⟩
 have hpu:Pu W W':=hp.ch.mono fun k ⟨j,hj,_⟩=>by cases hj
 have hn:Below W.heap.size W W':=⟨hpu.kept.os,hpu.kept.tape,hpu.kept.output,hpu.kept.size,fun k hk=>hpu.kept.block k ⟨hk,fun h=>h⟩⟩
 refine⟨_,rfl,_,_,_,[],p2,[],hW',trodAll_mk1 (shut_bool Tryz.underlying4 _),?_,rfl,hn.frame _,fun h=>by cases h⟩
 have:=trodAll_mk3 (Below.trod jU (by kernel_rfl) (of_decide_eq_true (by kernel_rfl)) h0 hn (fun x hx=>by cases hx))
  (Below.trod jU (by kernel_rfl) (of_decide_eq_true (by kernel_rfl)) h1 hn (fun x hx=>by cases hx))
  (Below.trod jU (by kernel_rfl) (of_decide_eq_true (by kernel_rfl)) h2 hn hlt)
 simp only [List.nil_append]at this
 exact this
theorem px:Rows.ValidFirstSaid:=
 OpenClaim.holds_of_wide 5 Tryz.f5 rfl rfl rfl rfl rfl rfl rfl ⟨rfl,rfl,rfl,rfl,rfl⟩ rfl rfl rfl rfl rfl (by kernel_rfl) Tryz.func5 (by kernel_rfl)
  (of_decide_eq_true (by kernel_rfl)) (by unfold Func.isWrapper;(rw [if_neg (by decide+kernel)];exact⟨rfl,rfl⟩))
  (fun os started H enc _=>zG os started H enc)
end Go.Proofs.YtbjlecpmgocoeaaGreatDoor
end
section
namespace Go.Proofs.YtbjlecpmgocoeaaGreatDoor
open Go
theorem validFirst_card:Rows.ValidFirstCardSaid:=
 Claim7.holds_tied_plain_at .later [] [.data,.data] true (true, "f058b0afc36d443aecdccf341377bd94eca7772ab4271b0ca8f2561e00fa4153") false
  px (fun _ h=>by cases h) (by kernel_rfl) (fun _ h=>by cases h) validFirst_row_tie rfl ⟨rfl,rfl⟩ (by kernel_rfl) rfl
  (fun f fn hf hfn=>by
   obtain rfl:f=5:=Option.some.inj ((show Tryz.prog.funcNamed "warden/wardenlaw13.ValidFirst" =some 5 by kernel_rfl).symm.trans hf) |>.symm
   obtain rfl:fn=Tryz.f5:=(Option.some.inj (Tryz.func5.symm.trans hfn)).symm
   exact⟨by kernel_rfl,fun j t ht=>by
    rw [Tryz.params5]at ht
    have h3:t=3∨t=36:=by
     rcases j with _ | _ | _ | j
     ·left;simpa using ht.symm
     ·left;simpa using ht.symm
     ·right;simpa using ht.symm
     ·simp at ht
    rcases h3 with rfl | rfl
    ·exact(show Tryz.prog.wantsStandIn 3=false by kernel_rfl)
    ·exact(show Tryz.prog.wantsStandIn 36=false by kernel_rfl)⟩)
  (by kernel_rfl)
#print axioms validFirst_card
end Go.Proofs.YtbjlecpmgocoeaaGreatDoor
end
