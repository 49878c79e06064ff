/- Chapter 17, BuildAll: every code, all entries and all words of every script are the document's. -/
import Derived.Test.YtinhphjfnedhgaaGreatDoorG3
import Derived.KernelRfl
import Derived.ProofKit
import Derived.SizedLaws
import Derived.OpenShut
import Derived.LaidMore
import Derived.MakeChecks
import Derived.Handed
import Derived.Deep.SlicePairs
set_option linter.unusedVariables false
set_option linter.unusedSimpArgs false
namespace Go.Proofs.YtinhphjfnedhgaaGreatDoor
open Go.Proofs.Tryz (prog)
open Go Go.RowKit V
open Go.IntKind (i64 u32 u64)
section
set_option maxRecDepth 10000
set_option maxHeartbeats 1000000
theorem nM:S1 prog 62 29 (.int .u32 0) 4:=S1.of (by kernel_rfl) (by kernel_rfl) rfl
theorem nG:SN prog 62 29 (.int .u32 0) 1 4:=nM.sn
theorem o8 {w:World}(x:Int)(k:Int)(hk: -31≤k∧k≤ -1):
 Calls prog 200 #[(.int .u32 x),(.int .i64 k)] w fun e w'=>∃v,e= .returned v∧v= .int .u32 (mS x (-k))∧Pu w w':=by
 refine kX _ _ ?_
 have hs:=Ml hk
 have hp:=Ch.refl (fun _=>False) w
 rintro _ rfl
 refine kt (by(rw [hs];omega)) (kt (by(rw [IntKind.wrap_u64];omega)) ?_)
 exact⟨congrArg (Value.int .u32) (by rw [hs];exact rot_eq hk),hp⟩
theorem jI {w:World}(wv:Int)(n:Int)(hn:1≤n∧n≤31):
 Calls prog 193 #[(.int .u32 wv),(.int .i64 n)] w fun e w'=>∃v,e= .returned v∧v= .int .u32 (mS wv n)∧Pu w w':=by
 refine wW _ _ ?_
 have e0:i64.wrap (0 - n)= -n:=by rw [aq (by omega)];omega
 have hp:=Ch.refl (fun _=>False) w
 refine Calls.mono (o8 _ _ (by rw [e0];omega)) ?_
 rintro e Nw ⟨_,rfl,rfl,NH⟩
 refine⟨_,rfl,?_⟩
 have hp:=Ch.pu hp NH
 exact⟨congrArg (Value.int .u32) (by rw [e0,Int.neg_neg]),hp⟩
theorem gO {w:World}(wv:Int)(n:Int)(hn:1≤n∧n≤31):
 Calls prog 198 #[(.int .u32 wv),(.int .u64 n)] w fun e w'=>∃v,e= .returned v∧v= .int .u32 (mS wv n)∧Pu w w':=by
 refine ux _ _ ?_
 have e0:u64.wrap (32 - n)=32 - n:=ig (by omega)
 have hp:=Ch.refl (fun _=>False) w
 refine kt (by omega) (kt (by omega) ?_)
 exact⟨congrArg (Value.int .u32) (by rw [e0];rfl),hp⟩
theorem Ed {w:World}(blocka:Int)(blockb:Int)(blockc:Int)(blockd:Int)(blocke:Int)(blockf:Int)(blockg:Int)(blockh:Int)(blocki:Int)(blockj:Int)(blockk:Int)(blockl:Int)(blockm:Int)(blockn:Int)(blocko:Int)(blockp:Int):
 Calls prog 192 #[(.agg #[(.int .u32 blocka),(.int .u32 blockb),(.int .u32 blockc),(.int .u32 blockd),(.int .u32 blocke),(.int .u32 blockf),(.int .u32 blockg),(.int .u32 blockh),(.int .u32 blocki),(.int .u32 blockj),(.int .u32 blockk),(.int .u32 blockl),(.int .u32 blockm),(.int .u32 blockn),(.int .u32 blocko),(.int .u32 blockp)])] w fun e w'=>∃v,e= .returned v∧v= .agg (aY (ah [blocka,blockb,blockc,blockd,blocke,blockf,blockg,blockh,blocki,blockj,blockk,blockl,blockm,blockn,blocko,blockp] 48))∧Pu w w':=by
 refine qo _ _ _ _ _ _ _ _ _ _ _ _ _ _ _ _ ?_
 obtain⟨bb,Pa⟩:∃bb,bb= [blocka,blockb,blockc,blockd,blocke,blockf,blockg,blockh,blocki,blockj,blockk,blockl,blockm,blockn,blocko,blockp]:=⟨_,rfl⟩
 have hB:bb.length=16:=by rw [Pa];rfl
 have hp:=Ch.refl (fun _=>False) w
 refine mkd fun gv wv NC=>?_
 have Nr:=NC.blk
 have hp:=Ch.made hp NC
 refine mkd fun NB Nw NJ=>?_
 have NO:=NJ.lo hp
 have NS:=NJ.ne Nr
 have Ns:Blk Nw NB (aY (List.replicate 64 0)) _:=NJ.blk.cast (dM _ _)
 have hp:=Ch.made hp NJ
 have Nr:=Made.old NJ Nr
 refine mkd fun NZ Ny NM=>?_
 have NN:=NM.lo hp
 have NY:=NM.ne Nr
 have ne_gv1_gv2:=NM.ne Ns
 have Nt:Blk Ny NZ (aY (List.replicate 64 0)) _:=NM.blk.cast (dM _ _)
 refine⟨bXU [] [] Ny.drew (fun _=>False),?_⟩
 rintro _ rfl _ rfl _ rfl
 rintro _ rfl _ rfl _ rfl
 have Nt:=Blk.drew Nt
 have Nr:=Blk.drew (Made.old NM Nr)
 have Nr:Blk Ny.drew gv (aY [blocka,blockb,blockc,blockd,blocke,blockf,blockg,blockh,blocki,blockj,blockk,blockl,blockm,blockn,blocko,blockp]) _:=Nr.cast (by rfl)
 refine n9 nM Nt (o:=0) rfl (by(simp;done)) (dA.Nb (Z:=fun _=>True) Nr trivial rfl (by(simp;done)) (by(simp;done)) (by(simp;done))) (by(simp;done)) fun NF ND=>?_
 have Nt:=ND.blk
 refine bXU.grow ND.ch ?_
 rintro _ rfl
 have hp:=Ch.call (Ch.drew (Ch.made hp NM)) ND.ch (by exact fun k e=>.inr (e▸NN))
 have Nr:=Ch.blk ND.ch Nr (NY)
 have Ns:=Ch.blk ND.ch (Blk.drew (Made.old NM Ns)) (ne_gv1_gv2)
 refine⟨fun mz t1 W=>mz=(64 - t1).toNat∧(16≤t1∧t1≤64)∧Ch (fun _=>False) w W∧Blk W gv (aY ([blocka,blockb,blockc,blockd,blocke,blockf,blockg,blockh,blocki,blockj,blockk,blockl,blockm,blockn,blocko,blockp])) 262∧Blk W NB (aY (List.replicate 64 0)) 287∧Blk W NZ (aY (ah bb (t1.toNat - 16))) 287,⟨_,rfl,(by omega),hp,Nr,Ns,Nt.cast (congrArg aY (by subst Pa;rfl))⟩,?_⟩
 rintro _ _ t1 NI ⟨rfl,h0,hp,Nr,Ns,Nt⟩
 refine ar (fun c1=>?_) (fun c1=>?_)
 ·refine⟨by(simp only [IntKind.wrap_i64];omega),?_⟩
  have Nt:=Blk.drew Nt
  refine⟨_,Nt.im (i:=(i64.wrap (t1 - 15))) (by(rw [cF hB];simp only [IntKind.wrap_i64];omega)),⟨by(simp only [IntKind.wrap_i64];omega),⟨_,Nt.im (i:=(i64.wrap (t1 - 2))) (by(rw [cF hB];simp only [IntKind.wrap_i64];omega)),?_⟩⟩⟩
  refine⟨bXU [4,17] [] NI.drew.drew (fun _=>False),?_⟩
  have Nt:=Blk.drew Nt
  refine⟨by(simp only [IntKind.wrap_i64];omega),⟨.inr ⟨by decide,bX.ld Nt (fun h=>h) _⟩,_,Nt.im (i:=(i64.wrap (t1 - 16))) (by(rw [cF hB];simp only [IntKind.wrap_i64];omega)),⟨by(simp only [IntKind.wrap_i64];omega),⟨.inr ⟨by decide,bX.ld Nt (fun h=>h) _⟩,_,Nt.im (i:=(i64.wrap (t1 - 7))) (by(rw [cF hB];simp only [IntKind.wrap_i64];omega)),?_⟩⟩⟩⟩
  refine Calls.mono (jI _ _ (by omega)) ?_
  rintro e NW ⟨_,rfl,rfl,Od⟩
  refine⟨_,rfl,?_⟩
  refine bXU.du Od (by decide) ?_
  refine Calls.mono (jI _ _ (by omega)) ?_
  rintro e NT ⟨_,rfl,rfl,N9⟩
  refine⟨_,rfl,?_⟩
  refine bXU.du N9 (by decide) ?_
  refine Calls.mono (jI _ _ (by omega)) ?_
  rintro e NU ⟨_,rfl,rfl,NL⟩
  refine⟨_,rfl,?_⟩
  refine bXU.du NL (by decide) ?_
  refine Calls.mono (jI _ _ (by omega)) ?_
  rintro e N1 ⟨_,rfl,rfl,NQ⟩
  refine⟨_,rfl,?_⟩
  refine bXU.du NQ (by decide) ?_
  have Nt:=Pu.blk NQ (Pu.blk NL (Pu.blk N9 (Pu.blk Od Nt)))
  refine⟨by omega,kq Nt (by(rw [cF hB];omega)) fun Oy NA=>?_⟩
  have Nt:=NA.blk
  refine bXU.grow NA.ch ?_
  rintro _ rfl
  have hp:=Ch.call (Ch.pu (Ch.pu (Ch.pu (Ch.pu (Ch.drew (Ch.drew hp)) Od) N9) NL) NQ) NA.ch (by exact fun k e=>.inr (e▸NN))
  have Nr:=Ch.blk NA.ch (Pu.blk NQ (Pu.blk NL (Pu.blk N9 (Pu.blk Od (Blk.drew (Blk.drew Nr)))))) (NY)
  have Ns:=Ch.blk NA.ch (Pu.blk NQ (Pu.blk NL (Pu.blk N9 (Pu.blk Od (Blk.drew (Blk.drew Ns)))))) (ne_gv1_gv2)
  exact⟨_,by rw [IntKind.wrap_i64];omega,rfl,by rw [IntKind.wrap_i64];omega,hp,Nr,Ns,Nt.cast (congrArg aY (by exact pG (by omega)))⟩
 ·refine⟨aY (ah bb (t1.toNat - 16)),Nt.oN (by(simp [cF hB];done)),⟨by rw [dL];(simp [cF hB];done),lg,mj Ns (by(simp [cF hB];done)) fun NW Oq=>?_⟩⟩
  have Ns:=Oq.blk
  refine⟨aY (ah bb (t1.toNat - 16)),Ns.oN (by(simp [cF hB];done)),?_⟩
  have hp:=Ch.call hp Oq.ch (by exact fun k e=>.inr (e▸NO))
  exact⟨congrArg (fun l=>Value.agg (aY l)) (by have:t1=64:=(by omega);subst this;rw [← Pa];rfl),hp⟩
theorem Lc {K:List Int} {w:World}(hk:iP w 0 K)(statea:Int)(stateb:Int)(statec:Int)(stated:Int)(statee:Int)(statef:Int)(stateg:Int)(stateh:Int)(blocka:Int)(blockb:Int)(blockc:Int)(blockd:Int)(blocke:Int)(blockf:Int)(blockg:Int)(blockh:Int)(blocki:Int)(blockj:Int)(blockk:Int)(blockl:Int)(blockm:Int)(blockn:Int)(blocko:Int)(blockp:Int):
 Calls prog 175 #[(.agg #[(.int .u32 statea),(.int .u32 stateb),(.int .u32 statec),(.int .u32 stated),(.int .u32 statee),(.int .u32 statef),(.int .u32 stateg),(.int .u32 stateh)]),(.agg #[(.int .u32 blocka),(.int .u32 blockb),(.int .u32 blockc),(.int .u32 blockd),(.int .u32 blocke),(.int .u32 blockf),(.int .u32 blockg),(.int .u32 blockh),(.int .u32 blocki),(.int .u32 blockj),(.int .u32 blockk),(.int .u32 blockl),(.int .u32 blockm),(.int .u32 blockn),(.int .u32 blocko),(.int .u32 blockp)])] w fun e w'=>∃v,e= .returned v∧v= .agg #[(.int .u32 ((dV K (S8.mk statea stateb statec stated statee statef stateg stateh) [blocka,blockb,blockc,blockd,blocke,blockf,blockg,blockh,blocki,blockj,blockk,blockl,blockm,blockn,blocko,blockp]).a)),(.int .u32 ((dV K (S8.mk statea stateb statec stated statee statef stateg stateh) [blocka,blockb,blockc,blockd,blocke,blockf,blockg,blockh,blocki,blockj,blockk,blockl,blockm,blockn,blocko,blockp]).b)),(.int .u32 ((dV K (S8.mk statea stateb statec stated statee statef stateg stateh) [blocka,blockb,blockc,blockd,blocke,blockf,blockg,blockh,blocki,blockj,blockk,blockl,blockm,blockn,blocko,blockp]).c)),(.int .u32 ((dV K (S8.mk statea stateb statec stated statee statef stateg stateh) [blocka,blockb,blockc,blockd,blocke,blockf,blockg,blockh,blocki,blockj,blockk,blockl,blockm,blockn,blocko,blockp]).d)),(.int .u32 ((dV K (S8.mk statea stateb statec stated statee statef stateg stateh) [blocka,blockb,blockc,blockd,blocke,blockf,blockg,blockh,blocki,blockj,blockk,blockl,blockm,blockn,blocko,blockp]).e)),(.int .u32 ((dV K (S8.mk statea stateb statec stated statee statef stateg stateh) [blocka,blockb,blockc,blockd,blocke,blockf,blockg,blockh,blocki,blockj,blockk,blockl,blockm,blockn,blocko,blockp]).f)),(.int .u32 ((dV K (S8.mk statea stateb statec stated statee statef stateg stateh) [blocka,blockb,blockc,blockd,blocke,blockf,blockg,blockh,blocki,blockj,blockk,blockl,blockm,blockn,blocko,blockp]).g)),(.int .u32 ((dV K (S8.mk statea stateb statec stated statee statef stateg stateh) [blocka,blockb,blockc,blockd,blocke,blockf,blockg,blockh,blocki,blockj,blockk,blockl,blockm,blockn,blocko,blockp]).h))]∧Pu w w':=by
 refine wY _ _ _ _ _ _ _ _ _ _ _ _ _ _ _ _ _ _ _ _ _ _ _ _ ?_
 obtain⟨bb,Pa⟩:∃bb,bb= [blocka,blockb,blockc,blockd,blocke,blockf,blockg,blockh,blocki,blockj,blockk,blockl,blockm,blockn,blocko,blockp]:=⟨_,rfl⟩
 have hB:bb.length=16:=by rw [Pa];rfl
 obtain⟨ss,OV⟩:∃ss,ss=(S8.mk statea stateb statec stated statee statef stateg stateh):=⟨_,rfl⟩
 have hp:=Ch.refl (fun _=>False) w
 have Og:=hk.lt
 refine mkd fun gv wv NC=>?_
 have Nr:=NC.blk
 refine mkd fun NB Nw NJ=>?_
 have Ns:=NJ.blk
 have hp:=Ch.made (Ch.made hp NC) NJ
 have Nr:=Made.old NJ Nr
 refine mkd fun NZ Ny NM=>?_
 have NN:=NM.lo hp
 have NY:=NM.ne Nr
 have ne_gv1_gv2:=NM.ne Ns
 have Nt:=NM.blk
 have Nr:=Made.old NM Nr
 refine⟨_,_,_,_,_,_,_,_,⟨Nr.at rfl,Nr.at rfl,Nr.at rfl,Nr.at rfl,Nr.at rfl,Nr.at rfl,Nr.at rfl,Nr.at rfl⟩,?_⟩
 have hp:=Ch.made hp NM
 have Ns:=Made.old NM Ns
 refine mkd fun Oa NF Oe=>?_
 have N7:=Oe.lo hp
 have Ob:=Oe.ne Nr
 have ne_gv1_gv3:=Oe.ne Ns
 have ne_gv2_gv3:=Oe.ne Nt
 have Nu:=Oe.blk
 refine bH Nu rfl fun NI Nx=>?_
 have Nu:=Nx.blk
 have Ns:=Ch.blk Nx.ch (Made.old Oe Ns) (ne_gv1_gv3)
 refine⟨_,_,_,_,_,_,_,_,_,_,_,_,_,_,_,_,⟨Ns.at rfl,Ns.at rfl,Ns.at rfl,Ns.at rfl,Ns.at rfl,Ns.at rfl,Ns.at rfl,Ns.at rfl,Ns.at rfl,Ns.at rfl,Ns.at rfl,Ns.at rfl,Ns.at rfl,Ns.at rfl,Ns.at rfl,Ns.at rfl⟩,?_⟩
 refine Calls.mono (Ed _ _ _ _ _ _ _ _ _ _ _ _ _ _ _ _) ?_
 rintro e NW ⟨_,rfl,rfl,Od⟩
 refine⟨_,rfl,?_⟩
 have hp:=Ch.pu (Ch.call (Ch.made hp Oe) Nx.ch (by exact fun k e=>.inr (e▸N7))) Od
 have hk:=(((((hk.pu NC.pu).pu NJ.pu).pu NM.pu).pu Oe.pu).ch Nx.ch (fun k hx e=>(fun hx=>absurd (Og _ hx) (Nat.not_lt.2 N7)) (e▸hx))).pu Od
 have Nr:=Pu.blk Od (Ch.blk Nx.ch (Made.old Oe Nr) (Ob))
 have Ns:=Pu.blk Od Ns
 have Nt:=Pu.blk Od (Ch.blk Nx.ch (Made.old Oe Nt) (ne_gv2_gv3))
 have Nu:=Pu.blk Od Nu
 refine⟨fun mz OJ W=>mz=(64 - OJ).toNat∧(0≤OJ∧OJ≤64)∧Ch (fun _=>False) w W∧iP W 0 K∧Blk W gv #[(.int .u32 statea),(.int .u32 stateb),(.int .u32 statec),(.int .u32 stated),(.int .u32 statee),(.int .u32 statef),(.int .u32 stateg),(.int .u32 stateh)] 66∧Blk W NB #[(.int .u32 blocka),(.int .u32 blockb),(.int .u32 blockc),(.int .u32 blockd),(.int .u32 blocke),(.int .u32 blockf),(.int .u32 blockg),(.int .u32 blockh),(.int .u32 blocki),(.int .u32 blockj),(.int .u32 blockk),(.int .u32 blockl),(.int .u32 blockm),(.int .u32 blockn),(.int .u32 blocko),(.int .u32 blockp)] 262∧Blk W NZ #[(.int .u32 0),(.int .u32 0),(.int .u32 0),(.int .u32 0),(.int .u32 0),(.int .u32 0),(.int .u32 0),(.int .u32 0)] 66∧Blk W Oa #[(.int .u32 ((av K (ah bb 48) ss OJ.toNat).a)),(.int .u32 ((av K (ah bb 48) ss OJ.toNat).b)),(.int .u32 ((av K (ah bb 48) ss OJ.toNat).c)),(.int .u32 ((av K (ah bb 48) ss OJ.toNat).d)),(.int .u32 ((av K (ah bb 48) ss OJ.toNat).e)),(.int .u32 ((av K (ah bb 48) ss OJ.toNat).f)),(.int .u32 ((av K (ah bb 48) ss OJ.toNat).g)),(.int .u32 ((av K (ah bb 48) ss OJ.toNat).h))] 66,⟨_,rfl,(by omega),hp,hk,Nr,Ns,Nt,Nu.cast (za (congrArg (Value.int .u32) (by subst OV;rfl)) (congrArg (Value.int .u32) (by subst OV;rfl)) (congrArg (Value.int .u32) (by subst OV;rfl)) (congrArg (Value.int .u32) (by subst OV;rfl)) (congrArg (Value.int .u32) (by subst OV;rfl)) (congrArg (Value.int .u32) (by subst OV;rfl)) (congrArg (Value.int .u32) (by subst OV;rfl)) (congrArg (Value.int .u32) (by subst OV;rfl)))⟩,?_⟩
 rintro _ _ OJ NT ⟨rfl,h0,hp,hk,Nr,Ns,Nt,Nu⟩
 refine ar (fun c1=>?_) (fun c1=>?_)
 ·refine⟨by omega,⟨_,yd (l:=(ah [blocka,blockb,blockc,blockd,blocke,blockf,blockg,blockh,blocki,blockj,blockk,blockl,blockm,blockn,blocko,blockp] 48)) (i:=OJ) (by(rw [cF rfl];omega)),⟨by decide,?_⟩⟩⟩
  have Nu:=Blk.drew Nu
  refine⟨_,Nu.at rfl,⟨by decide,⟨_,Nu.at rfl,?_⟩⟩⟩
  refine⟨bXU [1,13,18,24] [] NT.drew.drew (fun _=>False),?_⟩
  have Nu:=Blk.drew Nu
  have hk:=(hk.pu (Pu.aI _)).pu (Pu.aI _)
  obtain⟨_,drow_hk⟩:=hk.blk
  refine⟨by decide,⟨.inr ⟨by decide,bX.ld Nu (fun h=>h) _⟩,_,Nu.at rfl,⟨by decide,⟨.inr ⟨by decide,bX.ld Nu (fun h=>h) _⟩,_,Nu.at rfl,⟨by decide,⟨.inr ⟨by decide,bX.ld Nu (fun h=>h) _⟩,_,Nu.at rfl,⟨by omega,⟨.inr ⟨by decide,bX.ld drow_hk (fun h=>h) _⟩,_,drow_hk.im (i:=OJ) (by(have h9:=hk.len;omega)),?_⟩⟩⟩⟩⟩⟩⟩⟩
  refine Calls.mono (jI _ _ (by omega)) ?_
  rintro e NU ⟨_,rfl,rfl,NL⟩
  refine⟨_,rfl,?_⟩
  refine bXU.du NL (by decide) ?_
  refine Calls.mono (jI _ _ (by omega)) ?_
  rintro e N1 ⟨_,rfl,rfl,NQ⟩
  refine⟨_,rfl,?_⟩
  refine bXU.du NQ (by decide) ?_
  refine Calls.mono (jI _ _ (by omega)) ?_
  rintro e Oy ⟨_,rfl,rfl,OA⟩
  refine⟨_,rfl,?_⟩
  refine bXU.du OA (by decide) ?_
  rintro _ rfl
  refine⟨bXU [10,14,18,20] [] Oy.drew (fun _=>False),?_⟩
  have Nu:=Blk.drew (Pu.blk OA (Pu.blk NQ (Pu.blk NL Nu)))
  refine⟨by decide,⟨.inr ⟨by decide,bX.ld Nu (fun h=>h) _⟩,_,Nu.at rfl,⟨by decide,⟨.inr ⟨by decide,bX.ld Nu (fun h=>h) _⟩,_,Nu.at rfl,⟨by decide,⟨.inr ⟨by decide,bX.ld Nu (fun h=>h) _⟩,_,Nu.at rfl,⟨by decide,⟨.inr ⟨by decide,bX.ld Nu (fun h=>h) _⟩,_,Nu.at rfl,?_⟩⟩⟩⟩⟩⟩⟩⟩
  refine Calls.mono (jI _ _ (by omega)) ?_
  rintro e PL ⟨_,rfl,rfl,OD⟩
  refine⟨_,rfl,?_⟩
  refine bXU.du OD (by decide) ?_
  refine Calls.mono (jI _ _ (by omega)) ?_
  rintro e Re ⟨_,rfl,rfl,OC⟩
  refine⟨_,rfl,?_⟩
  refine bXU.du OC (by decide) ?_
  refine Calls.mono (jI _ _ (by omega)) ?_
  rintro e PX ⟨_,rfl,rfl,OB⟩
  refine⟨_,rfl,?_⟩
  refine bXU.du OB (by decide) ?_
  rintro _ rfl
  have Nu:=Pu.blk OB (Pu.blk OC (Pu.blk OD Nu))
  refine⟨by decide,⟨_,Nu.at rfl,⟨by decide,⟨_,Nu.at rfl,⟨by decide,⟨_,Nu.at rfl,⟨by decide,⟨_,Nu.at rfl,⟨by decide,⟨_,Nu.at rfl,⟨by decide,⟨_,Nu.at rfl,⟨by decide,⟨_,Nu.at rfl,bH Nu rfl fun Qm Qn=>?_⟩⟩⟩⟩⟩⟩⟩⟩⟩⟩⟩⟩⟩⟩
  have Nu:=Qn.blk
  have hp:=Ch.call (Ch.pu (Ch.pu (Ch.pu (Ch.drew (Ch.pu (Ch.pu (Ch.pu (Ch.drew (Ch.drew hp)) NL) NQ) OA)) OD) OC) OB) Qn.ch (by exact fun k e=>.inr (e▸N7))
  have hk:=(((((((hk.pu NL).pu NQ).pu OA).pu (Pu.aI _)).pu OD).pu OC).pu OB).ch Qn.ch (fun k hx e=>(fun hx=>absurd (Og _ hx) (Nat.not_lt.2 N7)) (e▸hx))
  have Nr:=Ch.blk Qn.ch (Pu.blk OB (Pu.blk OC (Pu.blk OD (Blk.drew (Pu.blk OA (Pu.blk NQ (Pu.blk NL (Blk.drew (Blk.drew Nr))))))))) (Ob)
  have Ns:=Ch.blk Qn.ch (Pu.blk OB (Pu.blk OC (Pu.blk OD (Blk.drew (Pu.blk OA (Pu.blk NQ (Pu.blk NL (Blk.drew (Blk.drew Ns))))))))) (ne_gv1_gv3)
  have Nt:=Ch.blk Qn.ch (Pu.blk OB (Pu.blk OC (Pu.blk OD (Blk.drew (Pu.blk OA (Pu.blk NQ (Pu.blk NL (Blk.drew (Blk.drew Nt))))))))) (ne_gv2_gv3)
  exact⟨_,by rw [IntKind.wrap_i64];omega,rfl,by rw [IntKind.wrap_i64];omega,hp,hk,Nr,Ns,Nt,Nu.cast (za (congrArg (Value.int .u32) (by rw [cy (by omega),Pa];rfl)) (congrArg (Value.int .u32) (by rw [cy (by omega),Pa];rfl)) (congrArg (Value.int .u32) (by rw [cy (by omega),Pa];rfl)) (congrArg (Value.int .u32) (by rw [cy (by omega),Pa];rfl)) (congrArg (Value.int .u32) (by rw [cy (by omega),Pa];rfl)) (congrArg (Value.int .u32) (by rw [cy (by omega),Pa];rfl)) (congrArg (Value.int .u32) (by rw [cy (by omega),Pa];rfl)) (congrArg (Value.int .u32) (by rw [cy (by omega),Pa];rfl)))⟩
 ·have e64:OJ.toNat=64:=by omega
  rw [e64]at Nu
  refine⟨fun mz Qg W=>Ch (fun _=>False) w W∧iP W 0 K∧(∃T,Blk W gv #[(.int .u32 statea),(.int .u32 stateb),(.int .u32 statec),(.int .u32 stated),(.int .u32 statee),(.int .u32 statef),(.int .u32 stateg),(.int .u32 stateh)] T)∧(∃T,Blk W NB #[(.int .u32 blocka),(.int .u32 blockb),(.int .u32 blockc),(.int .u32 blockd),(.int .u32 blocke),(.int .u32 blockf),(.int .u32 blockg),(.int .u32 blockh),(.int .u32 blocki),(.int .u32 blockj),(.int .u32 blockk),(.int .u32 blockl),(.int .u32 blockm),(.int .u32 blockn),(.int .u32 blocko),(.int .u32 blockp)] T)∧(∃T,Blk W NZ #[(.int .u32 0),(.int .u32 0),(.int .u32 0),(.int .u32 0),(.int .u32 0),(.int .u32 0),(.int .u32 0),(.int .u32 0)] T)∧((mz=8∧Qg=0∧(∃T,Blk W Oa #[(.int .u32 ((av K (ah bb 48) ss 64).a)),(.int .u32 ((av K (ah bb 48) ss 64).b)),(.int .u32 ((av K (ah bb 48) ss 64).c)),(.int .u32 ((av K (ah bb 48) ss 64).d)),(.int .u32 ((av K (ah bb 48) ss 64).e)),(.int .u32 ((av K (ah bb 48) ss 64).f)),(.int .u32 ((av K (ah bb 48) ss 64).g)),(.int .u32 ((av K (ah bb 48) ss 64).h))] T))∨(mz=7∧Qg=1∧(∃T,Blk W Oa #[(.int .u32 (aL (av K (ah bb 48) ss 64).a statea)),(.int .u32 ((av K (ah bb 48) ss 64).b)),(.int .u32 ((av K (ah bb 48) ss 64).c)),(.int .u32 ((av K (ah bb 48) ss 64).d)),(.int .u32 ((av K (ah bb 48) ss 64).e)),(.int .u32 ((av K (ah bb 48) ss 64).f)),(.int .u32 ((av K (ah bb 48) ss 64).g)),(.int .u32 ((av K (ah bb 48) ss 64).h))] T))∨(mz=6∧Qg=2∧(∃T,Blk W Oa #[(.int .u32 (aL (av K (ah bb 48) ss 64).a statea)),(.int .u32 (aL (av K (ah bb 48) ss 64).b stateb)),(.int .u32 ((av K (ah bb 48) ss 64).c)),(.int .u32 ((av K (ah bb 48) ss 64).d)),(.int .u32 ((av K (ah bb 48) ss 64).e)),(.int .u32 ((av K (ah bb 48) ss 64).f)),(.int .u32 ((av K (ah bb 48) ss 64).g)),(.int .u32 ((av K (ah bb 48) ss 64).h))] T))∨(mz=5∧Qg=3∧(∃T,Blk W Oa #[(.int .u32 (aL (av K (ah bb 48) ss 64).a statea)),(.int .u32 (aL (av K (ah bb 48) ss 64).b stateb)),(.int .u32 (aL (av K (ah bb 48) ss 64).c statec)),(.int .u32 ((av K (ah bb 48) ss 64).d)),(.int .u32 ((av K (ah bb 48) ss 64).e)),(.int .u32 ((av K (ah bb 48) ss 64).f)),(.int .u32 ((av K (ah bb 48) ss 64).g)),(.int .u32 ((av K (ah bb 48) ss 64).h))] T))∨(mz=4∧Qg=4∧(∃T,Blk W Oa #[(.int .u32 (aL (av K (ah bb 48) ss 64).a statea)),(.int .u32 (aL (av K (ah bb 48) ss 64).b stateb)),(.int .u32 (aL (av K (ah bb 48) ss 64).c statec)),(.int .u32 (aL (av K (ah bb 48) ss 64).d stated)),(.int .u32 ((av K (ah bb 48) ss 64).e)),(.int .u32 ((av K (ah bb 48) ss 64).f)),(.int .u32 ((av K (ah bb 48) ss 64).g)),(.int .u32 ((av K (ah bb 48) ss 64).h))] T))∨(mz=3∧Qg=5∧(∃T,Blk W Oa #[(.int .u32 (aL (av K (ah bb 48) ss 64).a statea)),(.int .u32 (aL (av K (ah bb 48) ss 64).b stateb)),(.int .u32 (aL (av K (ah bb 48) ss 64).c statec)),(.int .u32 (aL (av K (ah bb 48) ss 64).d stated)),(.int .u32 (aL (av K (ah bb 48) ss 64).e statee)),(.int .u32 ((av K (ah bb 48) ss 64).f)),(.int .u32 ((av K (ah bb 48) ss 64).g)),(.int .u32 ((av K (ah bb 48) ss 64).h))] T))∨(mz=2∧Qg=6∧(∃T,Blk W Oa #[(.int .u32 (aL (av K (ah bb 48) ss 64).a statea)),(.int .u32 (aL (av K (ah bb 48) ss 64).b stateb)),(.int .u32 (aL (av K (ah bb 48) ss 64).c statec)),(.int .u32 (aL (av K (ah bb 48) ss 64).d stated)),(.int .u32 (aL (av K (ah bb 48) ss 64).e statee)),(.int .u32 (aL (av K (ah bb 48) ss 64).f statef)),(.int .u32 ((av K (ah bb 48) ss 64).g)),(.int .u32 ((av K (ah bb 48) ss 64).h))] T))∨(mz=1∧Qg=7∧(∃T,Blk W Oa #[(.int .u32 (aL (av K (ah bb 48) ss 64).a statea)),(.int .u32 (aL (av K (ah bb 48) ss 64).b stateb)),(.int .u32 (aL (av K (ah bb 48) ss 64).c statec)),(.int .u32 (aL (av K (ah bb 48) ss 64).d stated)),(.int .u32 (aL (av K (ah bb 48) ss 64).e statee)),(.int .u32 (aL (av K (ah bb 48) ss 64).f statef)),(.int .u32 (aL (av K (ah bb 48) ss 64).g stateg)),(.int .u32 ((av K (ah bb 48) ss 64).h))] T))∨(mz=0∧Qg=8∧(∃T,Blk W Oa #[(.int .u32 (aL (av K (ah bb 48) ss 64).a statea)),(.int .u32 (aL (av K (ah bb 48) ss 64).b stateb)),(.int .u32 (aL (av K (ah bb 48) ss 64).c statec)),(.int .u32 (aL (av K (ah bb 48) ss 64).d stated)),(.int .u32 (aL (av K (ah bb 48) ss 64).e statee)),(.int .u32 (aL (av K (ah bb 48) ss 64).f statef)),(.int .u32 (aL (av K (ah bb 48) ss 64).g stateg)),(.int .u32 (aL (av K (ah bb 48) ss 64).h stateh))] T))),⟨_,hp,hk,⟨_,Nr⟩,⟨_,Ns⟩,⟨_,Nt⟩,.inl ⟨rfl,rfl,⟨_,Nu⟩⟩⟩,?_⟩
  rintro _ _ Qg NU ⟨hp,hk,⟨_,Nr⟩,⟨_,Ns⟩,⟨_,Nt⟩,hU⟩
  rcases hU with⟨rfl,rfl,⟨_,Nu⟩⟩ | ⟨rfl,rfl,⟨_,Nu⟩⟩ | ⟨rfl,rfl,⟨_,Nu⟩⟩ | ⟨rfl,rfl,⟨_,Nu⟩⟩ | ⟨rfl,rfl,⟨_,Nu⟩⟩ | ⟨rfl,rfl,⟨_,Nu⟩⟩ | ⟨rfl,rfl,⟨_,Nu⟩⟩ | ⟨rfl,rfl,⟨_,Nu⟩⟩ | ⟨rfl,rfl,⟨_,Nu⟩⟩
  ·refine aU ?_
   refine⟨bXU [] [2,5] NU.drew (fun _=>False),?_⟩
   have Nu:=Blk.drew Nu
   have Nr:=Blk.drew Nr
   refine⟨by decide,⟨.inl (by decide),_,Nu.at rfl,⟨by decide,⟨.inl (by decide),_,Nr.at rfl,⟨by decide,aP Nu (by simp) fun N1 Nz=>?_⟩⟩⟩⟩⟩
   have Nu:Blk N1 Oa #[_,(.int .u32 ((av K (ah bb 48) ss 64).b)),(.int .u32 ((av K (ah bb 48) ss 64).c)),(.int .u32 ((av K (ah bb 48) ss 64).d)),(.int .u32 ((av K (ah bb 48) ss 64).e)),(.int .u32 ((av K (ah bb 48) ss 64).f)),(.int .u32 ((av K (ah bb 48) ss 64).g)),(.int .u32 ((av K (ah bb 48) ss 64).h))] _:=Nz.blk
   refine bXU.grow Nz.ch ?_
   have hp:=Ch.call (Ch.drew hp) Nz.ch (by exact fun k e=>.inr (e▸N7))
   have hk:=(hk.pu (Pu.aI _)).ch Nz.ch (fun k hx e=>(fun hx=>absurd (Og _ hx) (Nat.not_lt.2 N7)) (e▸hx))
   have Nr:=Ch.blk Nz.ch Nr (Ob)
   have Ns:=Ch.blk Nz.ch (Blk.drew Ns) (ne_gv1_gv3)
   have Nt:=Ch.blk Nz.ch (Blk.drew Nt) (ne_gv2_gv3)
   exact⟨7,by decide,hp,hk,⟨_,Nr⟩,⟨_,Ns⟩,⟨_,Nt⟩,.inr (.inl ⟨rfl,rfl,⟨_,Nu⟩⟩)⟩
  ·refine aU ?_
   refine⟨bXU [] [2,5] NU.drew (fun _=>False),?_⟩
   have Nu:=Blk.drew Nu
   have Nr:=Blk.drew Nr
   refine⟨by decide,⟨.inl (by decide),_,Nu.at rfl,⟨by decide,⟨.inl (by decide),_,Nr.at rfl,⟨by decide,aP Nu (by simp) fun N1 Nz=>?_⟩⟩⟩⟩⟩
   have Nu:Blk N1 Oa #[(.int .u32 (aL (av K (ah bb 48) ss 64).a statea)),_,(.int .u32 ((av K (ah bb 48) ss 64).c)),(.int .u32 ((av K (ah bb 48) ss 64).d)),(.int .u32 ((av K (ah bb 48) ss 64).e)),(.int .u32 ((av K (ah bb 48) ss 64).f)),(.int .u32 ((av K (ah bb 48) ss 64).g)),(.int .u32 ((av K (ah bb 48) ss 64).h))] _:=Nz.blk
   refine bXU.grow Nz.ch ?_
   have hp:=Ch.call (Ch.drew hp) Nz.ch (by exact fun k e=>.inr (e▸N7))
   have hk:=(hk.pu (Pu.aI _)).ch Nz.ch (fun k hx e=>(fun hx=>absurd (Og _ hx) (Nat.not_lt.2 N7)) (e▸hx))
   have Nr:=Ch.blk Nz.ch Nr (Ob)
   have Ns:=Ch.blk Nz.ch (Blk.drew Ns) (ne_gv1_gv3)
   have Nt:=Ch.blk Nz.ch (Blk.drew Nt) (ne_gv2_gv3)
   exact⟨6,by decide,hp,hk,⟨_,Nr⟩,⟨_,Ns⟩,⟨_,Nt⟩,.inr (.inr (.inl ⟨rfl,rfl,⟨_,Nu⟩⟩))⟩
  ·refine aU ?_
   refine⟨bXU [] [2,5] NU.drew (fun _=>False),?_⟩
   have Nu:=Blk.drew Nu
   have Nr:=Blk.drew Nr
   refine⟨by decide,⟨.inl (by decide),_,Nu.at rfl,⟨by decide,⟨.inl (by decide),_,Nr.at rfl,⟨by decide,aP Nu (by simp) fun N1 Nz=>?_⟩⟩⟩⟩⟩
   have Nu:Blk N1 Oa #[(.int .u32 (aL (av K (ah bb 48) ss 64).a statea)),(.int .u32 (aL (av K (ah bb 48) ss 64).b stateb)),_,(.int .u32 ((av K (ah bb 48) ss 64).d)),(.int .u32 ((av K (ah bb 48) ss 64).e)),(.int .u32 ((av K (ah bb 48) ss 64).f)),(.int .u32 ((av K (ah bb 48) ss 64).g)),(.int .u32 ((av K (ah bb 48) ss 64).h))] _:=Nz.blk
   refine bXU.grow Nz.ch ?_
   have hp:=Ch.call (Ch.drew hp) Nz.ch (by exact fun k e=>.inr (e▸N7))
   have hk:=(hk.pu (Pu.aI _)).ch Nz.ch (fun k hx e=>(fun hx=>absurd (Og _ hx) (Nat.not_lt.2 N7)) (e▸hx))
   have Nr:=Ch.blk Nz.ch Nr (Ob)
   have Ns:=Ch.blk Nz.ch (Blk.drew Ns) (ne_gv1_gv3)
   have Nt:=Ch.blk Nz.ch (Blk.drew Nt) (ne_gv2_gv3)
   exact⟨5,by decide,hp,hk,⟨_,Nr⟩,⟨_,Ns⟩,⟨_,Nt⟩,.inr (.inr (.inr (.inl ⟨rfl,rfl,⟨_,Nu⟩⟩)))⟩
  ·refine aU ?_
   refine⟨bXU [] [2,5] NU.drew (fun _=>False),?_⟩
   have Nu:=Blk.drew Nu
   have Nr:=Blk.drew Nr
   refine⟨by decide,⟨.inl (by decide),_,Nu.at rfl,⟨by decide,⟨.inl (by decide),_,Nr.at rfl,⟨by decide,aP Nu (by simp) fun N1 Nz=>?_⟩⟩⟩⟩⟩
   have Nu:Blk N1 Oa #[(.int .u32 (aL (av K (ah bb 48) ss 64).a statea)),(.int .u32 (aL (av K (ah bb 48) ss 64).b stateb)),(.int .u32 (aL (av K (ah bb 48) ss 64).c statec)),_,(.int .u32 ((av K (ah bb 48) ss 64).e)),(.int .u32 ((av K (ah bb 48) ss 64).f)),(.int .u32 ((av K (ah bb 48) ss 64).g)),(.int .u32 ((av K (ah bb 48) ss 64).h))] _:=Nz.blk
   refine bXU.grow Nz.ch ?_
   have hp:=Ch.call (Ch.drew hp) Nz.ch (by exact fun k e=>.inr (e▸N7))
   have hk:=(hk.pu (Pu.aI _)).ch Nz.ch (fun k hx e=>(fun hx=>absurd (Og _ hx) (Nat.not_lt.2 N7)) (e▸hx))
   have Nr:=Ch.blk Nz.ch Nr (Ob)
   have Ns:=Ch.blk Nz.ch (Blk.drew Ns) (ne_gv1_gv3)
   have Nt:=Ch.blk Nz.ch (Blk.drew Nt) (ne_gv2_gv3)
   exact⟨4,by decide,hp,hk,⟨_,Nr⟩,⟨_,Ns⟩,⟨_,Nt⟩,.inr (.inr (.inr (.inr (.inl ⟨rfl,rfl,⟨_,Nu⟩⟩))))⟩
  ·refine aU ?_
   refine⟨bXU [] [2,5] NU.drew (fun _=>False),?_⟩
   have Nu:=Blk.drew Nu
   have Nr:=Blk.drew Nr
   refine⟨by decide,⟨.inl (by decide),_,Nu.at rfl,⟨by decide,⟨.inl (by decide),_,Nr.at rfl,⟨by decide,aP Nu (by simp) fun N1 Nz=>?_⟩⟩⟩⟩⟩
   have Nu:Blk N1 Oa #[(.int .u32 (aL (av K (ah bb 48) ss 64).a statea)),(.int .u32 (aL (av K (ah bb 48) ss 64).b stateb)),(.int .u32 (aL (av K (ah bb 48) ss 64).c statec)),(.int .u32 (aL (av K (ah bb 48) ss 64).d stated)),_,(.int .u32 ((av K (ah bb 48) ss 64).f)),(.int .u32 ((av K (ah bb 48) ss 64).g)),(.int .u32 ((av K (ah bb 48) ss 64).h))] _:=Nz.blk
   refine bXU.grow Nz.ch ?_
   have hp:=Ch.call (Ch.drew hp) Nz.ch (by exact fun k e=>.inr (e▸N7))
   have hk:=(hk.pu (Pu.aI _)).ch Nz.ch (fun k hx e=>(fun hx=>absurd (Og _ hx) (Nat.not_lt.2 N7)) (e▸hx))
   have Nr:=Ch.blk Nz.ch Nr (Ob)
   have Ns:=Ch.blk Nz.ch (Blk.drew Ns) (ne_gv1_gv3)
   have Nt:=Ch.blk Nz.ch (Blk.drew Nt) (ne_gv2_gv3)
   exact⟨3,by decide,hp,hk,⟨_,Nr⟩,⟨_,Ns⟩,⟨_,Nt⟩,.inr (.inr (.inr (.inr (.inr (.inl ⟨rfl,rfl,⟨_,Nu⟩⟩)))))⟩
  ·refine aU ?_
   refine⟨bXU [] [2,5] NU.drew (fun _=>False),?_⟩
   have Nu:=Blk.drew Nu
   have Nr:=Blk.drew Nr
   refine⟨by decide,⟨.inl (by decide),_,Nu.at rfl,⟨by decide,⟨.inl (by decide),_,Nr.at rfl,⟨by decide,aP Nu (by simp) fun N1 Nz=>?_⟩⟩⟩⟩⟩
   have Nu:Blk N1 Oa #[(.int .u32 (aL (av K (ah bb 48) ss 64).a statea)),(.int .u32 (aL (av K (ah bb 48) ss 64).b stateb)),(.int .u32 (aL (av K (ah bb 48) ss 64).c statec)),(.int .u32 (aL (av K (ah bb 48) ss 64).d stated)),(.int .u32 (aL (av K (ah bb 48) ss 64).e statee)),_,(.int .u32 ((av K (ah bb 48) ss 64).g)),(.int .u32 ((av K (ah bb 48) ss 64).h))] _:=Nz.blk
   refine bXU.grow Nz.ch ?_
   have hp:=Ch.call (Ch.drew hp) Nz.ch (by exact fun k e=>.inr (e▸N7))
   have hk:=(hk.pu (Pu.aI _)).ch Nz.ch (fun k hx e=>(fun hx=>absurd (Og _ hx) (Nat.not_lt.2 N7)) (e▸hx))
   have Nr:=Ch.blk Nz.ch Nr (Ob)
   have Ns:=Ch.blk Nz.ch (Blk.drew Ns) (ne_gv1_gv3)
   have Nt:=Ch.blk Nz.ch (Blk.drew Nt) (ne_gv2_gv3)
   exact⟨2,by decide,hp,hk,⟨_,Nr⟩,⟨_,Ns⟩,⟨_,Nt⟩,.inr (.inr (.inr (.inr (.inr (.inr (.inl ⟨rfl,rfl,⟨_,Nu⟩⟩))))))⟩
  ·refine aU ?_
   refine⟨bXU [] [2,5] NU.drew (fun _=>False),?_⟩
   have Nu:=Blk.drew Nu
   have Nr:=Blk.drew Nr
   refine⟨by decide,⟨.inl (by decide),_,Nu.at rfl,⟨by decide,⟨.inl (by decide),_,Nr.at rfl,⟨by decide,aP Nu (by simp) fun N1 Nz=>?_⟩⟩⟩⟩⟩
   have Nu:Blk N1 Oa #[(.int .u32 (aL (av K (ah bb 48) ss 64).a statea)),(.int .u32 (aL (av K (ah bb 48) ss 64).b stateb)),(.int .u32 (aL (av K (ah bb 48) ss 64).c statec)),(.int .u32 (aL (av K (ah bb 48) ss 64).d stated)),(.int .u32 (aL (av K (ah bb 48) ss 64).e statee)),(.int .u32 (aL (av K (ah bb 48) ss 64).f statef)),_,(.int .u32 ((av K (ah bb 48) ss 64).h))] _:=Nz.blk
   refine bXU.grow Nz.ch ?_
   have hp:=Ch.call (Ch.drew hp) Nz.ch (by exact fun k e=>.inr (e▸N7))
   have hk:=(hk.pu (Pu.aI _)).ch Nz.ch (fun k hx e=>(fun hx=>absurd (Og _ hx) (Nat.not_lt.2 N7)) (e▸hx))
   have Nr:=Ch.blk Nz.ch Nr (Ob)
   have Ns:=Ch.blk Nz.ch (Blk.drew Ns) (ne_gv1_gv3)
   have Nt:=Ch.blk Nz.ch (Blk.drew Nt) (ne_gv2_gv3)
   exact⟨1,by decide,hp,hk,⟨_,Nr⟩,⟨_,Ns⟩,⟨_,Nt⟩,.inr (.inr (.inr (.inr (.inr (.inr (.inr (.inl ⟨rfl,rfl,⟨_,Nu⟩⟩)))))))⟩
  ·refine aU ?_
   refine⟨bXU [] [2,5] NU.drew (fun _=>False),?_⟩
   have Nu:=Blk.drew Nu
   have Nr:=Blk.drew Nr
   refine⟨by decide,⟨.inl (by decide),_,Nu.at rfl,⟨by decide,⟨.inl (by decide),_,Nr.at rfl,⟨by decide,aP Nu (by simp) fun N1 Nz=>?_⟩⟩⟩⟩⟩
   have Nu:Blk N1 Oa #[(.int .u32 (aL (av K (ah bb 48) ss 64).a statea)),(.int .u32 (aL (av K (ah bb 48) ss 64).b stateb)),(.int .u32 (aL (av K (ah bb 48) ss 64).c statec)),(.int .u32 (aL (av K (ah bb 48) ss 64).d stated)),(.int .u32 (aL (av K (ah bb 48) ss 64).e statee)),(.int .u32 (aL (av K (ah bb 48) ss 64).f statef)),(.int .u32 (aL (av K (ah bb 48) ss 64).g stateg)),_] _:=Nz.blk
   refine bXU.grow Nz.ch ?_
   have hp:=Ch.call (Ch.drew hp) Nz.ch (by exact fun k e=>.inr (e▸N7))
   have hk:=(hk.pu (Pu.aI _)).ch Nz.ch (fun k hx e=>(fun hx=>absurd (Og _ hx) (Nat.not_lt.2 N7)) (e▸hx))
   have Nr:=Ch.blk Nz.ch Nr (Ob)
   have Ns:=Ch.blk Nz.ch (Blk.drew Ns) (ne_gv1_gv3)
   have Nt:=Ch.blk Nz.ch (Blk.drew Nt) (ne_gv2_gv3)
   exact⟨0,by decide,hp,hk,⟨_,Nr⟩,⟨_,Ns⟩,⟨_,Nt⟩,.inr (.inr (.inr (.inr (.inr (.inr (.inr (.inr (⟨rfl,rfl,⟨_,Nu⟩⟩))))))))⟩
  ·refine gM ⟨_,_,_,_,_,_,_,_,⟨Nu.at rfl,Nu.at rfl,Nu.at rfl,Nu.at rfl,Nu.at rfl,Nu.at rfl,Nu.at rfl,Nu.at rfl⟩,bH Nt rfl fun N1 Nz=>?_⟩
   have Nt:=Nz.blk
   refine⟨_,_,_,_,_,_,_,_,⟨Nt.at rfl,Nt.at rfl,Nt.at rfl,Nt.at rfl,Nt.at rfl,Nt.at rfl,Nt.at rfl,Nt.at rfl⟩,?_⟩
   have hp:=Ch.call hp Nz.ch (by exact fun k e=>.inr (e▸NN))
   exact⟨congrArg Value.agg (za (congrArg (Value.int .u32) (by rw [← Pa,← OV];subst OV;rfl)) (congrArg (Value.int .u32) (by rw [← Pa,← OV];subst OV;rfl)) (congrArg (Value.int .u32) (by rw [← Pa,← OV];subst OV;rfl)) (congrArg (Value.int .u32) (by rw [← Pa,← OV];subst OV;rfl)) (congrArg (Value.int .u32) (by rw [← Pa,← OV];subst OV;rfl)) (congrArg (Value.int .u32) (by rw [← Pa,← OV];subst OV;rfl)) (congrArg (Value.int .u32) (by rw [← Pa,← OV];subst OV;rfl)) (congrArg (Value.int .u32) (by rw [← Pa,← OV];subst OV;rfl))),hp⟩
theorem GP {K:List Int} {w:World}(hk:iP w 1 K)(statea:Int)(stateb:Int)(statec:Int)(stated:Int)(statee:Int)(statef:Int)(stateg:Int)(stateh:Int)(blocka:Int)(blockb:Int)(blockc:Int)(blockd:Int)(blocke:Int)(blockf:Int)(blockg:Int)(blockh:Int)(blocki:Int)(blockj:Int)(blockk:Int)(blockl:Int)(blockm:Int)(blockn:Int)(blocko:Int)(blockp:Int):
 Calls prog 186 #[(.agg #[(.int .u32 statea),(.int .u32 stateb),(.int .u32 statec),(.int .u32 stated),(.int .u32 statee),(.int .u32 statef),(.int .u32 stateg),(.int .u32 stateh)]),(.agg #[(.int .u32 blocka),(.int .u32 blockb),(.int .u32 blockc),(.int .u32 blockd),(.int .u32 blocke),(.int .u32 blockf),(.int .u32 blockg),(.int .u32 blockh),(.int .u32 blocki),(.int .u32 blockj),(.int .u32 blockk),(.int .u32 blockl),(.int .u32 blockm),(.int .u32 blockn),(.int .u32 blocko),(.int .u32 blockp)])] w fun e w'=>∃v,e= .returned v∧v= .agg #[(.int .u32 ((dV K (S8.mk statea stateb statec stated statee statef stateg stateh) [blocka,blockb,blockc,blockd,blocke,blockf,blockg,blockh,blocki,blockj,blockk,blockl,blockm,blockn,blocko,blockp]).a)),(.int .u32 ((dV K (S8.mk statea stateb statec stated statee statef stateg stateh) [blocka,blockb,blockc,blockd,blocke,blockf,blockg,blockh,blocki,blockj,blockk,blockl,blockm,blockn,blocko,blockp]).b)),(.int .u32 ((dV K (S8.mk statea stateb statec stated statee statef stateg stateh) [blocka,blockb,blockc,blockd,blocke,blockf,blockg,blockh,blocki,blockj,blockk,blockl,blockm,blockn,blocko,blockp]).c)),(.int .u32 ((dV K (S8.mk statea stateb statec stated statee statef stateg stateh) [blocka,blockb,blockc,blockd,blocke,blockf,blockg,blockh,blocki,blockj,blockk,blockl,blockm,blockn,blocko,blockp]).d)),(.int .u32 ((dV K (S8.mk statea stateb statec stated statee statef stateg stateh) [blocka,blockb,blockc,blockd,blocke,blockf,blockg,blockh,blocki,blockj,blockk,blockl,blockm,blockn,blocko,blockp]).e)),(.int .u32 ((dV K (S8.mk statea stateb statec stated statee statef stateg stateh) [blocka,blockb,blockc,blockd,blocke,blockf,blockg,blockh,blocki,blockj,blockk,blockl,blockm,blockn,blocko,blockp]).f)),(.int .u32 ((dV K (S8.mk statea stateb statec stated statee statef stateg stateh) [blocka,blockb,blockc,blockd,blocke,blockf,blockg,blockh,blocki,blockj,blockk,blockl,blockm,blockn,blocko,blockp]).g)),(.int .u32 ((dV K (S8.mk statea stateb statec stated statee statef stateg stateh) [blocka,blockb,blockc,blockd,blocke,blockf,blockg,blockh,blocki,blockj,blockk,blockl,blockm,blockn,blocko,blockp]).h))]∧Pu w w':=by
 refine tB _ _ _ _ _ _ _ _ _ _ _ _ _ _ _ _ _ _ _ _ _ _ _ _ ?_
 obtain⟨bb,Pa⟩:∃bb,bb= [blocka,blockb,blockc,blockd,blocke,blockf,blockg,blockh,blocki,blockj,blockk,blockl,blockm,blockn,blocko,blockp]:=⟨_,rfl⟩
 have hB:bb.length=16:=by rw [Pa];rfl
 obtain⟨ss,OV⟩:∃ss,ss=(S8.mk statea stateb statec stated statee statef stateg stateh):=⟨_,rfl⟩
 have hp:=Ch.refl (fun _=>False) w
 have Og:=hk.lt
 refine mkd fun gv wv NC=>?_
 have Nr:=NC.blk
 refine mkd fun NB Nw NJ=>?_
 have Ns:=NJ.blk
 have hp:=Ch.made (Ch.made hp NC) NJ
 have Nr:=Made.old NJ Nr
 refine mkd fun NZ Ny NM=>?_
 have NN:=NM.lo hp
 have NY:=NM.ne Nr
 have ne_gv1_gv2:=NM.ne Ns
 have Nt:=NM.blk
 have hp:=Ch.made hp NM
 have Nr:=Made.old NM Nr
 have Ns:=Made.old NM Ns
 refine mkd fun Oa NF Oe=>?_
 have N7:=Oe.lo hp
 have Ob:=Oe.ne Nr
 have ne_gv1_gv3:=Oe.ne Ns
 have ne_gv2_gv3:=Oe.ne Nt
 have Nu:Blk NF Oa (aY (List.replicate 64 0)) _:=Oe.blk.cast (dM _ _)
 rintro _ rfl
 have hp:=Ch.made hp Oe
 have hk:=(((hk.pu NC.pu).pu NJ.pu).pu NM.pu).pu Oe.pu
 have Nr:=Made.old Oe Nr
 have Ns:=Made.old Oe Ns
 have Nt:=Made.old Oe Nt
 refine⟨fun mz t1 W=>mz=(64 - t1).toNat∧(0≤t1∧t1≤64)∧Ch (fun _=>False) w W∧iP W 1 K∧Blk W gv #[(.int .u32 statea),(.int .u32 stateb),(.int .u32 statec),(.int .u32 stated),(.int .u32 statee),(.int .u32 statef),(.int .u32 stateg),(.int .u32 stateh)] 66∧Blk W NB #[(.int .u32 blocka),(.int .u32 blockb),(.int .u32 blockc),(.int .u32 blockd),(.int .u32 blocke),(.int .u32 blockf),(.int .u32 blockg),(.int .u32 blockh),(.int .u32 blocki),(.int .u32 blockj),(.int .u32 blockk),(.int .u32 blockl),(.int .u32 blockm),(.int .u32 blockn),(.int .u32 blocko),(.int .u32 blockp)] 262∧Blk W NZ #[(.int .u32 0),(.int .u32 0),(.int .u32 0),(.int .u32 0),(.int .u32 0),(.int .u32 0),(.int .u32 0),(.int .u32 0)] 66∧Blk W Oa (aY (gl bb t1)) 287,⟨_,rfl,(by omega),hp,hk,Nr,Ns,Nt,Nu.cast (congrArg aY (by simp [gl]))⟩,?_⟩
 rintro _ _ t1 NI ⟨rfl,h0,hp,hk,Nr,Ns,Nt,Nu⟩
 refine ar (fun c1=>?_) (fun c1=>?_)
 ·refine ar (fun c2=>?_) (fun c2=>?_)
  ·refine⟨by omega,?_⟩
   have Ns:Blk NI NB (aY [blocka,blockb,blockc,blockd,blocke,blockf,blockg,blockh,blocki,blockj,blockk,blockl,blockm,blockn,blocko,blockp]) _:=Ns.cast (by rfl)
   refine⟨_,Ns.im (i:=t1) (by(simp;omega)),⟨by omega,kq Nu (by(rw [gz hB (by omega)];omega)) fun NW Oq=>?_⟩⟩
   have Nu:=Oq.blk
   rintro _ rfl
   have hp:=Ch.call hp Oq.ch (by exact fun k e=>.inr (e▸N7))
   have hk:=hk.ch Oq.ch (fun k hx e=>(fun hx=>absurd (Og _ hx) (Nat.not_lt.2 N7)) (e▸hx))
   have Nr:=Ch.blk Oq.ch Nr (Ob)
   have Ns:=Ch.blk Oq.ch Ns (ne_gv1_gv3)
   have Nt:=Ch.blk Oq.ch Nt (ne_gv2_gv3)
   exact⟨_,by rw [IntKind.wrap_i64];omega,rfl,by rw [IntKind.wrap_i64];omega,hp,hk,Nr,Ns,Nt,Nu.cast (congrArg aY (by(rw [← Pa];exact Bg hB (by omega))))⟩
  ·refine⟨by(simp only [IntKind.wrap_i64];omega),⟨_,Nu.im (i:=(i64.wrap (t1 - 15))) (by(rw [gz hB (by omega)];simp only [IntKind.wrap_i64];omega)),⟨by(simp only [IntKind.wrap_i64];omega),⟨_,Nu.im (i:=(i64.wrap (t1 - 2))) (by(rw [gz hB (by omega)];simp only [IntKind.wrap_i64];omega)),?_⟩⟩⟩⟩
   refine⟨bXU [12,26] [] NI.drew (fun _=>False),?_⟩
   have Nu:=Blk.drew Nu
   refine⟨by(simp only [IntKind.wrap_i64];omega),⟨.inr ⟨by decide,bX.ld Nu (fun h=>h) _⟩,_,Nu.im (i:=(i64.wrap (t1 - 7))) (by(rw [gz hB (by omega)];simp only [IntKind.wrap_i64];omega)),⟨by(simp only [IntKind.wrap_i64];omega),⟨.inr ⟨by decide,bX.ld Nu (fun h=>h) _⟩,_,Nu.im (i:=(i64.wrap (t1 - 16))) (by(rw [gz hB (by omega)];simp only [IntKind.wrap_i64];omega)),?_⟩⟩⟩⟩
   refine Calls.mono (gO _ _ (by omega)) ?_
   rintro e NW ⟨_,rfl,rfl,Od⟩
   refine⟨_,rfl,?_⟩
   refine bXU.du Od (by decide) ?_
   refine Calls.mono (gO _ _ (by omega)) ?_
   rintro e NT ⟨_,rfl,rfl,N9⟩
   refine⟨_,rfl,?_⟩
   refine bXU.du N9 (by decide) ?_
   refine Calls.mono (gO _ _ (by omega)) ?_
   rintro e NU ⟨_,rfl,rfl,NL⟩
   refine⟨_,rfl,?_⟩
   refine bXU.du NL (by decide) ?_
   refine Calls.mono (gO _ _ (by omega)) ?_
   rintro e N1 ⟨_,rfl,rfl,NQ⟩
   refine⟨_,rfl,?_⟩
   refine bXU.du NQ (by decide) ?_
   have Nu:=Pu.blk NQ (Pu.blk NL (Pu.blk N9 (Pu.blk Od Nu)))
   refine⟨by omega,kq Nu (by(rw [gz hB (by omega)];omega)) fun Oy NA=>?_⟩
   have Nu:=NA.blk
   refine bXU.grow NA.ch ?_
   rintro _ rfl
   have hp:=Ch.call (Ch.pu (Ch.pu (Ch.pu (Ch.pu (Ch.drew hp) Od) N9) NL) NQ) NA.ch (by exact fun k e=>.inr (e▸N7))
   have hk:=(((((hk.pu (Pu.aI _)).pu Od).pu N9).pu NL).pu NQ).ch NA.ch (fun k hx e=>(fun hx=>absurd (Og _ hx) (Nat.not_lt.2 N7)) (e▸hx))
   have Nr:=Ch.blk NA.ch (Pu.blk NQ (Pu.blk NL (Pu.blk N9 (Pu.blk Od (Blk.drew Nr))))) (Ob)
   have Ns:=Ch.blk NA.ch (Pu.blk NQ (Pu.blk NL (Pu.blk N9 (Pu.blk Od (Blk.drew Ns))))) (ne_gv1_gv3)
   have Nt:=Ch.blk NA.ch (Pu.blk NQ (Pu.blk NL (Pu.blk N9 (Pu.blk Od (Blk.drew Nt))))) (ne_gv2_gv3)
   exact⟨_,by rw [IntKind.wrap_i64];omega,rfl,by rw [IntKind.wrap_i64];omega,hp,hk,Nr,Ns,Nt,Nu.cast (congrArg aY (by(rw [yb (by omega),← Bf];rfl)))⟩
 ·rw [Bh c1 h0.2]at Nu
  refine⟨_,_,_,_,_,_,_,_,⟨Nr.at rfl,Nr.at rfl,Nr.at rfl,Nr.at rfl,Nr.at rfl,Nr.at rfl,Nr.at rfl,Nr.at rfl⟩,?_⟩
  refine mkd fun Ox NW NG=>?_
  have N0:=NG.lo hp
  have NV:=NG.ne Nr
  have ne_gv1_gv5:=NG.ne Ns
  have ne_gv2_gv5:=NG.ne Nt
  have ne_gv3_gv5:=NG.ne Nu
  have Nv:=NG.blk
  refine bH Nv rfl fun NT Of=>?_
  have Nv:=Of.blk
  rintro _ rfl
  have hp:=Ch.call (Ch.made hp NG) Of.ch (by exact fun k e=>.inr (e▸N0))
  have hk:=(hk.pu NG.pu).ch Of.ch (fun k hx e=>(fun hx=>absurd (Og _ hx) (Nat.not_lt.2 N0)) (e▸hx))
  have Nr:=Ch.blk Of.ch (Made.old NG Nr) (NV)
  have Ns:=Ch.blk Of.ch (Made.old NG Ns) (ne_gv1_gv5)
  have Nt:=Ch.blk Of.ch (Made.old NG Nt) (ne_gv2_gv5)
  have Nu:=Ch.blk Of.ch (Made.old NG Nu) (ne_gv3_gv5)
  refine⟨fun mz t3 W=>mz=(64 - t3).toNat∧(0≤t3∧t3≤64)∧Ch (fun _=>False) w W∧iP W 1 K∧Blk W gv #[(.int .u32 statea),(.int .u32 stateb),(.int .u32 statec),(.int .u32 stated),(.int .u32 statee),(.int .u32 statef),(.int .u32 stateg),(.int .u32 stateh)] 66∧Blk W NB #[(.int .u32 blocka),(.int .u32 blockb),(.int .u32 blockc),(.int .u32 blockd),(.int .u32 blocke),(.int .u32 blockf),(.int .u32 blockg),(.int .u32 blockh),(.int .u32 blocki),(.int .u32 blockj),(.int .u32 blockk),(.int .u32 blockl),(.int .u32 blockm),(.int .u32 blockn),(.int .u32 blocko),(.int .u32 blockp)] 262∧Blk W NZ #[(.int .u32 0),(.int .u32 0),(.int .u32 0),(.int .u32 0),(.int .u32 0),(.int .u32 0),(.int .u32 0),(.int .u32 0)] 66∧Blk W Oa (aY (ah bb 48)) 287∧Blk W Ox #[(.int .u32 ((av K (ah bb 48) ss t3.toNat).a)),(.int .u32 ((av K (ah bb 48) ss t3.toNat).b)),(.int .u32 ((av K (ah bb 48) ss t3.toNat).c)),(.int .u32 ((av K (ah bb 48) ss t3.toNat).d)),(.int .u32 ((av K (ah bb 48) ss t3.toNat).e)),(.int .u32 ((av K (ah bb 48) ss t3.toNat).f)),(.int .u32 ((av K (ah bb 48) ss t3.toNat).g)),(.int .u32 ((av K (ah bb 48) ss t3.toNat).h))] 66,⟨_,rfl,(by omega),hp,hk,Nr,Ns,Nt,Nu,Nv.cast (za (congrArg (Value.int .u32) (by subst OV;rfl)) (congrArg (Value.int .u32) (by subst OV;rfl)) (congrArg (Value.int .u32) (by subst OV;rfl)) (congrArg (Value.int .u32) (by subst OV;rfl)) (congrArg (Value.int .u32) (by subst OV;rfl)) (congrArg (Value.int .u32) (by subst OV;rfl)) (congrArg (Value.int .u32) (by subst OV;rfl)) (congrArg (Value.int .u32) (by subst OV;rfl)))⟩,?_⟩
  rintro _ _ t3 NU ⟨rfl,h0,hp,hk,Nr,Ns,Nt,Nu,Nv⟩
  refine ar (fun c3=>?_) (fun c3=>?_)
  ·refine⟨by decide,⟨_,Nv.at rfl,⟨by decide,⟨_,Nv.at rfl,?_⟩⟩⟩⟩
   refine⟨bXU [1,13,18,24,28] [] NU.drew (fun _=>False),?_⟩
   have Nv:=Blk.drew Nv
   have hk:=hk.pu (Pu.aI _)
   obtain⟨_,drow_hk⟩:=hk.blk
   have Nu:=Blk.drew Nu
   refine⟨by decide,⟨.inr ⟨by decide,bX.ld Nv (fun h=>h) _⟩,_,Nv.at rfl,⟨by decide,⟨.inr ⟨by decide,bX.ld Nv (fun h=>h) _⟩,_,Nv.at rfl,⟨by decide,⟨.inr ⟨by decide,bX.ld Nv (fun h=>h) _⟩,_,Nv.at rfl,⟨by omega,⟨.inr ⟨by decide,bX.ld drow_hk (fun h=>h) _⟩,_,drow_hk.im (i:=t3) (by(have h9:=hk.len;omega)),⟨by omega,⟨.inr ⟨by decide,bX.ld Nu (fun h=>h) _⟩,_,Nu.im (i:=t3) (by(rw [cF hB];omega)),?_⟩⟩⟩⟩⟩⟩⟩⟩⟩⟩
   refine Calls.mono (gO _ _ (by omega)) ?_
   rintro e N1 ⟨_,rfl,rfl,NQ⟩
   refine⟨_,rfl,?_⟩
   refine bXU.du NQ (by decide) ?_
   refine Calls.mono (gO _ _ (by omega)) ?_
   rintro e Oy ⟨_,rfl,rfl,OA⟩
   refine⟨_,rfl,?_⟩
   refine bXU.du OA (by decide) ?_
   refine Calls.mono (gO _ _ (by omega)) ?_
   rintro e PL ⟨_,rfl,rfl,OD⟩
   refine⟨_,rfl,?_⟩
   refine bXU.du OD (by decide) ?_
   rintro _ rfl
   refine⟨bXU [10,14,18,20] [] PL.drew (fun _=>False),?_⟩
   have Nv:=Blk.drew (Pu.blk OD (Pu.blk OA (Pu.blk NQ Nv)))
   refine⟨by decide,⟨.inr ⟨by decide,bX.ld Nv (fun h=>h) _⟩,_,Nv.at rfl,⟨by decide,⟨.inr ⟨by decide,bX.ld Nv (fun h=>h) _⟩,_,Nv.at rfl,⟨by decide,⟨.inr ⟨by decide,bX.ld Nv (fun h=>h) _⟩,_,Nv.at rfl,⟨by decide,⟨.inr ⟨by decide,bX.ld Nv (fun h=>h) _⟩,_,Nv.at rfl,?_⟩⟩⟩⟩⟩⟩⟩⟩
   refine Calls.mono (gO _ _ (by omega)) ?_
   rintro e Re ⟨_,rfl,rfl,OC⟩
   refine⟨_,rfl,?_⟩
   refine bXU.du OC (by decide) ?_
   refine Calls.mono (gO _ _ (by omega)) ?_
   rintro e PX ⟨_,rfl,rfl,OB⟩
   refine⟨_,rfl,?_⟩
   refine bXU.du OB (by decide) ?_
   refine Calls.mono (gO _ _ (by omega)) ?_
   rintro e Qm ⟨_,rfl,rfl,PM⟩
   refine⟨_,rfl,?_⟩
   refine bXU.du PM (by decide) ?_
   rintro _ rfl
   have Nv:=Pu.blk PM (Pu.blk OB (Pu.blk OC Nv))
   refine⟨by decide,⟨_,Nv.at rfl,⟨by decide,⟨_,Nv.at rfl,⟨by decide,⟨_,Nv.at rfl,⟨by decide,⟨_,Nv.at rfl,⟨by decide,⟨_,Nv.at rfl,⟨by decide,⟨_,Nv.at rfl,⟨by decide,⟨_,Nv.at rfl,bH Nv rfl fun abo PY=>?_⟩⟩⟩⟩⟩⟩⟩⟩⟩⟩⟩⟩⟩⟩
   have Nv:=PY.blk
   rintro _ rfl
   have hp:=Ch.call (Ch.pu (Ch.pu (Ch.pu (Ch.drew (Ch.pu (Ch.pu (Ch.pu (Ch.drew hp) NQ) OA) OD)) OC) OB) PM) PY.ch (by exact fun k e=>.inr (e▸N0))
   have hk:=(((((((hk.pu NQ).pu OA).pu OD).pu (Pu.aI _)).pu OC).pu OB).pu PM).ch PY.ch (fun k hx e=>(fun hx=>absurd (Og _ hx) (Nat.not_lt.2 N0)) (e▸hx))
   have Nr:=Ch.blk PY.ch (Pu.blk PM (Pu.blk OB (Pu.blk OC (Blk.drew (Pu.blk OD (Pu.blk OA (Pu.blk NQ (Blk.drew Nr)))))))) (NV)
   have Ns:=Ch.blk PY.ch (Pu.blk PM (Pu.blk OB (Pu.blk OC (Blk.drew (Pu.blk OD (Pu.blk OA (Pu.blk NQ (Blk.drew Ns)))))))) (ne_gv1_gv5)
   have Nt:=Ch.blk PY.ch (Pu.blk PM (Pu.blk OB (Pu.blk OC (Blk.drew (Pu.blk OD (Pu.blk OA (Pu.blk NQ (Blk.drew Nt)))))))) (ne_gv2_gv5)
   have Nu:=Ch.blk PY.ch (Pu.blk PM (Pu.blk OB (Pu.blk OC (Blk.drew (Pu.blk OD (Pu.blk OA (Pu.blk NQ Nu))))))) (ne_gv3_gv5)
   exact⟨_,by rw [IntKind.wrap_i64];omega,rfl,by rw [IntKind.wrap_i64];omega,hp,hk,Nr,Ns,Nt,Nu,Nv.cast (za (congrArg (Value.int .u32) (by rw [cy (by omega),Pa];rfl)) (congrArg (Value.int .u32) (by rw [cy (by omega),Pa];rfl)) (congrArg (Value.int .u32) (by rw [cy (by omega),Pa];rfl)) (congrArg (Value.int .u32) (by rw [cy (by omega),Pa];rfl)) (congrArg (Value.int .u32) (by rw [cy (by omega),Pa];rfl)) (congrArg (Value.int .u32) (by rw [cy (by omega),Pa];rfl)) (congrArg (Value.int .u32) (by rw [cy (by omega),Pa];rfl)) (congrArg (Value.int .u32) (by rw [cy (by omega),Pa];rfl)))⟩
  ·have e64:t3.toNat=64:=by omega
   rw [e64]at Nv
   rintro _ rfl
   refine⟨fun mz i1 W=>Ch (fun _=>False) w W∧iP W 1 K∧(∃T,Blk W gv #[(.int .u32 statea),(.int .u32 stateb),(.int .u32 statec),(.int .u32 stated),(.int .u32 statee),(.int .u32 statef),(.int .u32 stateg),(.int .u32 stateh)] T)∧(∃T,Blk W NB #[(.int .u32 blocka),(.int .u32 blockb),(.int .u32 blockc),(.int .u32 blockd),(.int .u32 blocke),(.int .u32 blockf),(.int .u32 blockg),(.int .u32 blockh),(.int .u32 blocki),(.int .u32 blockj),(.int .u32 blockk),(.int .u32 blockl),(.int .u32 blockm),(.int .u32 blockn),(.int .u32 blocko),(.int .u32 blockp)] T)∧(∃T,Blk W NZ #[(.int .u32 0),(.int .u32 0),(.int .u32 0),(.int .u32 0),(.int .u32 0),(.int .u32 0),(.int .u32 0),(.int .u32 0)] T)∧(∃T,Blk W Oa (aY (ah bb 48)) T)∧((mz=8∧i1=0∧(∃T,Blk W Ox #[(.int .u32 ((av K (ah bb 48) ss 64).a)),(.int .u32 ((av K (ah bb 48) ss 64).b)),(.int .u32 ((av K (ah bb 48) ss 64).c)),(.int .u32 ((av K (ah bb 48) ss 64).d)),(.int .u32 ((av K (ah bb 48) ss 64).e)),(.int .u32 ((av K (ah bb 48) ss 64).f)),(.int .u32 ((av K (ah bb 48) ss 64).g)),(.int .u32 ((av K (ah bb 48) ss 64).h))] T))∨(mz=7∧i1=1∧(∃T,Blk W Ox #[(.int .u32 (aL (av K (ah bb 48) ss 64).a statea)),(.int .u32 ((av K (ah bb 48) ss 64).b)),(.int .u32 ((av K (ah bb 48) ss 64).c)),(.int .u32 ((av K (ah bb 48) ss 64).d)),(.int .u32 ((av K (ah bb 48) ss 64).e)),(.int .u32 ((av K (ah bb 48) ss 64).f)),(.int .u32 ((av K (ah bb 48) ss 64).g)),(.int .u32 ((av K (ah bb 48) ss 64).h))] T))∨(mz=6∧i1=2∧(∃T,Blk W Ox #[(.int .u32 (aL (av K (ah bb 48) ss 64).a statea)),(.int .u32 (aL (av K (ah bb 48) ss 64).b stateb)),(.int .u32 ((av K (ah bb 48) ss 64).c)),(.int .u32 ((av K (ah bb 48) ss 64).d)),(.int .u32 ((av K (ah bb 48) ss 64).e)),(.int .u32 ((av K (ah bb 48) ss 64).f)),(.int .u32 ((av K (ah bb 48) ss 64).g)),(.int .u32 ((av K (ah bb 48) ss 64).h))] T))∨(mz=5∧i1=3∧(∃T,Blk W Ox #[(.int .u32 (aL (av K (ah bb 48) ss 64).a statea)),(.int .u32 (aL (av K (ah bb 48) ss 64).b stateb)),(.int .u32 (aL (av K (ah bb 48) ss 64).c statec)),(.int .u32 ((av K (ah bb 48) ss 64).d)),(.int .u32 ((av K (ah bb 48) ss 64).e)),(.int .u32 ((av K (ah bb 48) ss 64).f)),(.int .u32 ((av K (ah bb 48) ss 64).g)),(.int .u32 ((av K (ah bb 48) ss 64).h))] T))∨(mz=4∧i1=4∧(∃T,Blk W Ox #[(.int .u32 (aL (av K (ah bb 48) ss 64).a statea)),(.int .u32 (aL (av K (ah bb 48) ss 64).b stateb)),(.int .u32 (aL (av K (ah bb 48) ss 64).c statec)),(.int .u32 (aL (av K (ah bb 48) ss 64).d stated)),(.int .u32 ((av K (ah bb 48) ss 64).e)),(.int .u32 ((av K (ah bb 48) ss 64).f)),(.int .u32 ((av K (ah bb 48) ss 64).g)),(.int .u32 ((av K (ah bb 48) ss 64).h))] T))∨(mz=3∧i1=5∧(∃T,Blk W Ox #[(.int .u32 (aL (av K (ah bb 48) ss 64).a statea)),(.int .u32 (aL (av K (ah bb 48) ss 64).b stateb)),(.int .u32 (aL (av K (ah bb 48) ss 64).c statec)),(.int .u32 (aL (av K (ah bb 48) ss 64).d stated)),(.int .u32 (aL (av K (ah bb 48) ss 64).e statee)),(.int .u32 ((av K (ah bb 48) ss 64).f)),(.int .u32 ((av K (ah bb 48) ss 64).g)),(.int .u32 ((av K (ah bb 48) ss 64).h))] T))∨(mz=2∧i1=6∧(∃T,Blk W Ox #[(.int .u32 (aL (av K (ah bb 48) ss 64).a statea)),(.int .u32 (aL (av K (ah bb 48) ss 64).b stateb)),(.int .u32 (aL (av K (ah bb 48) ss 64).c statec)),(.int .u32 (aL (av K (ah bb 48) ss 64).d stated)),(.int .u32 (aL (av K (ah bb 48) ss 64).e statee)),(.int .u32 (aL (av K (ah bb 48) ss 64).f statef)),(.int .u32 ((av K (ah bb 48) ss 64).g)),(.int .u32 ((av K (ah bb 48) ss 64).h))] T))∨(mz=1∧i1=7∧(∃T,Blk W Ox #[(.int .u32 (aL (av K (ah bb 48) ss 64).a statea)),(.int .u32 (aL (av K (ah bb 48) ss 64).b stateb)),(.int .u32 (aL (av K (ah bb 48) ss 64).c statec)),(.int .u32 (aL (av K (ah bb 48) ss 64).d stated)),(.int .u32 (aL (av K (ah bb 48) ss 64).e statee)),(.int .u32 (aL (av K (ah bb 48) ss 64).f statef)),(.int .u32 (aL (av K (ah bb 48) ss 64).g stateg)),(.int .u32 ((av K (ah bb 48) ss 64).h))] T))∨(mz=0∧i1=8∧(∃T,Blk W Ox #[(.int .u32 (aL (av K (ah bb 48) ss 64).a statea)),(.int .u32 (aL (av K (ah bb 48) ss 64).b stateb)),(.int .u32 (aL (av K (ah bb 48) ss 64).c statec)),(.int .u32 (aL (av K (ah bb 48) ss 64).d stated)),(.int .u32 (aL (av K (ah bb 48) ss 64).e statee)),(.int .u32 (aL (av K (ah bb 48) ss 64).f statef)),(.int .u32 (aL (av K (ah bb 48) ss 64).g stateg)),(.int .u32 (aL (av K (ah bb 48) ss 64).h stateh))] T))),⟨_,hp,hk,⟨_,Nr⟩,⟨_,Ns⟩,⟨_,Nt⟩,⟨_,Nu⟩,.inl ⟨rfl,rfl,⟨_,Nv⟩⟩⟩,?_⟩
   rintro _ _ i1 N1 ⟨hp,hk,⟨_,Nr⟩,⟨_,Ns⟩,⟨_,Nt⟩,⟨_,Nu⟩,hU⟩
   rcases hU with⟨rfl,rfl,⟨_,Nv⟩⟩ | ⟨rfl,rfl,⟨_,Nv⟩⟩ | ⟨rfl,rfl,⟨_,Nv⟩⟩ | ⟨rfl,rfl,⟨_,Nv⟩⟩ | ⟨rfl,rfl,⟨_,Nv⟩⟩ | ⟨rfl,rfl,⟨_,Nv⟩⟩ | ⟨rfl,rfl,⟨_,Nv⟩⟩ | ⟨rfl,rfl,⟨_,Nv⟩⟩ | ⟨rfl,rfl,⟨_,Nv⟩⟩
   ·refine aU ?_
    refine⟨bXU [] [3,6] N1.drew (fun _=>False),?_⟩
    have Nv:=Blk.drew Nv
    have Nr:=Blk.drew Nr
    refine⟨by decide,⟨.inl (by decide),_,Nv.at rfl,⟨by decide,⟨.inl (by decide),_,Nr.at rfl,⟨by decide,aP Nv (by simp) fun Oy NA=>?_⟩⟩⟩⟩⟩
    have Nv:Blk Oy Ox #[_,(.int .u32 ((av K (ah bb 48) ss 64).b)),(.int .u32 ((av K (ah bb 48) ss 64).c)),(.int .u32 ((av K (ah bb 48) ss 64).d)),(.int .u32 ((av K (ah bb 48) ss 64).e)),(.int .u32 ((av K (ah bb 48) ss 64).f)),(.int .u32 ((av K (ah bb 48) ss 64).g)),(.int .u32 ((av K (ah bb 48) ss 64).h))] _:=NA.blk
    refine bXU.grow NA.ch ?_
    rintro _ rfl
    have hp:=Ch.call (Ch.drew hp) NA.ch (by exact fun k e=>.inr (e▸N0))
    have hk:=(hk.pu (Pu.aI _)).ch NA.ch (fun k hx e=>(fun hx=>absurd (Og _ hx) (Nat.not_lt.2 N0)) (e▸hx))
    have Nr:=Ch.blk NA.ch Nr (NV)
    have Ns:=Ch.blk NA.ch (Blk.drew Ns) (ne_gv1_gv5)
    have Nt:=Ch.blk NA.ch (Blk.drew Nt) (ne_gv2_gv5)
    have Nu:=Ch.blk NA.ch (Blk.drew Nu) (ne_gv3_gv5)
    exact⟨7,by decide,hp,hk,⟨_,Nr⟩,⟨_,Ns⟩,⟨_,Nt⟩,⟨_,Nu⟩,.inr (.inl ⟨rfl,rfl,⟨_,Nv⟩⟩)⟩
   ·refine aU ?_
    refine⟨bXU [] [3,6] N1.drew (fun _=>False),?_⟩
    have Nv:=Blk.drew Nv
    have Nr:=Blk.drew Nr
    refine⟨by decide,⟨.inl (by decide),_,Nv.at rfl,⟨by decide,⟨.inl (by decide),_,Nr.at rfl,⟨by decide,aP Nv (by simp) fun Oy NA=>?_⟩⟩⟩⟩⟩
    have Nv:Blk Oy Ox #[(.int .u32 (aL (av K (ah bb 48) ss 64).a statea)),_,(.int .u32 ((av K (ah bb 48) ss 64).c)),(.int .u32 ((av K (ah bb 48) ss 64).d)),(.int .u32 ((av K (ah bb 48) ss 64).e)),(.int .u32 ((av K (ah bb 48) ss 64).f)),(.int .u32 ((av K (ah bb 48) ss 64).g)),(.int .u32 ((av K (ah bb 48) ss 64).h))] _:=NA.blk
    refine bXU.grow NA.ch ?_
    rintro _ rfl
    have hp:=Ch.call (Ch.drew hp) NA.ch (by exact fun k e=>.inr (e▸N0))
    have hk:=(hk.pu (Pu.aI _)).ch NA.ch (fun k hx e=>(fun hx=>absurd (Og _ hx) (Nat.not_lt.2 N0)) (e▸hx))
    have Nr:=Ch.blk NA.ch Nr (NV)
    have Ns:=Ch.blk NA.ch (Blk.drew Ns) (ne_gv1_gv5)
    have Nt:=Ch.blk NA.ch (Blk.drew Nt) (ne_gv2_gv5)
    have Nu:=Ch.blk NA.ch (Blk.drew Nu) (ne_gv3_gv5)
    exact⟨6,by decide,hp,hk,⟨_,Nr⟩,⟨_,Ns⟩,⟨_,Nt⟩,⟨_,Nu⟩,.inr (.inr (.inl ⟨rfl,rfl,⟨_,Nv⟩⟩))⟩
   ·refine aU ?_
    refine⟨bXU [] [3,6] N1.drew (fun _=>False),?_⟩
    have Nv:=Blk.drew Nv
    have Nr:=Blk.drew Nr
    refine⟨by decide,⟨.inl (by decide),_,Nv.at rfl,⟨by decide,⟨.inl (by decide),_,Nr.at rfl,⟨by decide,aP Nv (by simp) fun Oy NA=>?_⟩⟩⟩⟩⟩
    have Nv:Blk Oy Ox #[(.int .u32 (aL (av K (ah bb 48) ss 64).a statea)),(.int .u32 (aL (av K (ah bb 48) ss 64).b stateb)),_,(.int .u32 ((av K (ah bb 48) ss 64).d)),(.int .u32 ((av K (ah bb 48) ss 64).e)),(.int .u32 ((av K (ah bb 48) ss 64).f)),(.int .u32 ((av K (ah bb 48) ss 64).g)),(.int .u32 ((av K (ah bb 48) ss 64).h))] _:=NA.blk
    refine bXU.grow NA.ch ?_
    rintro _ rfl
    have hp:=Ch.call (Ch.drew hp) NA.ch (by exact fun k e=>.inr (e▸N0))
    have hk:=(hk.pu (Pu.aI _)).ch NA.ch (fun k hx e=>(fun hx=>absurd (Og _ hx) (Nat.not_lt.2 N0)) (e▸hx))
    have Nr:=Ch.blk NA.ch Nr (NV)
    have Ns:=Ch.blk NA.ch (Blk.drew Ns) (ne_gv1_gv5)
    have Nt:=Ch.blk NA.ch (Blk.drew Nt) (ne_gv2_gv5)
    have Nu:=Ch.blk NA.ch (Blk.drew Nu) (ne_gv3_gv5)
    exact⟨5,by decide,hp,hk,⟨_,Nr⟩,⟨_,Ns⟩,⟨_,Nt⟩,⟨_,Nu⟩,.inr (.inr (.inr (.inl ⟨rfl,rfl,⟨_,Nv⟩⟩)))⟩
   ·refine aU ?_
    refine⟨bXU [] [3,6] N1.drew (fun _=>False),?_⟩
    have Nv:=Blk.drew Nv
    have Nr:=Blk.drew Nr
    refine⟨by decide,⟨.inl (by decide),_,Nv.at rfl,⟨by decide,⟨.inl (by decide),_,Nr.at rfl,⟨by decide,aP Nv (by simp) fun Oy NA=>?_⟩⟩⟩⟩⟩
    have Nv:Blk Oy Ox #[(.int .u32 (aL (av K (ah bb 48) ss 64).a statea)),(.int .u32 (aL (av K (ah bb 48) ss 64).b stateb)),(.int .u32 (aL (av K (ah bb 48) ss 64).c statec)),_,(.int .u32 ((av K (ah bb 48) ss 64).e)),(.int .u32 ((av K (ah bb 48) ss 64).f)),(.int .u32 ((av K (ah bb 48) ss 64).g)),(.int .u32 ((av K (ah bb 48) ss 64).h))] _:=NA.blk
    refine bXU.grow NA.ch ?_
    rintro _ rfl
    have hp:=Ch.call (Ch.drew hp) NA.ch (by exact fun k e=>.inr (e▸N0))
    have hk:=(hk.pu (Pu.aI _)).ch NA.ch (fun k hx e=>(fun hx=>absurd (Og _ hx) (Nat.not_lt.2 N0)) (e▸hx))
    have Nr:=Ch.blk NA.ch Nr (NV)
    have Ns:=Ch.blk NA.ch (Blk.drew Ns) (ne_gv1_gv5)
    have Nt:=Ch.blk NA.ch (Blk.drew Nt) (ne_gv2_gv5)
    have Nu:=Ch.blk NA.ch (Blk.drew Nu) (ne_gv3_gv5)
    exact⟨4,by decide,hp,hk,⟨_,Nr⟩,⟨_,Ns⟩,⟨_,Nt⟩,⟨_,Nu⟩,.inr (.inr (.inr (.inr (.inl ⟨rfl,rfl,⟨_,Nv⟩⟩))))⟩
   ·refine aU ?_
    refine⟨bXU [] [3,6] N1.drew (fun _=>False),?_⟩
    have Nv:=Blk.drew Nv
    have Nr:=Blk.drew Nr
    refine⟨by decide,⟨.inl (by decide),_,Nv.at rfl,⟨by decide,⟨.inl (by decide),_,Nr.at rfl,⟨by decide,aP Nv (by simp) fun Oy NA=>?_⟩⟩⟩⟩⟩
    have Nv:Blk Oy Ox #[(.int .u32 (aL (av K (ah bb 48) ss 64).a statea)),(.int .u32 (aL (av K (ah bb 48) ss 64).b stateb)),(.int .u32 (aL (av K (ah bb 48) ss 64).c statec)),(.int .u32 (aL (av K (ah bb 48) ss 64).d stated)),_,(.int .u32 ((av K (ah bb 48) ss 64).f)),(.int .u32 ((av K (ah bb 48) ss 64).g)),(.int .u32 ((av K (ah bb 48) ss 64).h))] _:=NA.blk
    refine bXU.grow NA.ch ?_
    rintro _ rfl
    have hp:=Ch.call (Ch.drew hp) NA.ch (by exact fun k e=>.inr (e▸N0))
    have hk:=(hk.pu (Pu.aI _)).ch NA.ch (fun k hx e=>(fun hx=>absurd (Og _ hx) (Nat.not_lt.2 N0)) (e▸hx))
    have Nr:=Ch.blk NA.ch Nr (NV)
    have Ns:=Ch.blk NA.ch (Blk.drew Ns) (ne_gv1_gv5)
    have Nt:=Ch.blk NA.ch (Blk.drew Nt) (ne_gv2_gv5)
    have Nu:=Ch.blk NA.ch (Blk.drew Nu) (ne_gv3_gv5)
    exact⟨3,by decide,hp,hk,⟨_,Nr⟩,⟨_,Ns⟩,⟨_,Nt⟩,⟨_,Nu⟩,.inr (.inr (.inr (.inr (.inr (.inl ⟨rfl,rfl,⟨_,Nv⟩⟩)))))⟩
   ·refine aU ?_
    refine⟨bXU [] [3,6] N1.drew (fun _=>False),?_⟩
    have Nv:=Blk.drew Nv
    have Nr:=Blk.drew Nr
    refine⟨by decide,⟨.inl (by decide),_,Nv.at rfl,⟨by decide,⟨.inl (by decide),_,Nr.at rfl,⟨by decide,aP Nv (by simp) fun Oy NA=>?_⟩⟩⟩⟩⟩
    have Nv:Blk Oy Ox #[(.int .u32 (aL (av K (ah bb 48) ss 64).a statea)),(.int .u32 (aL (av K (ah bb 48) ss 64).b stateb)),(.int .u32 (aL (av K (ah bb 48) ss 64).c statec)),(.int .u32 (aL (av K (ah bb 48) ss 64).d stated)),(.int .u32 (aL (av K (ah bb 48) ss 64).e statee)),_,(.int .u32 ((av K (ah bb 48) ss 64).g)),(.int .u32 ((av K (ah bb 48) ss 64).h))] _:=NA.blk
    refine bXU.grow NA.ch ?_
    rintro _ rfl
    have hp:=Ch.call (Ch.drew hp) NA.ch (by exact fun k e=>.inr (e▸N0))
    have hk:=(hk.pu (Pu.aI _)).ch NA.ch (fun k hx e=>(fun hx=>absurd (Og _ hx) (Nat.not_lt.2 N0)) (e▸hx))
    have Nr:=Ch.blk NA.ch Nr (NV)
    have Ns:=Ch.blk NA.ch (Blk.drew Ns) (ne_gv1_gv5)
    have Nt:=Ch.blk NA.ch (Blk.drew Nt) (ne_gv2_gv5)
    have Nu:=Ch.blk NA.ch (Blk.drew Nu) (ne_gv3_gv5)
    exact⟨2,by decide,hp,hk,⟨_,Nr⟩,⟨_,Ns⟩,⟨_,Nt⟩,⟨_,Nu⟩,.inr (.inr (.inr (.inr (.inr (.inr (.inl ⟨rfl,rfl,⟨_,Nv⟩⟩))))))⟩
   ·refine aU ?_
    refine⟨bXU [] [3,6] N1.drew (fun _=>False),?_⟩
    have Nv:=Blk.drew Nv
    have Nr:=Blk.drew Nr
    refine⟨by decide,⟨.inl (by decide),_,Nv.at rfl,⟨by decide,⟨.inl (by decide),_,Nr.at rfl,⟨by decide,aP Nv (by simp) fun Oy NA=>?_⟩⟩⟩⟩⟩
    have Nv:Blk Oy Ox #[(.int .u32 (aL (av K (ah bb 48) ss 64).a statea)),(.int .u32 (aL (av K (ah bb 48) ss 64).b stateb)),(.int .u32 (aL (av K (ah bb 48) ss 64).c statec)),(.int .u32 (aL (av K (ah bb 48) ss 64).d stated)),(.int .u32 (aL (av K (ah bb 48) ss 64).e statee)),(.int .u32 (aL (av K (ah bb 48) ss 64).f statef)),_,(.int .u32 ((av K (ah bb 48) ss 64).h))] _:=NA.blk
    refine bXU.grow NA.ch ?_
    rintro _ rfl
    have hp:=Ch.call (Ch.drew hp) NA.ch (by exact fun k e=>.inr (e▸N0))
    have hk:=(hk.pu (Pu.aI _)).ch NA.ch (fun k hx e=>(fun hx=>absurd (Og _ hx) (Nat.not_lt.2 N0)) (e▸hx))
    have Nr:=Ch.blk NA.ch Nr (NV)
    have Ns:=Ch.blk NA.ch (Blk.drew Ns) (ne_gv1_gv5)
    have Nt:=Ch.blk NA.ch (Blk.drew Nt) (ne_gv2_gv5)
    have Nu:=Ch.blk NA.ch (Blk.drew Nu) (ne_gv3_gv5)
    exact⟨1,by decide,hp,hk,⟨_,Nr⟩,⟨_,Ns⟩,⟨_,Nt⟩,⟨_,Nu⟩,.inr (.inr (.inr (.inr (.inr (.inr (.inr (.inl ⟨rfl,rfl,⟨_,Nv⟩⟩)))))))⟩
   ·refine aU ?_
    refine⟨bXU [] [3,6] N1.drew (fun _=>False),?_⟩
    have Nv:=Blk.drew Nv
    have Nr:=Blk.drew Nr
    refine⟨by decide,⟨.inl (by decide),_,Nv.at rfl,⟨by decide,⟨.inl (by decide),_,Nr.at rfl,⟨by decide,aP Nv (by simp) fun Oy NA=>?_⟩⟩⟩⟩⟩
    have Nv:Blk Oy Ox #[(.int .u32 (aL (av K (ah bb 48) ss 64).a statea)),(.int .u32 (aL (av K (ah bb 48) ss 64).b stateb)),(.int .u32 (aL (av K (ah bb 48) ss 64).c statec)),(.int .u32 (aL (av K (ah bb 48) ss 64).d stated)),(.int .u32 (aL (av K (ah bb 48) ss 64).e statee)),(.int .u32 (aL (av K (ah bb 48) ss 64).f statef)),(.int .u32 (aL (av K (ah bb 48) ss 64).g stateg)),_] _:=NA.blk
    refine bXU.grow NA.ch ?_
    rintro _ rfl
    have hp:=Ch.call (Ch.drew hp) NA.ch (by exact fun k e=>.inr (e▸N0))
    have hk:=(hk.pu (Pu.aI _)).ch NA.ch (fun k hx e=>(fun hx=>absurd (Og _ hx) (Nat.not_lt.2 N0)) (e▸hx))
    have Nr:=Ch.blk NA.ch Nr (NV)
    have Ns:=Ch.blk NA.ch (Blk.drew Ns) (ne_gv1_gv5)
    have Nt:=Ch.blk NA.ch (Blk.drew Nt) (ne_gv2_gv5)
    have Nu:=Ch.blk NA.ch (Blk.drew Nu) (ne_gv3_gv5)
    exact⟨0,by decide,hp,hk,⟨_,Nr⟩,⟨_,Ns⟩,⟨_,Nt⟩,⟨_,Nu⟩,.inr (.inr (.inr (.inr (.inr (.inr (.inr (.inr (⟨rfl,rfl,⟨_,Nv⟩⟩))))))))⟩
   ·refine gM ⟨_,_,_,_,_,_,_,_,⟨Nv.at rfl,Nv.at rfl,Nv.at rfl,Nv.at rfl,Nv.at rfl,Nv.at rfl,Nv.at rfl,Nv.at rfl⟩,bH Nt rfl fun Oy NA=>?_⟩
    have Nt:=NA.blk
    refine⟨_,_,_,_,_,_,_,_,⟨Nt.at rfl,Nt.at rfl,Nt.at rfl,Nt.at rfl,Nt.at rfl,Nt.at rfl,Nt.at rfl,Nt.at rfl⟩,?_⟩
    have hp:=Ch.call hp NA.ch (by exact fun k e=>.inr (e▸NN))
    exact⟨congrArg Value.agg (za (congrArg (Value.int .u32) (by rw [← Pa,← OV];subst OV;rfl)) (congrArg (Value.int .u32) (by rw [← Pa,← OV];subst OV;rfl)) (congrArg (Value.int .u32) (by rw [← Pa,← OV];subst OV;rfl)) (congrArg (Value.int .u32) (by rw [← Pa,← OV];subst OV;rfl)) (congrArg (Value.int .u32) (by rw [← Pa,← OV];subst OV;rfl)) (congrArg (Value.int .u32) (by rw [← Pa,← OV];subst OV;rfl)) (congrArg (Value.int .u32) (by rw [← Pa,← OV];subst OV;rfl)) (congrArg (Value.int .u32) (by rw [← Pa,← OV];subst OV;rfl))),hp⟩
theorem GI {w:World}:
 Calls prog 137 #[] w fun e w'=>∃v,e= .returned v∧v= .agg #[(.int .u32 S8.first.a),(.int .u32 S8.first.b),(.int .u32 S8.first.c),(.int .u32 S8.first.d),(.int .u32 S8.first.e),(.int .u32 S8.first.f),(.int .u32 S8.first.g),(.int .u32 S8.first.h)]∧Pu w w':=by
 refine wX ?_
 have hp:=Ch.refl (fun _=>False) w
 refine mkd fun gv wv NC=>?_
 have NR:=NC.lo hp
 have Nr:=NC.blk
 refine bH Nr rfl fun Nw OT=>?_
 have Nr:=OT.blk
 refine⟨_,_,_,_,_,_,_,_,⟨Nr.at rfl,Nr.at rfl,Nr.at rfl,Nr.at rfl,Nr.at rfl,Nr.at rfl,Nr.at rfl,Nr.at rfl⟩,?_⟩
 have hp:=Ch.call (Ch.made hp NC) OT.ch (by exact fun k e=>.inr (e▸NR))
 exact⟨congrArg Value.agg (za (congrArg (Value.int .u32) (by rfl)) (congrArg (Value.int .u32) (by rfl)) (congrArg (Value.int .u32) (by rfl)) (congrArg (Value.int .u32) (by rfl)) (congrArg (Value.int .u32) (by rfl)) (congrArg (Value.int .u32) (by rfl)) (congrArg (Value.int .u32) (by rfl)) (congrArg (Value.int .u32) (by rfl))),hp⟩
theorem yk {w:World}:
 Calls prog 159 #[] w fun e w'=>∃v,e= .returned v∧v= .agg #[(.int .u32 S8.first.a),(.int .u32 S8.first.b),(.int .u32 S8.first.c),(.int .u32 S8.first.d),(.int .u32 S8.first.e),(.int .u32 S8.first.f),(.int .u32 S8.first.g),(.int .u32 S8.first.h)]∧Pu w w':=by
 refine tA ?_
 have hp:=Ch.refl (fun _=>False) w
 refine mkd fun gv wv NC=>?_
 have NR:=NC.lo hp
 have Nr:=NC.blk
 refine bH Nr rfl fun Nw OT=>?_
 have Nr:=OT.blk
 refine⟨_,_,_,_,_,_,_,_,⟨Nr.at rfl,Nr.at rfl,Nr.at rfl,Nr.at rfl,Nr.at rfl,Nr.at rfl,Nr.at rfl,Nr.at rfl⟩,?_⟩
 have hp:=Ch.call (Ch.made hp NC) OT.ch (by exact fun k e=>.inr (e▸NR))
 exact⟨congrArg Value.agg (za (congrArg (Value.int .u32) (by rfl)) (congrArg (Value.int .u32) (by rfl)) (congrArg (Value.int .u32) (by rfl)) (congrArg (Value.int .u32) (by rfl)) (congrArg (Value.int .u32) (by rfl)) (congrArg (Value.int .u32) (by rfl)) (congrArg (Value.int .u32) (by rfl)) (congrArg (Value.int .u32) (by rfl))),hp⟩
end
namespace Ent
theorem or0 {e:Ent}(h:e.ok=true):u32.wrap (BitVec.ofInt u32.bits (u32.wrap (BitVec.ofInt u32.bits (u32.wrap ((u32.wrap e.typ:Int)*2 ^ 0)) ||| BitVec.ofInt u32.bits (u32.wrap ((u32.wrap e.state:Int)*2 ^ 4))).toNat) ||| BitVec.ofInt u32.bits (u32.wrap ((u32.wrap e.owner:Int)*2 ^ 16))).toNat=e.typ+16*e.state+65536*e.owner:=by
 have h1:=dO h
 have h2:=je h
 rw [bj (x:=e.typ) (by omega),bj (x:=e.state) (by omega),bj (x:=e.owner) (by omega),bj (x:=e.typ*2 ^ 0) (by omega),bj (x:=e.state*2 ^ 4) (by omega),bj (x:=e.owner*2 ^ 16) (by omega),oP (x:=e.typ*2 ^ 0) (by omega) (by omega),nV,
  show e.state*2 ^ 4=2 ^ 4*e.state by omega,gQ 4 (by omega) (by omega) (by omega),oP (by omega) (by omega),nV,show e.owner*2 ^ 16=2 ^ 16*e.owner by omega,gQ 16 (by omega) (by omega) (by omega)]
 omega
theorem or1 {x:Int}(h:∃a b:Int,x=a+512*b∧0≤a∧a<256∧0≤b∧b<8388608):u32.wrap (BitVec.ofInt u32.bits x ||| BitVec.ofInt u32.bits 256).toNat=x+256:=by
 obtain⟨a,b,rfl,h1,h2,h3,h4⟩:=h
 have e1:nor (2 ^ 8*1) a=2 ^ 8*1+a:=gQ 8 (by omega) h1 h2
 have e2:nor (2 ^ 9*b) a=2 ^ 9*b+a:=gQ 9 h3 h1 (by omega)
 have e3:nor (2 ^ 9*b) (256+a)=2 ^ 9*b+(256+a):=gQ 9 h3 (by omega) (by omega)
 rw [oP (by omega) (by omega)]
 have assoc:∀x y z:Int,nor (nor x y) z=nor x (nor y z):=by
  intro x y z;unfold nor;simp [Nat.or_assoc]
 rw [show a+512*b=2 ^ 9*b+a by omega,← e2,assoc,nV a 256,show nor 256 a=256+a by simpa using e1,e3,e2]
 omega
theorem mask(k:Nat) {x:Int}(m:Int)(hm:m=2 ^ k - 1)(hk:k≤31)(hx:0≤x∧x<4294967296):i64.wrap (u32.wrap (BitVec.ofInt u32.bits x &&& BitVec.ofInt u32.bits m).toNat)=x % 2 ^ k:=by
 have h2:(2:Int) ^ k≤2 ^ 31:=by exact_mod_cast Nat.pow_le_pow_right (n:=2) (by omega) hk
 have h3:(0:Int)<2 ^ k:=Int.pow_pos (by omega)
 have h4:=Int.emod_nonneg x (Int.ne_of_gt h3)
 have h5:=Int.emod_lt_of_pos x h3
 subst hm
 rw [qO hx (by omega),oS k hx.1,aq (by omega)]
theorem Mv(k:Nat) {x:Int}(m:Int)(hm:m=2 ^ k - 1)(hk:k≤31)(hx:0≤x∧x<4294967296):u32.wrap (BitVec.ofInt u32.bits x &&& BitVec.ofInt u32.bits m).toNat=x % 2 ^ k:=by
 have h2:(2:Int) ^ k≤2 ^ 31:=by exact_mod_cast Nat.pow_le_pow_right (n:=2) (by omega) hk
 have h3:(0:Int)<2 ^ k:=Int.pow_pos (by omega)
 subst hm
 rw [qO hx (by omega),oS k hx.1]
theorem ml {x:Int}(n:Nat)(hx:0≤x∧x<4294967296):0≤x.fdiv (2 ^ n)∧x.fdiv (2 ^ n)<4294967296:=by
 rw [mE]
 have h3:(0:Int)<2 ^ n:=Int.pow_pos (by omega)
 refine⟨Int.ediv_nonneg hx.1 (by omega),?_⟩
 have:=Int.ediv_le_self (2 ^ n) hx.1
 omega
theorem parts_eq {a b:Int}(ha:0≤a∧a<4294967296)(hb:0≤b∧b<4294967296):
 i64.wrap (u32.wrap (BitVec.ofInt u32.bits ((a:Int).fdiv (2 ^ 0)) &&& BitVec.ofInt u32.bits 7).toNat)=(parts a b).typ∧
 i64.wrap (u32.wrap (BitVec.ofInt u32.bits ((a:Int).fdiv (2 ^ 16)) &&& BitVec.ofInt u32.bits 63).toNat)=(parts a b).owner∧
 i64.wrap (u32.wrap (BitVec.ofInt u32.bits b &&& BitVec.ofInt u32.bits 63).toNat)=(parts a b).refs∧
 i64.wrap (u32.wrap (BitVec.ofInt u32.bits ((a:Int).fdiv (2 ^ 4)) &&& BitVec.ofInt u32.bits 3).toNat)=(parts a b).state∧
 ((u32.wrap (BitVec.ofInt u32.bits ((a:Int).fdiv (2 ^ 8)) &&& BitVec.ofInt u32.bits 1).toNat:Int)==1)=(parts a b).aV:=by
 refine⟨?_,?_,?_,?_,?_⟩
 ·rw [mask 3 7 (by decide) (by decide) (ml 0 ha),mE];simp [parts]
 ·rw [mask 6 63 (by decide) (by decide) (ml 16 ha),mE];simp [parts]
 ·rw [mask 6 63 (by decide) (by decide) hb];simp [parts]
 ·rw [mask 2 3 (by decide) (by decide) (ml 4 ha),mE];simp [parts]
 ·rw [Mv 1 1 (by decide) (by decide) (ml 8 ha),mE];simp only [parts];rw [Bool.eq_iff_iff];simp
theorem eqW(a b c d:Int):cq #[.int .u32 a,.int .u32 b] #[.int .u32 c,.int .u32 d]=(decide (a=c) && decide (b=d)):=by
 simp [cq,eqL,mB];rfl
end Ent
end Go.Proofs.YtinhphjfnedhgaaGreatDoor
namespace Go.Proofs.YtinhphjfnedhgaaGreatDoor
open Go.Proofs.Tryz (prog)
open Go Go.RowKit V
open Go.IntKind (i64 u32 u64)
section
set_option maxRecDepth 100000
set_option maxHeartbeats 1000000
attribute [local irreducible] Vc2 VcD
theorem Ent.eqC(a b c d a' b' c' d':Int)(e e':Bool):cq #[.int .i64 a,.int .i64 b,.int .i64 c,.int .i64 d,.bool e] #[.int .i64 a',.int .i64 b',.int .i64 c',.int .i64 d',.bool e']=decide (a=a'∧b=b'∧c=c'∧d=d'∧e=e'):=by
 simp [cq,eqL,mB];rw [Bool.eq_iff_iff];simp
theorem Ent.wA {e:Ent}:(if e.ok then(0:Int)else 110)=0↔e.ok=true:=by cases e.ok<;>simp
def oA:Ctr Un:=⟨[.one (.int .i64)],[],[],[],fun n K=>K ⟨(.bool (decide (0≤n∧n≤63))),none,[],[],[]⟩⟩
def KB(n:Int)(Q:Ou Un→Prop):Prop:=
 ∃J:Bool→Prop,(
  split (decide (n≥0)) (
   J (decide (n≤63))) (
   J false))∧∀(PO:Nat→Value)(x2:Bool),J x2→
 Q ⟨(.bool x2),none,[],[],[]⟩
theorem KC:Vc2 Un prog (aR []) [] Tryz.f199 (.r' (.two (.node [] (some ⟨[(2,(.one .bool))],[],upN 2 7,[]⟩) [] [] .leaf .leaf) .leaf)) [] oA=(∀n,∀Q,(oA.body n Q)→KB n Q):=by kernel_rfl
theorem KA:LV Un prog 199 oA:=verify Tryz.func199 aa (tb:= []) trivial (by kernel_rfl) (KC.mpr fun n Q h=>cN ((decide ((n:Int)≥0)) && (decide ((n:Int)≤63))) (af (fun c1=>(by show _=_;rw [Bool.eq_iff_iff];simp_all<;>omega)) fun c1=>(by show _=_;rw [Bool.eq_iff_iff];simp_all<;>omega))<| gZ h (by rw [Bool.eq_iff_iff];simp))
def lZ:Ctr Un:=⟨[.agg [.int .i64,.int .i64,.int .i64,.int .i64,.bool]],[],[],[],fun ea eb ec ed ee K=>K ⟨(.int .i64 (if(Ent.mk ea eb ec ed ee).ok then 0 else 110)),none,[],[],[]⟩⟩
def IN(ea:Int)(eb:Int)(ec:Int)(ed:Int)(ee:Bool)(Q:Ou Un→Prop):Prop:=
 ∀(gv:Nat),
 ∀(NB:Nat),
 ∃J:Bool→Prop,(
  split (decide (ea≥0)) (
   ∀ok:Bool,ok=(decide ((ea:Int)<7))→
   J ok) (
   ∀ok:Bool,ok=false→
   J ok))∧∀(OW:Nat→Value)(ok:Bool),J ok→
 ∃J1:Bool→Int→Int→Int→Int→Bool→Prop,(
  split (ea !=0) (
   ∃J2:Bool→Prop,(
    split ok (
     ∀QW:Bool,QW=(decide (0≤eb∧eb≤63))→
     J2 QW) (
     ∀QW:Bool,QW=false→
     J2 QW))∧∀(QD:Nat→Value)(QW:Bool),J2 QW→
   J1 QW ea eb 0 0 false) (
   J1 ok ea 0 0 0 false))∧∀(QD:Nat→Value)(QW:Bool) U1 U0 R4 VO (VN:Bool),J1 QW U1 U0 R4 VO VN→
 ∀OU:Bool,OU=((ea:Int)==1)→
 split OU (
  ∃J2:Bool→Prop,(
   split QW (
    split (decide (0≤ec∧ec≤63)) (
     split (decide (ed>0)) (
      ∀SH:Bool,SH=(decide ((ed:Int)<4))→
      J2 SH) (
      ∀SH:Bool,SH=false→
      J2 SH)) (
     ∀SH:Bool,SH=false→
     J2 SH)) (
    ∀SH:Bool,SH=false→
    J2 SH))∧∀(Ro:Nat→Value)(SH:Bool),J2 SH→
  ∃J3:Bool→Prop,(
   split (!SH) (
    J3 true) (
    J3 (!(cq #[(.int .i64 ea),(.int .i64 eb),(.int .i64 ec),(.int .i64 ed),(.bool ee)] #[(.int .i64 U1),(.int .i64 U0),(.int .i64 ec),(.int .i64 ed),(.bool VN)]))))∧∀(XE:Nat→Value)(VP:Bool),J3 VP→
  split VP (
   Q ⟨(.int .i64 110),none,[],[],[]⟩) (
   Q ⟨(.int .i64 0),none,[],[],[]⟩)) (
  ∀Tv:Bool,Tv=((ea:Int)==2)→
  split Tv (
   ∃J2:Bool→Prop,(
    split (!QW) (
     J2 true) (
     J2 (!(cq #[(.int .i64 ea),(.int .i64 eb),(.int .i64 ec),(.int .i64 ed),(.bool ee)] #[(.int .i64 U1),(.int .i64 U0),(.int .i64 R4),(.int .i64 VO),(.bool ee)]))))∧∀(Ro:Nat→Value)(VP:Bool),J2 VP→
   split VP (
    Q ⟨(.int .i64 110),none,[],[],[]⟩) (
    Q ⟨(.int .i64 0),none,[],[],[]⟩)) (
   ∃J2:Bool→Prop,(
    split (!QW) (
     J2 true) (
     J2 (!(cq #[(.int .i64 ea),(.int .i64 eb),(.int .i64 ec),(.int .i64 ed),(.bool ee)] #[(.int .i64 U1),(.int .i64 U0),(.int .i64 R4),(.int .i64 VO),(.bool VN)]))))∧∀(Ro:Nat→Value)(VP:Bool),J2 VP→
   split VP (
    Q ⟨(.int .i64 110),none,[],[],[]⟩) (
    Q ⟨(.int .i64 0),none,[],[],[]⟩)))
theorem IP:Vc2 Un prog (aR [(199,oA)]) [4,30,54] Tryz.f189 (.r' (.r' (.two (.node [] (some ⟨[(4,(.one .bool))],[],[4]++upN 8 8,[]⟩) [] [] .leaf .leaf) (.two (.r' (.node [] (some ⟨[(4,(.one .bool))],[],[4]++upN 19 9,[(1,(.blk [(.v (.int .i64)),(.v (.int .i64)),(.v (.int .i64)),(.v (.int .i64)),(.v .bool)]))]⟩) [] [] (.r' (.node [] (some ⟨[(4,(.one .bool))],[],[4]++upN 22 6,[]⟩) [] [] .leaf .leaf)) .leaf)) (.two (.r' (.two (.r' (.two (.two (.node [] none [] [(1,[0]),(3,[0])] .leaf .leaf) (.node [] (some ⟨[(4,(.one .bool))],[],[4]++upN 38 16,[]⟩) [] [] .leaf .leaf)) .leaf)) .leaf)) (.two (.two (.node [] (some ⟨[(65,(.one .bool))],[],upN 59 7,[]⟩) [] [] .leaf .leaf) .leaf) .leaf)))))) [] lZ=(∀ea eb ec ed ee,∀Q,(lZ.body ea eb ec ed ee Q)→IN ea eb ec ed ee Q):=by kernel_rfl
section
attribute [local grind=] Ent.ok Ent.eqC
theorem IM:LV Un prog 189 lZ:=verify Tryz.func189 aa (tb:= [(199,oA)]) ⟨KA,trivial⟩ (by kernel_rfl) (IP.mpr fun ea eb ec ed ee Q h gv NB=>cN ((decide ((ea:Int)≥0)) && (decide ((ea:Int)<7))) (af (fun c1=>allEq<| (by grind)) fun c1=>allEq<| (by grind))<| ⟨fun QW U1 U0 R4 VO VN=>(QW=(decide (0≤ea∧ea<7) && (ea==0 || decide (0≤eb∧eb≤63))))∧(U1=ea∧U0=(if ea=0 then 0 else eb)∧R4=0∧VO=0∧VN=false),aB (fun c2=>cN (((decide ((ea:Int)≥0)) && (decide ((ea:Int)<7))) && (decide (0≤eb∧eb≤63))) (af (fun c3=>allEq<| (by grind)) fun c3=>allEq<| (by grind))<| ⟨(by grind),(by grind)⟩) fun c2=>⟨(by grind),(by grind)⟩,fun _ QW U1 U0 R4 VO VN ⟨g1,g2⟩=>allEq<| aG (fun c4=>cN (QW && ((decide (0≤ec∧ec≤63)) && ((decide ((ed:Int)>0)) && (decide ((ed:Int)<4))))) (af (fun c5=>af (fun c6=>af (fun c7=>allEq<| (by grind)) fun c7=>allEq<| (by grind)) fun c6=>allEq<| (by grind)) fun c5=>allEq<| (by grind))<| cN ((!(QW && ((decide (0≤ec∧ec≤63)) && ((decide ((ed:Int)>0)) && (decide ((ed:Int)<4)))))) || (!(cq #[(.int .i64 ea),(.int .i64 eb),(.int .i64 ec),(.int .i64 ed),(.bool ee)] #[(.int .i64 U1),(.int .i64 U0),(.int .i64 ec),(.int .i64 ed),(.bool VN)]))) (af (fun c8=>(by grind)) fun c8=>(by grind))<| aZ (fun c9=>eL h (by grind)) fun c9=>eL h (by grind)) fun c4=>allEq<| aG (fun To=>cN ((!QW) || (!(cq #[(.int .i64 ea),(.int .i64 eb),(.int .i64 ec),(.int .i64 ed),(.bool ee)] #[(.int .i64 U1),(.int .i64 U0),(.int .i64 R4),(.int .i64 VO),(.bool ee)]))) (af (fun RV=>(by grind)) fun RV=>(by grind))<| aZ (fun Vj=>eL h (by grind)) fun Vj=>eL h (by grind)) fun To=>cN ((!QW) || (!(cq #[(.int .i64 ea),(.int .i64 eb),(.int .i64 ec),(.int .i64 ed),(.bool ee)] #[(.int .i64 U1),(.int .i64 U0),(.int .i64 R4),(.int .i64 VO),(.bool VN)]))) (af (fun SP=>(by grind)) fun SP=>(by grind))<| aZ (fun Vi=>eL h (by grind)) fun Vi=>eL h (by grind)⟩)
end
def jo:Ctr Un:=⟨[.agg [.int .i64,.int .i64,.int .i64,.int .i64,.bool]],[],[],[],fun ea eb ec ed ee K=>K ⟨(.int .i64 (if(Ent.mk ea eb ec ed ee).ok then 0 else 110)),none,[],[],[]⟩⟩
def Cg(ea:Int)(eb:Int)(ec:Int)(ed:Int)(ee:Bool)(Q:Ou Un→Prop):Prop:=
 ∀(gv:Nat),
 ∃J:Bool→Prop,(
  split (decide (ea<0)) (
   J true) (
   split (decide (ea>6)) (
    J true) (
    split (decide (eb<0)) (
     J true) (
     split (decide (eb>63)) (
      J true) (
      split (decide (ec<0)) (
       J true) (
       J (decide (ec>63))))))))∧∀(Oi:Nat→Value)(OU:Bool),J OU→
 split OU (
  Q ⟨(.int .i64 110),none,[],[],[]⟩) (
  ∃J1:Bool→Prop,(
   split (ea==0) (
    split (eb !=0) (
     J1 true) (
     split (ea !=1) (
      split (ec !=0) (
       J1 true) (
       split (ed !=0) (
        J1 true) (
        split (ea !=2) (
         J1 ee) (
         J1 false)))) (
      split (ea !=2) (
       J1 ee) (
       J1 false)))) (
    split (ea !=1) (
     split (ec !=0) (
      J1 true) (
      split (ed !=0) (
       J1 true) (
       split (ea !=2) (
        J1 ee) (
        J1 false)))) (
     split (ea !=2) (
      J1 ee) (
      J1 false))))∧∀(OW:Nat→Value)(YK:Bool),J1 YK→
  split YK (
   Q ⟨(.int .i64 110),none,[],[],[]⟩) (
   ∃J2:Bool→Prop,(
    split (ea==1) (
     split (decide (ed<1)) (
      J2 true) (
      J2 (decide (ed>3)))) (
     J2 false))∧∀(QD:Nat→Value)(Yn:Bool),J2 Yn→
   split Yn (
    Q ⟨(.int .i64 110),none,[],[],[]⟩) (
    Q ⟨(.int .i64 0),none,[],[],[]⟩)))
theorem Ci:Vc2 Un prog (aR []) [] Tryz.f171 (.r' (.two (.two (.node [] (some ⟨[(30,(.one .bool))],[],upN 3 28,[]⟩) [] [] .leaf .leaf) .leaf) (.two (.two (.node [] (some ⟨[(62,(.one .bool))],[],upN 31 32,[]⟩) [] [] .leaf .leaf) .leaf) (.two (.two (.node [] (some ⟨[(75,(.one .bool))],[],upN 63 13,[]⟩) [] [] .leaf .leaf) .leaf) .leaf)))) [] jo=(∀ea eb ec ed ee,∀Q,(jo.body ea eb ec ed ee Q)→Cg ea eb ec ed ee Q):=by kernel_rfl
section
attribute [local grind=] Ent.ok
theorem Cf:LV Un prog 171 jo:=verify Tryz.func171 aa (tb:= []) trivial (by kernel_rfl) (Ci.mpr fun ea eb ec ed ee Q h gv=>cN ((decide ((ea:Int)<0)) || ((decide ((ea:Int)>6)) || ((decide ((eb:Int)<0)) || ((decide ((eb:Int)>63)) || ((decide ((ec:Int)<0)) || (decide ((ec:Int)>63))))))) (af (fun c1=>(by grind)) fun c1=>af (fun c2=>(by grind)) fun c2=>af (fun c3=>(by grind)) fun c3=>af (fun c4=>(by grind)) fun c4=>af (fun c5=>(by grind)) fun c5=>(by grind))<| aZ (fun c6=>eL h (by grind)) fun c6=>cN (if((ea:Int)==0)=true then(((eb:Int) !=0) || (if((ea:Int) !=1)=true then(((ec:Int) !=0) || (((ed:Int) !=0) || (((ea:Int) !=2) && ee)))else(((ea:Int) !=2) && ee)))else(if((ea:Int) !=1)=true then(((ec:Int) !=0) || (((ed:Int) !=0) || (((ea:Int) !=2) && ee)))else(((ea:Int) !=2) && ee))) (af (fun c7=>af (fun c8=>(by grind)) fun c8=>af (fun c9=>af (fun To=>(by grind)) fun To=>af (fun RV=>(by grind)) fun RV=>af (fun Vj=>(by grind)) fun Vj=>(by grind)) fun c9=>af (fun SP=>(by grind)) fun SP=>(by grind)) fun c7=>af (fun Vi=>af (fun c15=>(by grind)) fun c15=>af (fun c16=>(by grind)) fun c16=>af (fun c17=>(by grind)) fun c17=>(by grind)) fun Vi=>af (fun c18=>(by grind)) fun c18=>(by grind))<| af (fun c19=>eL h (by grind)) fun c19=>cN (((ea:Int)==1) && ((decide ((ed:Int)<1)) || (decide ((ed:Int)>3)))) (af (fun c20=>af (fun c21=>(by grind)) fun c21=>(by grind)) fun c20=>(by grind))<| cE (fun c22=>eL h (by grind)) fun c22=>eL h (by grind))
end
def ki:Ctr Un:=⟨[.agg [.int .i64,.int .i64,.int .i64,.int .i64,.bool]],[],[],[],fun ea eb ec ed ee K=>∀(x:Int)(y:Int)(z:Int),((x=(if(Ent.mk ea eb ec ed ee).ok then(Ent.mk ea eb ec ed ee).w0 else 0)∧y=(if(Ent.mk ea eb ec ed ee).ok then(Ent.mk ea eb ec ed ee).w1 else 0)∧z=(if(Ent.mk ea eb ec ed ee).ok then 0 else 110)))→K ⟨(.tuple #[(.agg #[(.int .u32 x),(.int .u32 y)]),(.int .i64 z)]),(some (.t [none,none])),[],[],[]⟩⟩
def F3(ea:Int)(eb:Int)(ec:Int)(ed:Int)(ee:Bool)(Q:Ou Un→Prop):Prop:=
 ∀(gv:Nat),
 ∀(NB:Nat),
 split (((if(Ent.mk ea eb ec ed ee).ok then 0 else 110):Int) !=0) (
  Q ⟨(.tuple #[(.agg #[(.int .u32 0),(.int .u32 0)]),(.int .i64 110)]),(some (.t [none,none])),[],[],[]⟩) (
  ∀wv:Int,wv=(u32.wrap (BitVec.ofInt u32.bits (u32.wrap (BitVec.ofInt u32.bits (u32.wrap ((u32.wrap ea:Int)*2 ^ 0)) ||| BitVec.ofInt u32.bits (u32.wrap ((u32.wrap ed:Int)*2 ^ 4))).toNat) ||| BitVec.ofInt u32.bits (u32.wrap ((u32.wrap eb:Int)*2 ^ 16))).toNat)→
  split ee (
   ∀Nw:Int,Nw=(u32.wrap (BitVec.ofInt u32.bits wv ||| BitVec.ofInt u32.bits 256).toNat)→
   Q ⟨(.tuple #[(.agg #[(.int .u32 Nw),(.int .u32 (u32.wrap ec))]),(.int .i64 0)]),(some (.t [none,none])),[],[],[]⟩) (
   Q ⟨(.tuple #[(.agg #[(.int .u32 wv),(.int .u32 (u32.wrap ec))]),(.int .i64 0)]),(some (.t [none,none])),[],[],[]⟩))
theorem F4:Vc2 Un prog (aR [(189,lZ)]) [4] Tryz.f170 .leaf [] ki=(∀ea eb ec ed ee,∀Q,(ki.body ea eb ec ed ee Q)→F3 ea eb ec ed ee Q):=by kernel_rfl
theorem vL:LV Un prog 170 ki:=verify Tryz.func170 aa (tb:= [(189,lZ)]) ⟨IM,trivial⟩ (by kernel_rfl) (F4.mpr fun ea eb ec ed ee Q h gv NB=>aB (fun c1=>(h 0 0 110 (by grind))) fun c1=>allEq<| af (fun c2=>allEq<| ao (h (u32.wrap (BitVec.ofInt u32.bits (u32.wrap (BitVec.ofInt u32.bits (u32.wrap (BitVec.ofInt u32.bits (u32.wrap ((u32.wrap ea:Int)*2 ^ 0)) ||| BitVec.ofInt u32.bits (u32.wrap ((u32.wrap ed:Int)*2 ^ 4))).toNat) ||| BitVec.ofInt u32.bits (u32.wrap ((u32.wrap eb:Int)*2 ^ 16))).toNat) ||| BitVec.ofInt u32.bits 256).toNat) (u32.wrap ec) 0 (by have hk:=Ent.wA.1 c1;have h1:=Ent.dO hk;have h2:=Ent.je hk;simp only at h1 h2;rw [if_pos hk,if_pos hk,if_pos hk];refine⟨?_,bj (x:=ec) (by omega),rfl⟩;have h3:=Ent.or0 hk;simp only at h3;rw [h3,Ent.or1 ⟨ea+16*ed,128*eb,by omega⟩];simp [Ent.w0,c2])) (congrArg (fun l=>Value.tuple (List.toArray l)) (ab (congrArg (fun l=>Value.agg (List.toArray l)) (ab rfl (ab (bC (by rfl)) rfl))) (ab rfl rfl))) rfl rfl) fun c2=>ao (h (u32.wrap (BitVec.ofInt u32.bits (u32.wrap (BitVec.ofInt u32.bits (u32.wrap ((u32.wrap ea:Int)*2 ^ 0)) ||| BitVec.ofInt u32.bits (u32.wrap ((u32.wrap ed:Int)*2 ^ 4))).toNat) ||| BitVec.ofInt u32.bits (u32.wrap ((u32.wrap eb:Int)*2 ^ 16))).toNat) (u32.wrap ec) 0 (by have hk:=Ent.wA.1 c1;have h1:=Ent.dO hk;have h2:=Ent.je hk;simp only at h1 h2;rw [if_pos hk,if_pos hk,if_pos hk];refine⟨?_,bj (x:=ec) (by omega),rfl⟩;have h3:=Ent.or0 hk;simp only at h3;rw [h3];simp [Ent.w0,c2])) (congrArg (fun l=>Value.tuple (List.toArray l)) (ab (congrArg (fun l=>Value.agg (List.toArray l)) (ab rfl (ab (bC (by rfl)) rfl))) (ab rfl rfl))) rfl rfl)
def lL:Ctr Un:=⟨[.agg [.int .i64,.int .i64,.int .i64,.int .i64,.bool]],[],[],[],fun ea eb ec ed ee K=>∀(x:Int)(y:Int)(z:Int),((x=(if(Ent.mk ea eb ec ed ee).ok then(Ent.mk ea eb ec ed ee).w0 else 0)∧y=(if(Ent.mk ea eb ec ed ee).ok then(Ent.mk ea eb ec ed ee).w1 else 0)∧z=(if(Ent.mk ea eb ec ed ee).ok then 0 else 110)))→K ⟨(.tuple #[(.agg #[(.int .u32 x),(.int .u32 y)]),(.int .i64 z)]),(some (.t [none,none])),[],[],[]⟩⟩
def zG(ea:Int)(eb:Int)(ec:Int)(ed:Int)(ee:Bool)(Q:Ou Un→Prop):Prop:=
 ∀(gv:Nat),
 ∀(NB:Nat),
 split (((if(Ent.mk ea eb ec ed ee).ok then 0 else 110):Int) !=0) (
  Q ⟨(.tuple #[(.agg #[(.int .u32 0),(.int .u32 0)]),(.int .i64 (if(Ent.mk ea eb ec ed ee).ok then 0 else 110))]),(some (.t [none,none])),[],[],[]⟩) (
  ∀wv:Int,wv=(i64.wrap ((i64.wrap (ea+(i64.wrap (16*ed))))+(i64.wrap (65536*eb))))→
  split ee (
   ∀Nw:Int,Nw=(i64.wrap (wv+256))→
   Q ⟨(.tuple #[(.agg #[(.int .u32 (u32.wrap Nw)),(.int .u32 (u32.wrap ec))]),(.int .i64 0)]),(some (.t [none,none])),[],[],[]⟩) (
   Q ⟨(.tuple #[(.agg #[(.int .u32 (u32.wrap wv)),(.int .u32 (u32.wrap ec))]),(.int .i64 0)]),(some (.t [none,none])),[],[],[]⟩))
theorem zH:Vc2 Un prog (aR [(171,jo)]) [5] Tryz.f123 .leaf [] lL=(∀ea eb ec ed ee,∀Q,(lL.body ea eb ec ed ee Q)→zG ea eb ec ed ee Q):=by kernel_rfl
theorem zF:LV Un prog 123 lL:=verify Tryz.func123 aa (tb:= [(171,jo)]) ⟨Cf,trivial⟩ (by kernel_rfl) (zH.mpr fun ea eb ec ed ee Q h gv NB=>aB (fun c1=>(h 0 0 (if(Ent.mk ea eb ec ed ee).ok then 0 else 110) (by grind))) fun c1=>allEq<| af (fun c2=>allEq<| ao (h (u32.wrap (i64.wrap ((i64.wrap ((i64.wrap (ea+(i64.wrap (16*ed))))+(i64.wrap (65536*eb))))+256))) (u32.wrap ec) 0 (by have hk:=Ent.wA.1 c1;have h1:=Ent.dO hk;have h2:=Ent.je hk;simp only at h1 h2;rw [if_pos hk,if_pos hk,if_pos hk];refine⟨?_,bj (x:=ec) (by omega),rfl⟩;simp only [IntKind.wrap_i64,IntKind.wrap_u32,Ent.w0,c2];simp;omega)) (congrArg (fun l=>Value.tuple (List.toArray l)) (ab (congrArg (fun l=>Value.agg (List.toArray l)) (ab (bC (by rfl)) (ab (bC (by rfl)) rfl))) (ab rfl rfl))) rfl rfl) fun c2=>ao (h (u32.wrap (i64.wrap ((i64.wrap (ea+(i64.wrap (16*ed))))+(i64.wrap (65536*eb))))) (u32.wrap ec) 0 (by have hk:=Ent.wA.1 c1;have h1:=Ent.dO hk;have h2:=Ent.je hk;simp only at h1 h2;rw [if_pos hk,if_pos hk,if_pos hk];refine⟨?_,bj (x:=ec) (by omega),rfl⟩;simp only [IntKind.wrap_i64,IntKind.wrap_u32,Ent.w0,c2];simp;omega)) (congrArg (fun l=>Value.tuple (List.toArray l)) (ab (congrArg (fun l=>Value.agg (List.toArray l)) (ab (bC (by rfl)) (ab (bC (by rfl)) rfl))) (ab rfl rfl))) rfl rfl)
theorem Ent.JR {a b x y z:Int}(h:x=(if(parts a b).ok then(parts a b).w0 else 0)∧y=(if(parts a b).ok then(parts a b).w1 else 0)∧z=(if(parts a b).ok then 0 else 110))(c:(z !=0)=true∨(!(cq #[.int .u32 x,.int .u32 y] #[.int .u32 a,.int .u32 b]))=true):dec a b=free∧fm a b=110:=by
 obtain⟨rfl,rfl,rfl⟩:=h
 rw [eqW]at c
 cases hk:(parts a b).ok<;>simp [hk]at c
 ·simp [dec,fm,hk]
 ·have h2:¬((parts a b).w0=a∧(parts a b).w1=b):=by rcases c with c | c<;>simp [c]
  simp [dec,fm,hk,h2]
theorem Ent.Hx {a b x y z:Int}(h:x=(if(parts a b).ok then(parts a b).w0 else 0)∧y=(if(parts a b).ok then(parts a b).w1 else 0)∧z=(if(parts a b).ok then 0 else 110))(c:(z !=0)=false∧(!(cq #[.int .u32 x,.int .u32 y] #[.int .u32 a,.int .u32 b]))=false):dec a b=parts a b∧fm a b=0:=by
 obtain⟨rfl,rfl,rfl⟩:=h
 rw [eqW]at c
 cases hk:(parts a b).ok<;>simp [hk]at c
 simp [dec,fm,hk,c]
def pw:Ctr Un:=⟨[.agg [.int .u32,.int .u32]],[],[],[],fun wa wb K=>(0≤(wa:Int)∧(wa:Int)<4294967296)∧(0≤(wb:Int)∧(wb:Int)<4294967296)∧K ⟨(.tuple #[(.agg #[(.int .i64 ((Ent.dec wa wb).typ)),(.int .i64 ((Ent.dec wa wb).owner)),(.int .i64 ((Ent.dec wa wb).refs)),(.int .i64 ((Ent.dec wa wb).state)),(.bool ((Ent.dec wa wb).aV))]),(.int .i64 (Ent.fm wa wb))]),(some (.t [none,none])),[],[],[]⟩⟩
def F6(wa:Int)(wb:Int)(Q:Ou Un→Prop):Prop:=
 ∀(gv:Nat),
 ∀(NB:Nat),
 (0≤(0:Int)∧(0:Int)<(2:Int))∧
 ∀Pg:Int,Pg=(i64.wrap (u32.wrap (BitVec.ofInt u32.bits ((wa:Int).fdiv (2 ^ 0)) &&& BitVec.ofInt u32.bits 7).toNat))→
 (0≤(0:Int)∧(0:Int)<(2:Int))∧
 ∀OJ:Int,OJ=(i64.wrap (u32.wrap (BitVec.ofInt u32.bits ((wa:Int).fdiv (2 ^ 4)) &&& BitVec.ofInt u32.bits 3).toNat))→
 (0≤(0:Int)∧(0:Int)<(2:Int))∧
 ∀PB:Bool,PB=((u32.wrap (BitVec.ofInt u32.bits ((wa:Int).fdiv (2 ^ 8)) &&& BitVec.ofInt u32.bits 1).toNat:Int)==1)→
 (0≤(0:Int)∧(0:Int)<(2:Int))∧
 ∀RB:Int,RB=(i64.wrap (u32.wrap (BitVec.ofInt u32.bits ((wa:Int).fdiv (2 ^ 16)) &&& BitVec.ofInt u32.bits 63).toNat))→
 (0≤(1:Int)∧(1:Int)<(2:Int))∧
 ∀OU:Int,OU=(i64.wrap (u32.wrap (BitVec.ofInt u32.bits wb &&& BitVec.ofInt u32.bits 63).toNat))→
 ∀(NZ:Nat),
 ∀(x:Int)(y:Int)(z:Int),
 ((x=(if(Ent.mk Pg RB OU OJ PB).ok then(Ent.mk Pg RB OU OJ PB).w0 else 0)∧y=(if(Ent.mk Pg RB OU OJ PB).ok then(Ent.mk Pg RB OU OJ PB).w1 else 0)∧z=(if(Ent.mk Pg RB OU OJ PB).ok then 0 else 110)))→
 ∀(Oa:Nat),
 ∃J:Bool→Prop,(
  split (z !=0) (
   J true) (
   J (!(cq #[(.int .u32 x),(.int .u32 y)] #[(.int .u32 wa),(.int .u32 wb)]))))∧∀(Ro:Nat→Value)(Qj:Bool),J Qj→
 split Qj (
  Q ⟨(.tuple #[(.agg #[(.int .i64 0),(.int .i64 0),(.int .i64 0),(.int .i64 0),(.bool false)]),(.int .i64 110)]),(some (.t [none,none])),[],[],[]⟩) (
  Q ⟨(.tuple #[(.agg #[(.int .i64 Pg),(.int .i64 RB),(.int .i64 OU),(.int .i64 OJ),(.bool PB)]),(.int .i64 0)]),(some (.t [none,none])),[],[],[]⟩)
theorem F7:Vc2 Un prog (aR [(170,ki)]) [11,16,21,26,30] Tryz.f121 (.r' (.r' (.two (.r' (.two (.node [] (some ⟨[(43,(.one .bool))],[],upN 37 7,[]⟩) [] [] .leaf .leaf) .leaf)) .leaf))) [] pw=(∀wa wb,∀Q,(pw.body wa wb Q)→F6 wa wb Q):=by kernel_rfl
theorem F5:LV Un prog 121 pw:=verify Tryz.func121 aa (tb:= [(170,ki)]) ⟨vL,trivial⟩ (by kernel_rfl) (F7.mpr fun wa wb Q h=>by
 obtain⟨e1,e2,e3,e4,e5⟩:=Ent.parts_eq h.1 h.2.1
 obtain⟨NK,Oj,h⟩:=h
 exact fun gv NB=>aj (by omega) fun s1 Pg Wy=>aj ‹_› fun s2 OJ Wx=>aj ‹_› fun s3 PB Ww=>aj ‹_› fun s4 RB Wv=>aj (by omega) fun s5 OU Wu NZ x y z f6=>(by rw [e1]at Wy;rw [e2]at Wv;rw [e3]at Wu;rw [e4]at Wx;rw [e5]at Ww;subst Wy Wv Wu Wx Ww;exact fun Oa=>cN (((z:Int) !=0) || (!(cq #[(.int .u32 x),(.int .u32 y)] #[(.int .u32 wa),(.int .u32 wb)]))) (af (fun c1=>(by grind)) fun c1=>(by grind))<| aZ (fun c2=>(by have hd:=Ent.JR (a:=wa) (b:=wb) f6 c2;exact ao h (by rw [hd.1,hd.2]<;>rfl) rfl rfl)) fun c2=>(by have hd:=Ent.Hx (a:=wa) (b:=wb) f6 c2;exact ao h (by rw [hd.1,hd.2]<;>rfl) rfl rfl)))
theorem puC {P:Program} {f:Nat} {args:Array Value} {w:World} {v:Value} {k:Option Kn}(h:∀X:Nat→Nat→Prop,Sat (U:=Un) [] X w→aC (U:=Un) [] fr0 []→Calls P f args w (aM (U:=Un) [] [] X w (fun o=>o=⟨v,k,[],[],[]⟩)))(hk:g6 k v= .returned v:=by rfl):Calls P f args w fun e w'=>∃u,e= .returned u∧u=v∧Pu w w':=by
 refine(h (fun _ _=>False) ⟨fun i r h=>by simp [nth]at h,fun _ _ _ _ _ _ h=>h.elim⟩ (fun _ _ h=>by cases h)).mono ?_
 rintro e w' ⟨out,rs',X',rfl,rfl,_,hp⟩
 exact⟨_,hk,rfl,hp.ch.mono fun k ⟨j,hj,_⟩=>by cases hj⟩
theorem JN {w:World}(ea eb ec ed:Int)(ee:Bool):
 Calls prog 170 #[(.agg #[(.int .i64 ea),(.int .i64 eb),(.int .i64 ec),(.int .i64 ed),(.bool ee)])] w fun e w'=>∃v,e= .returned v∧v= .tuple #[(.agg #[(.int .u32 (if(Ent.mk ea eb ec ed ee).ok then(Ent.mk ea eb ec ed ee).w0 else 0)),(.int .u32 (if(Ent.mk ea eb ec ed ee).ok then(Ent.mk ea eb ec ed ee).w1 else 0))]),(.int .i64 (if(Ent.mk ea eb ec ed ee).ok then 0 else 110))]∧Pu w w':=
 puC fun X=>vL ea eb ec ed ee (fun o=>o=_) (fun x y z h=>by obtain⟨rfl,rfl,rfl⟩:=h;rfl) X w
theorem Ej {w:World}(ea eb ec ed:Int)(ee:Bool):
 Calls prog 123 #[(.agg #[(.int .i64 ea),(.int .i64 eb),(.int .i64 ec),(.int .i64 ed),(.bool ee)])] w fun e w'=>∃v,e= .returned v∧v= .tuple #[(.agg #[(.int .u32 (if(Ent.mk ea eb ec ed ee).ok then(Ent.mk ea eb ec ed ee).w0 else 0)),(.int .u32 (if(Ent.mk ea eb ec ed ee).ok then(Ent.mk ea eb ec ed ee).w1 else 0))]),(.int .i64 (if(Ent.mk ea eb ec ed ee).ok then 0 else 110))]∧Pu w w':=
 puC fun X=>zF ea eb ec ed ee (fun o=>o=_) (fun x y z h=>by obtain⟨rfl,rfl,rfl⟩:=h;rfl) X w
theorem DC {w:World}(wa wb:Int)(ha:0≤wa∧wa<4294967296)(hb:0≤wb∧wb<4294967296):
 Calls prog 121 #[(.agg #[(.int .u32 wa),(.int .u32 wb)])] w fun e w'=>∃v,e= .returned v∧v=(.tuple #[(.agg #[(.int .i64 ((Ent.dec wa wb).typ)),(.int .i64 ((Ent.dec wa wb).owner)),(.int .i64 ((Ent.dec wa wb).refs)),(.int .i64 ((Ent.dec wa wb).state)),(.bool ((Ent.dec wa wb).aV))]),(.int .i64 (Ent.fm wa wb))])∧Pu w w':=
 puC fun X=>F5 wa wb (fun o=>o=_) ⟨ha,hb,rfl⟩ X w
end
end Go.Proofs.YtinhphjfnedhgaaGreatDoor
namespace Go.Proofs.YtinhphjfnedhgaaGreatDoor
open Go.Proofs.Tryz (prog)
open Go Go.RowKit V
open Go.IntKind (i64 u32 u64)
section
set_option maxRecDepth 10000
set_option maxHeartbeats 1000000
theorem LJ {w:World}(t:Int):
 Calls prog 128 #[(.int .i64 t)] w fun e w'=>∃v,e= .returned v∧v= .bool (DB.turns t)∧Pu w w':=by
 refine xD _ ?_
 have hp:=Ch.refl (fun _=>False) w
 refine⟨fun x w'=>x=(((t:Int)==4) || (((t:Int)==5) || ((t:Int)==6)))∧Pu w w',?_,?_⟩
 ·refine af (fun c1=>?_) (fun c1=>?_)
  ·exact⟨by simp only [c1,Bool.true_and,Bool.and_true,Bool.false_and,Bool.and_false,Bool.true_or,Bool.or_true,Bool.false_or,Bool.or_false,Bool.not_true,Bool.not_false,if_true,if_false,Bool.false_eq_true],Ch.refl _ _⟩
  ·refine af (fun c2=>?_) (fun c2=>?_)
   ·exact⟨by simp only [c1,c2,Bool.true_and,Bool.and_true,Bool.false_and,Bool.and_false,Bool.true_or,Bool.or_true,Bool.false_or,Bool.or_false,Bool.not_true,Bool.not_false,if_true,if_false,Bool.false_eq_true],Ch.refl _ _⟩
   ·exact⟨by simp only [c1,c2,Bool.true_and,Bool.and_true,Bool.false_and,Bool.and_false,Bool.true_or,Bool.or_true,Bool.false_or,Bool.or_false,Bool.not_true,Bool.not_false,if_true,if_false,Bool.false_eq_true],Ch.refl _ _⟩
 rintro _ _ wv ⟨rfl,N4⟩
 have hp:=Ch.pu hp N4
 exact⟨congrArg Value.bool (by simp [DB.turns,Bool.or_assoc]),hp⟩
theorem mu {w:World}(ax:Int):
 Calls prog 78 #[(.int .i64 ax)] w fun e w'=>∃v,e= .returned v∧v= .agg #[(.bool true),(.int .i64 ax)]∧Pu w w':=by
 refine uI _ ?_
 have hp:=Ch.refl (fun _=>False) w
 refine mkd fun gv wv NC=>?_
 have NR:=NC.lo hp
 have Nr:=NC.blk
 refine cx Nr (by simp) fun Nw OT=>?_
 have Nr:Blk Nw gv #[(.bool true),(.int .i64 ax)] _:=OT.blk
 refine⟨_,_,⟨Nr.at rfl,Nr.at rfl⟩,?_⟩
 have hp:=Ch.call (Ch.made hp NC) OT.ch (by exact fun k e=>.inr (e▸NR))
 exact⟨rfl,hp⟩
theorem Hy {L:gj} {D:DB} {w:World}(h:DBP w L D):
 Calls prog 120 #[(.pointer (some (Addr.mk L.g 0 none)))] w fun e w'=>∃v,e= .returned v∧v= .int .i64 (D.S:Int)∧w'=w:=by
 refine oE (some (Addr.mk L.g 0 none)) ?_
 obtain⟨_,dhd_h⟩:=h.hd
 refine ai _ rfl ⟨_,_,_,dhd_h.at rfl,?_⟩
 exact⟨congrArg (Value.int .i64) (by have:=h.S64;rw [aq (by rw [Int.tdiv_eq_ediv_of_nonneg (by omega)];unfold DB.S DB.n2 at *;omega)];rw [Int.tdiv_eq_ediv_of_nonneg (by omega)];unfold DB.S DB.n2;omega),rfl⟩
theorem BH {L:gj} {D:DB} {w:World}(h:DBP w L D)(ax:Int):
 Calls prog 57 #[(.pointer (some (Addr.mk L.g 0 none))),(.int .i64 ax)] w fun e w'=>∃v,e= .returned v∧v= .bool (D.has ax)∧Pu w w':=by
 refine tN (some (Addr.mk L.g 0 none)) _ ?_
 have hp:=Ch.refl (fun _=>False) w
 have OL:=h.lt
 refine⟨fun x w'=>x=((decide ((ax:Int)≥0)) && (decide ((ax:Int)<(D.S:Int))))∧Pu w w',?_,?_⟩
 ·refine af (fun c1=>?_) (fun c1=>?_)
  ·refine Calls.mono (Hy h) ?_
   rintro e w9 ⟨_,rfl,rfl,e9⟩
   obtain rfl:=e9.symm
   refine⟨_,rfl,?_⟩
   exact⟨by simp only [c1,Bool.true_and,Bool.and_true,Bool.false_and,Bool.and_false,Bool.true_or,Bool.or_true,Bool.false_or,Bool.or_false,Bool.not_true,Bool.not_false,if_true,if_false,Bool.false_eq_true],Ch.refl _ _⟩
  ·exact⟨by simp only [c1,Bool.true_and,Bool.and_true,Bool.false_and,Bool.and_false,Bool.true_or,Bool.or_true,Bool.false_or,Bool.or_false,Bool.not_true,Bool.not_false,if_true,if_false,Bool.false_eq_true],Ch.refl _ _⟩
 rintro _ _ wv ⟨rfl,N4⟩
 have hp:=Ch.pu hp N4
 exact⟨congrArg Value.bool (by rw [Bool.eq_iff_iff];simp [DB.has]),hp⟩
theorem dAt {L:gj} {D:DB} {w:World}(h:DBP w L D)(ax:Int)(hp:D.has ax=true):
 Calls prog 58 #[.pointer (some (Addr.mk L.g 0 none)),.int .i64 ax] w fun e w'=>∃v,e= .returned v∧v= .agg #[.int .i64 (D.at_ ax).typ,.int .i64 (D.at_ ax).owner,.int .i64 (D.at_ ax).refs,.int .i64 (D.at_ ax).state,.bool (D.at_ ax).aV]∧Pu w w':=by
 refine Ge _ _ ?_
 refine mkd fun gv wv m=>?_
 have h1:=h.pu m.pu
 obtain⟨T,hd⟩:=h1.hd
 obtain⟨T2,cs,hr,On,hw⟩:=h1.ws
 have hn:=DB.cK hp
 have ho:=DB.bh hp
 have h64:=h.S64
 have e0:i64.wrap (2*ax)=2*ax:=aq (by omega)
 have e1:(2*ax).toNat=2*ax.toNat:=by omega
 have e2:D.n2=2*D.S:=rfl
 refine ai _ rfl ⟨_,_,_,hd.at rfl,by rw [e0,e2];omega,?_⟩
 rintro _ rfl _ rfl _ rfl
 rw [e0,e1,e2]
 refine⟨by omega,ai (Addr.mk L.a (2*ax.toNat) none) (by rw [if_neg (by omega)];simp [Addr.add];omega) ?_⟩
 refine⟨_,_,⟨by rw [bO];exact hr.cell (hw _ hn).1,by rw [bO];exact hr.cell (hw _ hn).2⟩,?_⟩
 have OZ:=(h.ok.ent _ hn).1
 refine Calls.mono (DC _ _ (Ent.xS OZ) (Ent.xR OZ)) ?_
 rw [(Ent.wH OZ).1,(Ent.wH OZ).2]
 rintro e w1 ⟨_,rfl,rfl,q1⟩
 refine⟨_,_,_,_,_,_,rfl,?_⟩
 refine mkd fun g1 w2 m1=>?_
 have b1:=m1.blk
 have b0:=m1.old (q1.blk m.blk)
 have ne:=m1.ne (q1.blk m.blk)
 refine cx b1 (by simp) fun w3 s3=>?_
 have b1':Blk w3 g1 #[.int .i64 (D.at_ ax).typ,.int .i64 (D.at_ ax).owner,.int .i64 (D.at_ ax).refs,.int .i64 (D.at_ ax).state,.bool (D.at_ ax).aV] _:=s3.blk
 refine⟨_,_,_,_,_,⟨b1'.at rfl,b1'.at rfl,b1'.at rfl,b1'.at rfl,b1'.at rfl⟩,?_⟩
 refine cx (s3.old b0 ne) (by simp) fun w4 s4=>?_
 have b0':Blk w4 gv #[.int .i64 (D.at_ ax).typ,.int .i64 (D.at_ ax).owner,.int .i64 (D.at_ ax).refs,.int .i64 (D.at_ ax).state,.bool (D.at_ ax).aV] _:=s4.blk
 refine⟨_,_,_,_,_,⟨b0'.at rfl,b0'.at rfl,b0'.at rfl,b0'.at rfl,b0'.at rfl⟩,?_⟩
 have NK:Pu w wv:=m.pu
 have Om:Pu w w2:=(NK.trans q1).made m1
 exact⟨rfl,(Om.stored s3 (.inr (m1.lo (NK.trans q1)))).stored s4 (.inr (m.lo (Ch.refl (fun _=>False) w)))⟩
theorem EI {L:gj} {D:DB} {w:World}(h:DBP w L D)(ax:Int)(ea eb ec ed:Int)(ee:Bool)(hp:D.has ax=true)(he:(Ent.mk ea eb ec ed ee).ok=true)(QC:eb<(D.S:Int)):
 Calls prog 115 #[.pointer (some (Addr.mk L.g 0 none)),.int .i64 ax,.agg #[.int .i64 ea,.int .i64 eb,.int .i64 ec,.int .i64 ed,.bool ee]] w fun e w'=>∃v,e= .returned v∧v= .tuple #[]∧DBP w' L (D.set ax ⟨ea,eb,ec,ed,ee⟩)∧Ch L.X w w':=by
 refine CI _ _ _ _ _ _ _ ?_
 refine mkd fun gv wv m=>?_
 have b:=m.blk
 refine⟨_,_,_,_,_,⟨b.at rfl,b.at rfl,b.at rfl,b.at rfl,b.at rfl⟩,?_⟩
 refine Calls.mono (JN _ _ _ _ _) ?_
 rw [if_pos he,if_pos he,if_pos he]
 rintro e w1 ⟨_,rfl,rfl,q1⟩
 refine⟨_,_,_,rfl,?_⟩
 refine mkd fun g1 w2 m1=>?_
 have p2:Pu w w2:=((show Pu w wv from m.pu).trans q1).made m1
 refine cx m1.blk (by simp) fun w3 s3=>?_
 have b1:Blk w3 g1 #[.int .u32 (Ent.mk ea eb ec ed ee).w0,.int .u32 (Ent.mk ea eb ec ed ee).w1] _:=s3.blk
 have p3:Pu w w3:=p2.stored s3 (.inr (m1.lo ((show Pu w wv from m.pu).trans q1)))
 have h3:=(h.pu p3).pu (Pu.aI w3)
 have b1:=b1.drew
 obtain⟨T,hd⟩:=h3.hd
 obtain⟨T2,cs,hr,On,hw⟩:=h3.ws
 have hn:=DB.cK hp
 have ho:=DB.bh hp
 have h64:=h.S64
 have e0:i64.wrap (2*ax)=2*ax:=aq (by omega)
 have e1:(2*ax).toNat=2*ax.toNat:=by omega
 have e2:D.n2=2*D.S:=rfl
 have hga:g1≠L.a:=fun e=>by have h5:=(h.lt L.a (.inr (.inl rfl)));have h6:=m1.lo ((show Pu w wv from m.pu).trans q1);omega
 refine⟨fun _ k=>k=L.g,ai _ rfl ⟨block_add _ _,_,_,_,hd.at rfl,by rw [e0,e2];omega,?_⟩⟩
 rintro _ rfl _ rfl _ rfl _ rfl _ rfl _ rfl
 rw [e0,e1,e2,if_neg (by omega),if_neg (by omega)]
 have hl:dA w3.drew (fun k=>k=g1) .u32 (some ((Addr.mk g1 0 none).add (0*1))) (2 - 0) (2 - 0) [(Ent.mk ea eb ec ed ee).w0,(Ent.mk ea eb ec ed ee).w1]:=
  dA.blk (m:=0) (Z:=fun k=>k=g1) b1 rfl (Nat.le_refl _) rfl (fun j x hx=>by
   match j with
   | 0=>simp at hx;subst hx;rfl
   | 1=>simp at hx;subst hx;rfl
   | j+2=>simp at hx)
 have hA:(Option.map (fun x:Addr=>x.add (2*ax.toNat *1)) (some (Addr.mk L.a 0 none)))=some (Addr.mk L.a (2*ax.toNat) none):=by simp [Addr.add];omega
 rw [hA]
 obtain⟨x,w4,PD,hw4⟩:=qN (P:=prog) (dT:=62) (sT:=62) (ty:=3) (o:=2*ax.toNat) (dn:=2*D.S - 2*ax.toNat) (dc:=2*D.S - 2*ax.toNat) nL hr hl (by rw [On,e2];omega) (K:=fun w4=>bF w3.drew L.a (setAt cs (2*ax.toNat) [.int .u32 (Ent.mk ea eb ec ed ee).w0,.int .u32 (Ent.mk ea eb ec ed ee).w1]) T2 w4)
  (fun w4 hs=>by rw [show min (2 - 0) (2*D.S - 2*ax.toNat)=2 by omega]at hs;exact hs)
 refine⟨x,w4,PD,hw4.kept.mono (fun k hk=>by have hk:k=L.g:=(by simpa [bE]using hk);rw [hk];exact fun e=>h.dis.1 e.symm),fun _ k=>k=L.g,fun _ k hk=>hk,rfl,h3.Lb hp he QC hr hw4,?_⟩
 exact(((p3.mono (by simp):Ch L.X w w3)).drew).stored hw4 (.inl (.inr (.inl rfl)))
theorem LK {L:gj} {D:DB} {w:World}(h:DBP w L D)(ax:Int):
 Calls prog 18 #[(.pointer (some (Addr.mk L.g 0 none))),(.int .i64 ax)] w fun e w'=>∃v,e= .returned v∧v= .tuple #[(.agg #[(.int .i64 ((D.entry ax).typ)),(.int .i64 ((D.entry ax).owner)),(.int .i64 ((D.entry ax).refs)),(.int .i64 ((D.entry ax).state)),(.bool ((D.entry ax).aV))]),(.int .i64 (D.aO ax))]∧Pu w w':=by
 refine xI (some (Addr.mk L.g 0 none)) _ ?_
 have hp:=Ch.refl (fun _=>False) w
 have OL:=h.lt
 refine mkd fun gv wv NC=>?_
 have NR:=NC.lo hp
 have Nr:=NC.blk
 have h:=h.pu NC.pu
 refine Calls.mono (BH h _) ?_
 rintro e Nw ⟨_,rfl,rfl,NH⟩
 refine⟨_,rfl,?_⟩
 refine cD (fun c1=>?_) (fun c1=>?_)
 ·have Nr:=Pu.blk NH Nr
  refine cx Nr (by simp) fun Ny Ot=>?_
  have Nr:Blk Ny gv #[(.int .i64 0),(.int .i64 0),(.int .i64 0),(.int .i64 0),(.bool false)] _:=Ot.blk
  refine⟨_,_,_,_,_,⟨Nr.at rfl,Nr.at rfl,Nr.at rfl,Nr.at rfl,Nr.at rfl⟩,?_⟩
  have hp:=Ch.call (Ch.pu (Ch.made hp NC) NH) Ot.ch (by exact fun k e=>.inr (e▸NR))
  exact⟨by(simp [DB.entry,DB.aO,c1];done),hp⟩
 ·have h:=h.pu NH
  refine Calls.mono (dAt h _ ‹_›) ?_
  rintro e Ny ⟨_,rfl,rfl,N3⟩
  have Nr:=Pu.blk N3 (Pu.blk NH Nr)
  refine⟨_,_,_,_,_,rfl,cx Nr (by simp) fun NF ND=>?_⟩
  have Nr:Blk NF gv #[(.int .i64 ((D.at_ ax).typ)),(.int .i64 ((D.at_ ax).owner)),(.int .i64 ((D.at_ ax).refs)),(.int .i64 ((D.at_ ax).state)),(.bool ((D.at_ ax).aV))] _:=ND.blk
  refine⟨_,_,_,_,_,⟨Nr.at rfl,Nr.at rfl,Nr.at rfl,Nr.at rfl,Nr.at rfl⟩,?_⟩
  have hp:=Ch.call (Ch.pu (Ch.pu (Ch.made hp NC) NH) N3) ND.ch (by exact fun k e=>.inr (e▸NR))
  exact⟨by(simp [DB.entry,DB.aO,c1];done),hp⟩
theorem yY {L:gj} {D:DB} {w:World}(h:DBP w L D)(ax:Int):
 Calls prog 116 #[(.pointer (some (Addr.mk L.g 0 none))),(.int .i64 ax)] w fun e w'=>∃v,e= .returned v∧v= .bool (D.fg ax)∧Pu w w':=by
 refine tM (some (Addr.mk L.g 0 none)) _ ?_
 have hp:=Ch.refl (fun _=>False) w
 have OL:=h.lt
 refine⟨fun x w'=>x=((D.has ax) && ((((D.at_ ax).typ):Int)==1))∧Pu w w',?_,?_⟩
 ·refine Calls.mono (BH h _) ?_
  rintro e wv ⟨_,rfl,rfl,N4⟩
  refine⟨_,rfl,?_⟩
  refine af (fun c1=>?_) (fun c1=>?_)
  ·have h:=h.pu N4
   refine Calls.mono (dAt h _ ‹_›) ?_
   rintro e Nw ⟨_,rfl,rfl,NH⟩
   refine⟨_,_,_,_,_,rfl,?_⟩
   exact⟨by simp only [c1,Bool.true_and,Bool.and_true,Bool.false_and,Bool.and_false,Bool.true_or,Bool.or_true,Bool.false_or,Bool.or_false,Bool.not_true,Bool.not_false,if_true,if_false,Bool.false_eq_true],(Ch.pu N4 NH)⟩
  ·exact⟨by simp only [c1,Bool.true_and,Bool.and_true,Bool.false_and,Bool.and_false,Bool.true_or,Bool.or_true,Bool.false_or,Bool.or_false,Bool.not_true,Bool.not_false,if_true,if_false,Bool.false_eq_true],N4⟩
 rintro _ _ wv ⟨rfl,N4⟩
 have hp:=Ch.pu hp N4
 exact⟨congrArg Value.bool (by(simp [DB.fg];done)),hp⟩
theorem KV {L:gj} {D:DB} {w:World}(h:DBP w L D)(space:Int)(more:Int)(hp:D.has space=true)(he:({D.at_ space with refs:=(D.at_ space).refs+more}:Ent).ok=true):
 Calls prog 117 #[(.pointer (some (Addr.mk L.g 0 none))),(.int .i64 space),(.int .i64 more)] w fun e w'=>∃v,e= .returned v∧v= .tuple #[]∧DBP w' L (D.more space more)∧Ch L.X w w':=by
 refine AJ (some (Addr.mk L.g 0 none)) _ _ ?_
 have hi:i64.wrap ((D.at_ space).refs+more)=(D.at_ space).refs+more:=aq (by have:=Ent.dO he;simp only at this;omega)
 have ho:=(h.ok.ent _ (DB.cK hp)).2
 have hp:=Ch.refl L.X w
 have OL:=h.lt
 refine Calls.mono (dAt h _ ‹_›) ?_
 rintro e wv ⟨_,rfl,rfl,N4⟩
 refine⟨_,_,_,_,_,rfl,?_⟩
 have hp:=Ch.pu hp N4
 refine mkd fun gv Nw NC=>?_
 have NR:=NC.lo hp
 have Nr:=NC.blk
 refine cx Nr (by simp) fun Ny Ot=>?_
 have Nr:Blk Ny gv #[(.int .i64 ((D.at_ space).typ)),(.int .i64 ((D.at_ space).owner)),(.int .i64 ((D.at_ space).refs)),(.int .i64 ((D.at_ space).state)),(.bool ((D.at_ space).aV))] _:=Ot.blk
 refine⟨_,Nr.at rfl,aP Nr (by simp) fun NF ND=>?_⟩
 have Nr:Blk NF gv #[(.int .i64 ((D.at_ space).typ)),(.int .i64 ((D.at_ space).owner)),_,(.int .i64 ((D.at_ space).state)),(.bool ((D.at_ space).aV))] _:=ND.blk
 refine⟨_,_,_,_,_,⟨Nr.at rfl,Nr.at rfl,Nr.at rfl,Nr.at rfl,Nr.at rfl⟩,?_⟩
 have h:=(((h.pu N4).pu NC.pu).ch Ot.ch (fun k hx e=>(fun hx=>absurd (OL _ hx) (Nat.not_lt.2 NR)) (e▸hx))).ch ND.ch (fun k hx e=>(fun hx=>absurd (OL _ hx) (Nat.not_lt.2 NR)) (e▸hx))
 refine Calls.mono (EI h _ _ _ _ _ _ ‹_› (by rw [hi];exact he) (by exact ho)) ?_
 rintro e NI ⟨_,rfl,rfl,h,OF⟩
 refine⟨rfl,?_⟩
 have hp:=Ch.call (Ch.call (Ch.call (Ch.made hp NC) Ot.ch (by exact fun k e=>.inr (e▸NR))) ND.ch (by exact fun k e=>.inr (e▸NR))) OF (by exact fun k hk=>.inl hk)
 exact⟨rfl,by rw [show D.more space more=D.set space ⟨((D.at_ space).typ),((D.at_ space).owner),(i64.wrap (((D.at_ space).refs)+more)),((D.at_ space).state),((D.at_ space).aV)⟩from by rw [hi];rfl];exact h,hp⟩
theorem MM {L:gj} {D:DB} {w:World}(h:DBP w L D)(ax:Int)(t:Int)(space:Int):
 Calls prog 64 #[(.pointer (some (Addr.mk L.g 0 none))),(.int .i64 ax),(.int .i64 t),(.int .i64 space)] w fun e w'=>∃v,e= .returned v∧v= .int .i64 (D.cZ ax t space)∧DBP w' L (D.take ax t space)∧Ch L.X w w':=by
 refine AG (some (Addr.mk L.g 0 none)) _ _ _ ?_
 have h_0:=h
 have hp:=Ch.refl L.X w
 have OL:=h.lt
 refine Calls.mono (BH h _) ?_
 rintro e wv ⟨_,rfl,rfl,N4⟩
 refine⟨_,rfl,?_⟩
 rintro _ rfl
 refine cD (fun c1=>?_) (fun c1=>?_)
 ·have h:=h.pu N4
  have hp:=Ch.pu hp N4
  exact⟨congrArg (Value.int .i64) (by(simp [DB.take,DB.eG,DB.cZ,c1];done)),by rw [show D.take ax t space=D from by(simp [DB.take,DB.eG,DB.cZ,c1];done)];exact h,hp⟩
 ·refine⟨fun x w'=>x=(((t:Int) !=2) && (!(DB.turns t)))∧Pu wv w',?_,?_⟩
  ·refine af (fun c2=>?_) (fun c2=>?_)
   ·refine Calls.mono (LJ _) ?_
    rintro e Nw ⟨_,rfl,rfl,NH⟩
    refine⟨_,rfl,?_⟩
    rintro _ rfl
    exact⟨by simp only [c2,Bool.true_and,Bool.and_true,Bool.false_and,Bool.and_false,Bool.true_or,Bool.or_true,Bool.false_or,Bool.or_false,Bool.not_true,Bool.not_false,if_true,if_false,Bool.false_eq_true],NH⟩
   ·rintro _ rfl
    exact⟨by simp only [c2,Bool.true_and,Bool.and_true,Bool.false_and,Bool.and_false,Bool.true_or,Bool.or_true,Bool.false_or,Bool.or_false,Bool.not_true,Bool.not_false,if_true,if_false,Bool.false_eq_true],Ch.refl _ _⟩
  rintro _ _ Nw ⟨rfl,NH⟩
  refine cE (fun c3=>?_) (fun c3=>?_)
  ·have h:=(h.pu N4).pu NH
   have hp:=Ch.pu (Ch.pu hp N4) NH
   exact⟨congrArg (Value.int .i64) (by(simp [DB.take,DB.eG,DB.cZ,c1,c3];done)),by rw [show D.take ax t space=D from by(simp [DB.take,DB.eG,DB.cZ,c1,c3];done)];exact h,hp⟩
  ·refine⟨fun x w'=>x=((!(D.fg space)) || (decide ((((D.at_ space).refs):Int)≥63)))∧Pu Nw w',?_,?_⟩
   ·have h:=(h.pu N4).pu NH
    refine Calls.mono (yY h _) ?_
    rintro e Ny ⟨_,rfl,rfl,N3⟩
    refine⟨_,rfl,?_⟩
    refine af (fun c4=>?_) (fun c4=>?_)
    ·rintro _ rfl
     exact⟨by simp only [c4,Bool.true_and,Bool.and_true,Bool.false_and,Bool.and_false,Bool.true_or,Bool.or_true,Bool.false_or,Bool.or_false,Bool.not_true,Bool.not_false,if_true,if_false,Bool.false_eq_true],N3⟩
    ·have h:=h.pu N3
     refine Calls.mono (dAt h _ (by grind [DB.take,DB.eG,DB.cZ,DB.fg])) ?_
     rintro e NF ⟨_,rfl,rfl,N6⟩
     refine⟨_,_,_,_,_,rfl,?_⟩
     rintro _ rfl
     exact⟨by simp only [c4,Bool.true_and,Bool.and_true,Bool.false_and,Bool.and_false,Bool.true_or,Bool.or_true,Bool.false_or,Bool.or_false,Bool.not_true,Bool.not_false,if_true,if_false,Bool.false_eq_true],(Ch.pu N3 N6)⟩
   rintro _ _ Ny ⟨rfl,N3⟩
   refine aZ (fun c5=>?_) (fun c5=>?_)
   ·have h:=((h.pu N4).pu NH).pu N3
    have hp:=Ch.pu (Ch.pu (Ch.pu hp N4) NH) N3
    exact⟨congrArg (Value.int .i64) (by grind [DB.take,DB.eG,DB.cZ]),by rw [show D.take ax t space=D from by grind [DB.take,DB.eG,DB.cZ]];exact h,hp⟩
   ·have h:=((h.pu N4).pu NH).pu N3
    refine Calls.mono (dAt h _ ‹_›) ?_
    rintro e NF ⟨_,rfl,rfl,N6⟩
    refine⟨_,_,_,_,_,rfl,?_⟩
    rintro _ rfl
    refine aB (fun c6=>?_) (fun c6=>?_)
    ·have h:=h.pu N6
     have hp:=Ch.pu (Ch.pu (Ch.pu (Ch.pu hp N4) NH) N3) N6
     exact⟨congrArg (Value.int .i64) (by grind [DB.take,DB.eG,DB.cZ]),by rw [show D.take ax t space=D from by grind [DB.take,DB.eG,DB.cZ]];exact h,hp⟩
    ·have h:=h.pu N6
     refine Calls.mono (EI h _ _ _ _ _ _ ‹_› (by obtain⟨O2,Ti⟩:=DB.fY (d:=D) (p:=space) (by grind);have:=DB.bh O2;have:=h.S64;exact DB.G1 (by grind) (by omega)) (by obtain⟨O2,Ti⟩:=DB.fY (d:=D) (p:=space) (by grind);exact(DB.bh O2).2)) ?_
     rintro e NI ⟨_,rfl,rfl,h,OF⟩
     refine⟨rfl,?_⟩
     refine Calls.mono (KV h _ _ (by obtain⟨O2,Ti⟩:=DB.fY (d:=D) (p:=space) (by grind);exact O2) (by obtain⟨O2,Ti⟩:=DB.fY (d:=D) (p:=space) (by grind);rw [DB.MY (d:=D) c1 O2 (by omega)];have h3:=(h_0.ok.at_ O2).1;have h4:=Ent.dO h3;exact DB.nT h3 Ti (by grind))) ?_
     rintro e NW ⟨_,rfl,rfl,h,Od⟩
     refine⟨rfl,?_⟩
     have hp:=Ch.call (Ch.call (Ch.pu (Ch.pu (Ch.pu (Ch.pu hp N4) NH) N3) N6) OF (by exact fun k hk=>.inl hk)) Od (by exact fun k hk=>.inl hk)
     exact⟨congrArg (Value.int .i64) (by grind [DB.take,DB.eG,DB.cZ]),by rw [show D.take ax t space=(D.set ax ⟨t,space,0,0,false⟩).more space 1 from by grind [DB.take,DB.eG,DB.cZ]];exact h,hp⟩
theorem EH {L:gj} {D:DB} {w:World}(h:DBP w L D)(space:Int)(s:Int):
 Calls prog 43 #[(.pointer (some (Addr.mk L.g 0 none))),(.int .i64 space),(.int .i64 s)] w fun e w'=>∃v,e= .returned v∧v= .int .i64 (D.bN space s)∧DBP w' L (D.setState space s)∧Ch L.X w w':=by
 refine qz (some (Addr.mk L.g 0 none)) _ _ ?_
 have hp:=Ch.refl L.X w
 have OL:=h.lt
 refine Calls.mono (BH h _) ?_
 rintro e wv ⟨_,rfl,rfl,N4⟩
 refine⟨_,rfl,?_⟩
 refine cD (fun c1=>?_) (fun c1=>?_)
 ·have h:=h.pu N4
  have hp:=Ch.pu hp N4
  exact⟨congrArg (Value.int .i64) (by(simp [DB.setState,DB.bN,c1];done)),by rw [show D.setState space s=D from by(simp [DB.setState,DB.bN,c1];done)];exact h,hp⟩
 ·have h:=h.pu N4
  refine Calls.mono (dAt h _ ‹_›) ?_
  rintro e Nw ⟨_,rfl,rfl,NH⟩
  refine⟨_,_,_,_,_,rfl,?_⟩
  have hp:=Ch.pu (Ch.pu hp N4) NH
  refine mkd fun gv Ny NC=>?_
  have NR:=NC.lo hp
  have Nr:=NC.blk
  refine cx Nr (by simp) fun NF ND=>?_
  have Nr:Blk NF gv #[(.int .i64 ((D.at_ space).typ)),(.int .i64 ((D.at_ space).owner)),(.int .i64 ((D.at_ space).refs)),(.int .i64 ((D.at_ space).state)),(.bool ((D.at_ space).aV))] _:=ND.blk
  refine⟨_,Nr.at rfl,?_⟩
  rintro _ rfl
  refine aB (fun c2=>?_) (fun c2=>?_)
  ·have h:=((h.pu NH).pu NC.pu).ch ND.ch (fun k hx e=>(fun hx=>absurd (OL _ hx) (Nat.not_lt.2 NR)) (e▸hx))
   have hp:=Ch.call (Ch.made hp NC) ND.ch (by exact fun k e=>.inr (e▸NR))
   exact⟨congrArg (Value.int .i64) (by(simp [DB.setState,DB.bN,c1,c2];done)),by rw [show D.setState space s=D from by(simp [DB.setState,DB.bN,c1,c2];done)];exact h,hp⟩
  ·refine⟨fun x w'=>x=(((s:Int) !=3) && (((((D.at_ space).state):Int) !=1) || ((s:Int) !=2)))∧Pu NF w',?_,?_⟩
   ·refine af (fun c3=>?_) (fun c3=>?_)
    ·refine⟨_,Nr.at rfl,?_⟩
     refine af (fun c4=>?_) (fun c4=>?_)
     ·rintro _ rfl
      exact⟨by simp only [c3,c4,Bool.true_and,Bool.and_true,Bool.false_and,Bool.and_false,Bool.true_or,Bool.or_true,Bool.false_or,Bool.or_false,Bool.not_true,Bool.not_false,if_true,if_false,Bool.false_eq_true],Ch.refl _ _⟩
     ·rintro _ rfl
      exact⟨by simp only [c3,c4,Bool.true_and,Bool.and_true,Bool.false_and,Bool.and_false,Bool.true_or,Bool.or_true,Bool.false_or,Bool.or_false,Bool.not_true,Bool.not_false,if_true,if_false,Bool.false_eq_true],Ch.refl _ _⟩
    ·rintro _ rfl
     exact⟨by simp only [c3,Bool.true_and,Bool.and_true,Bool.false_and,Bool.and_false,Bool.true_or,Bool.or_true,Bool.false_or,Bool.or_false,Bool.not_true,Bool.not_false,if_true,if_false,Bool.false_eq_true],Ch.refl _ _⟩
   rintro _ _ NI ⟨rfl,OF⟩
   refine cE (fun c5=>?_) (fun c5=>?_)
   ·have h:=(((h.pu NH).pu NC.pu).ch ND.ch (fun k hx e=>(fun hx=>absurd (OL _ hx) (Nat.not_lt.2 NR)) (e▸hx))).pu OF
    have hp:=Ch.pu (Ch.call (Ch.made hp NC) ND.ch (by exact fun k e=>.inr (e▸NR))) OF
    exact⟨congrArg (Value.int .i64) (by(simp [DB.setState,DB.bN,c1,c2,c5];done)),by rw [show D.setState space s=D from by(simp [DB.setState,DB.bN,c1,c2,c5];done)];exact h,hp⟩
   ·have Nr:=Pu.blk OF Nr
    refine aP Nr (by simp) fun NW Oq=>?_
    have Nr:Blk NW gv #[(.int .i64 ((D.at_ space).typ)),(.int .i64 ((D.at_ space).owner)),(.int .i64 ((D.at_ space).refs)),(.int .i64 s),(.bool ((D.at_ space).aV))] _:=Oq.blk
    refine⟨_,_,_,_,_,⟨Nr.at rfl,Nr.at rfl,Nr.at rfl,Nr.at rfl,Nr.at rfl⟩,?_⟩
    have h:=((((h.pu NH).pu NC.pu).ch ND.ch (fun k hx e=>(fun hx=>absurd (OL _ hx) (Nat.not_lt.2 NR)) (e▸hx))).pu OF).ch Oq.ch (fun k hx e=>(fun hx=>absurd (OL _ hx) (Nat.not_lt.2 NR)) (e▸hx))
    refine Calls.mono (EI h _ _ _ _ _ _ ‹_› (by exact DB.KN (h.ok.at_ c1).1 (by grind) (by grind)) (by exact(h.ok.at_ c1).2.1)) ?_
    rintro e NT ⟨_,rfl,rfl,h,N9⟩
    refine⟨rfl,?_⟩
    have hp:=Ch.call (Ch.call (Ch.pu (Ch.call (Ch.made hp NC) ND.ch (by exact fun k e=>.inr (e▸NR))) OF) Oq.ch (by exact fun k e=>.inr (e▸NR))) N9 (by exact fun k hk=>.inl hk)
    exact⟨congrArg (Value.int .i64) (by grind [DB.setState,DB.bN]),by rw [show D.setState space s=D.set space ⟨((D.at_ space).typ),((D.at_ space).owner),((D.at_ space).refs),s,((D.at_ space).aV)⟩from by grind [DB.setState,DB.bN]];exact h,hp⟩
theorem MP {L:gj} {D:DB} {w:World}(h:DBP w L D)(ax:Int):
 Calls prog 45 #[(.pointer (some (Addr.mk L.g 0 none))),(.int .i64 ax)] w fun e w'=>∃v,e= .returned v∧v= .int .i64 (D.dy ax)∧DBP w' L (D.fu ax)∧Ch L.X w w':=by
 refine AQ (some (Addr.mk L.g 0 none)) _ ?_
 have h_0:=h
 have hp:=Ch.refl L.X w
 have OL:=h.lt
 refine Calls.mono (BH h _) ?_
 rintro e wv ⟨_,rfl,rfl,N4⟩
 refine⟨_,rfl,?_⟩
 refine cD (fun c1=>?_) (fun c1=>?_)
 ·have h:=h.pu N4
  have hp:=Ch.pu hp N4
  exact⟨congrArg (Value.int .i64) (by(simp [DB.fu,DB.fK,DB.dy,DB.cp,DB.cA,Mem.cR,DB.gp,DB.fF,DB.mem_set,DB.more,c1];done)),by rw [show D.fu ax=D from by(simp [DB.fu,DB.fK,DB.dy,DB.cp,DB.cA,Mem.cR,DB.gp,DB.fF,DB.mem_set,DB.more,c1];done)];exact h,hp⟩
 ·have h:=h.pu N4
  refine Calls.mono (dAt h _ ‹_›) ?_
  rintro e Nw ⟨_,rfl,rfl,NH⟩
  refine⟨_,_,_,_,_,rfl,?_⟩
  have hp:=Ch.pu (Ch.pu hp N4) NH
  refine mkd fun gv Ny NC=>?_
  have NR:=NC.lo hp
  have Nr:=NC.blk
  refine cx Nr (by simp) fun NF ND=>?_
  have Nr:Blk NF gv #[(.int .i64 ((D.at_ ax).typ)),(.int .i64 ((D.at_ ax).owner)),(.int .i64 ((D.at_ ax).refs)),(.int .i64 ((D.at_ ax).state)),(.bool ((D.at_ ax).aV))] _:=ND.blk
  refine⟨_,Nr.at rfl,?_⟩
  rintro _ rfl
  refine aG (fun c2=>?_) (fun c2=>?_)
  ·have h:=((h.pu NH).pu NC.pu).ch ND.ch (fun k hx e=>(fun hx=>absurd (OL _ hx) (Nat.not_lt.2 NR)) (e▸hx))
   have hp:=Ch.call (Ch.made hp NC) ND.ch (by exact fun k e=>.inr (e▸NR))
   exact⟨congrArg (Value.int .i64) (by(simp [DB.fu,DB.fK,DB.dy,DB.cp,DB.cA,Mem.cR,DB.gp,DB.fF,DB.mem_set,DB.more,c1,c2];done)),by rw [show D.fu ax=D from by(simp [DB.fu,DB.fK,DB.dy,DB.cp,DB.cA,Mem.cR,DB.gp,DB.fF,DB.mem_set,DB.more,c1,c2];done)];exact h,hp⟩
  ·refine⟨fun x w'=>x=(((((D.at_ ax).typ):Int)==1) && (decide ((((D.at_ ax).refs):Int)>0)))∧Pu NF w',?_,?_⟩
   ·refine⟨_,Nr.at rfl,?_⟩
    refine af (fun c3=>?_) (fun c3=>?_)
    ·refine⟨_,Nr.at rfl,?_⟩
     rintro _ rfl
     exact⟨by simp only [c3,Bool.true_and,Bool.and_true,Bool.false_and,Bool.and_false,Bool.true_or,Bool.or_true,Bool.false_or,Bool.or_false,Bool.not_true,Bool.not_false,if_true,if_false,Bool.false_eq_true],Ch.refl _ _⟩
    ·rintro _ rfl
     exact⟨by simp only [c3,Bool.true_and,Bool.and_true,Bool.false_and,Bool.and_false,Bool.true_or,Bool.or_true,Bool.false_or,Bool.or_false,Bool.not_true,Bool.not_false,if_true,if_false,Bool.false_eq_true],Ch.refl _ _⟩
   rintro _ _ NI ⟨rfl,OF⟩
   refine cE (fun c4=>?_) (fun c4=>?_)
   ·have h:=(((h.pu NH).pu NC.pu).ch ND.ch (fun k hx e=>(fun hx=>absurd (OL _ hx) (Nat.not_lt.2 NR)) (e▸hx))).pu OF
    have hp:=Ch.pu (Ch.call (Ch.made hp NC) ND.ch (by exact fun k e=>.inr (e▸NR))) OF
    exact⟨congrArg (Value.int .i64) (by(simp [DB.fu,DB.fK,DB.dy,DB.cp,DB.cA,Mem.cR,DB.gp,DB.fF,DB.mem_set,DB.more,c1,c2,c4];done)),by rw [show D.fu ax=D from by(simp [DB.fu,DB.fK,DB.dy,DB.cp,DB.cA,Mem.cR,DB.gp,DB.fF,DB.mem_set,DB.more,c1,c2,c4];done)];exact h,hp⟩
   ·have h:=(((h.pu NH).pu NC.pu).ch ND.ch (fun k hx e=>(fun hx=>absurd (OL _ hx) (Nat.not_lt.2 NR)) (e▸hx))).pu OF
    refine Calls.mono (EI h _ _ _ _ _ _ ‹_› (by exact Ent.wC) (by have:=DB.bh c1;omega)) ?_
    rintro e NW ⟨_,rfl,rfl,h,Od⟩
    refine⟨rfl,?_⟩
    refine⟨fun x w'=>x=(((((D.at_ ax).typ):Int) !=1) && (((D.set ax ⟨0,0,0,0,false⟩).fg ((D.at_ ax).owner)) && (decide (((((D.set ax ⟨0,0,0,0,false⟩).at_ ((D.at_ ax).owner)).refs):Int)>0))))∧Pu NW w',?_,?_⟩
    ·have Nr:=Ch.blk Od (Pu.blk OF Nr) (fun hx=>absurd (OL _ hx) (Nat.not_lt.2 NR))
     refine⟨_,Nr.at rfl,?_⟩
     refine af (fun c5=>?_) (fun c5=>?_)
     ·refine⟨_,Nr.at rfl,?_⟩
      refine Calls.mono (yY h _) ?_
      rintro e NT ⟨_,rfl,rfl,N9⟩
      refine⟨_,rfl,?_⟩
      refine af (fun c6=>?_) (fun c6=>?_)
      ·have Nr:=Pu.blk N9 Nr
       refine⟨_,Nr.at rfl,?_⟩
       have h:=h.pu N9
       refine Calls.mono (dAt h _ (by grind [DB.fu,DB.fK,DB.dy,DB.cp,DB.cA,Mem.cR,DB.gp,DB.fF,DB.mem_set,DB.more,DB.fg])) ?_
       rintro e NU ⟨_,rfl,rfl,NL⟩
       refine⟨_,_,_,_,_,rfl,?_⟩
       exact⟨by simp only [c5,c6,Bool.true_and,Bool.and_true,Bool.false_and,Bool.and_false,Bool.true_or,Bool.or_true,Bool.false_or,Bool.or_false,Bool.not_true,Bool.not_false,if_true,if_false,Bool.false_eq_true],(Ch.pu N9 NL)⟩
      ·exact⟨by simp only [c5,c6,Bool.true_and,Bool.and_true,Bool.false_and,Bool.and_false,Bool.true_or,Bool.or_true,Bool.false_or,Bool.or_false,Bool.not_true,Bool.not_false,if_true,if_false,Bool.false_eq_true],N9⟩
     ·exact⟨by simp only [c5,Bool.true_and,Bool.and_true,Bool.false_and,Bool.and_false,Bool.true_or,Bool.or_true,Bool.false_or,Bool.or_false,Bool.not_true,Bool.not_false,if_true,if_false,Bool.false_eq_true],Ch.refl _ _⟩
    rintro _ _ NT ⟨rfl,N9⟩
    refine cE (fun c7=>?_) (fun c7=>?_)
    ·have Nr:=Pu.blk N9 (Ch.blk Od (Pu.blk OF Nr) (fun hx=>absurd (OL _ hx) (Nat.not_lt.2 NR)))
     refine⟨_,Nr.at rfl,?_⟩
     have h:=h.pu N9
     refine Calls.mono (KV h _ _ (by exact(DB.fY (d:=D.set ax ⟨0,0,0,0,false⟩) (by grind)).1) (by have h2:=DB.fY (d:=D.set ax ⟨0,0,0,0,false⟩) (p:=(D.at_ ax).owner) (by grind);have h3:=Ent.dO (h.ok.at_ h2.1).1;exact DB.nT (h.ok.at_ h2.1).1 h2.2 (by grind))) ?_
     rintro e NU ⟨_,rfl,rfl,h,NL⟩
     refine⟨rfl,?_⟩
     refine⟨bXU [3] [] NU.drew L.M.X,?_⟩
     have h:=h.pu (Pu.aI _)
     obtain⟨_,dhd_h⟩:=h.hd
     refine ai _ rfl ⟨.inr ⟨by decide,bX.ld dhd_h (h.dis.2.1) _⟩,_,dhd_h.at rfl,?_⟩
     refine Calls.mono (mu _) ?_
     rintro e N1 ⟨_,rfl,rfl,NQ⟩
     refine⟨_,_,rfl,?_⟩
     refine bXU.du NQ (by decide) ?_
     have h:=h.pu NQ
     refine Calls.mono (Hv h _ _) ?_
     rintro e Oy ⟨_,rfl,rfl,h,OA⟩
     refine⟨_,rfl,?_⟩
     refine bXU.more OA (by intro k hk;exact .inl hk) (by decide) ?_
     have hp:=Ch.call (Ch.pu (Ch.drew (Ch.call (Ch.pu (Ch.call (Ch.pu (Ch.call (Ch.made hp NC) ND.ch (by exact fun k e=>.inr (e▸NR))) OF) Od (by exact fun k hk=>.inl hk)) N9) NL (by exact fun k hk=>.inl hk))) NQ) (OA.mono L.inM) (by exact fun k hk=>.inl hk)
     exact⟨congrArg (Value.int .i64) (by grind [DB.fu,DB.fK,DB.dy,DB.cp,DB.cA,Mem.cR,DB.gp,DB.fF,DB.mem_set,DB.more]),by rw [show D.fu ax=(((D.set ax ⟨0,0,0,0,false⟩).more ((D.at_ ax).owner) (-1)).bf (((D.set ax ⟨0,0,0,0,false⟩).more ((D.at_ ax).owner) (-1)).mem.zero true ax))from by grind [DB.fu,DB.fK,DB.dy,DB.cp,DB.cA,Mem.cR,DB.gp,DB.fF,DB.mem_set,DB.more]];exact h,hp⟩
    ·refine⟨bXU [3] [] NT.drew L.M.X,?_⟩
     have h:=(h.pu N9).pu (Pu.aI _)
     obtain⟨_,dhd_h⟩:=h.hd
     refine ai _ rfl ⟨.inr ⟨by decide,bX.ld dhd_h (h.dis.2.1) _⟩,_,dhd_h.at rfl,?_⟩
     refine Calls.mono (mu _) ?_
     rintro e NU ⟨_,rfl,rfl,NL⟩
     refine⟨_,_,rfl,?_⟩
     refine bXU.du NL (by decide) ?_
     have h:=h.pu NL
     refine Calls.mono (Hv h _ _) ?_
     rintro e N1 ⟨_,rfl,rfl,h,NQ⟩
     refine⟨_,rfl,?_⟩
     refine bXU.more NQ (by intro k hk;exact .inl hk) (by decide) ?_
     have hp:=Ch.call (Ch.pu (Ch.drew (Ch.pu (Ch.call (Ch.pu (Ch.call (Ch.made hp NC) ND.ch (by exact fun k e=>.inr (e▸NR))) OF) Od (by exact fun k hk=>.inl hk)) N9)) NL) (NQ.mono L.inM) (by exact fun k hk=>.inl hk)
     exact⟨congrArg (Value.int .i64) (by grind [DB.fu,DB.fK,DB.dy,DB.cp,DB.cA,Mem.cR,DB.gp,DB.fF,DB.mem_set,DB.more]),by rw [show D.fu ax=((D.set ax ⟨0,0,0,0,false⟩).bf ((D.set ax ⟨0,0,0,0,false⟩).mem.zero true ax))from by grind [DB.fu,DB.fK,DB.dy,DB.cp,DB.cA,Mem.cR,DB.gp,DB.fF,DB.mem_set,DB.more]];exact h,hp⟩
theorem BG {L:gj} {D:DB} {w:World}(h:DBP w L D)(space:Int)(first:Int):
 Calls prog 60 #[(.pointer (some (Addr.mk L.g 0 none))),(.int .i64 space),(.int .i64 first)] w fun e w'=>∃v,e= .returned v∧v= .int .i64 (D.aT space first)∧DBP w' L (D.aS space first)∧Ch L.X w w':=by
 refine py (some (Addr.mk L.g 0 none)) _ _ ?_
 have h64:=h.S64
 have hbo:=h.ok.aF
 have hp:=Ch.refl L.X w
 have OL:=h.lt
 refine⟨fun x w'=>x=((!(D.has space)) || (!(D.has first)))∧Pu w w',?_,?_⟩
 ·refine Calls.mono (BH h _) ?_
  rintro e wv ⟨_,rfl,rfl,N4⟩
  refine⟨_,rfl,?_⟩
  refine af (fun c1=>?_) (fun c1=>?_)
  ·rintro _ rfl
   exact⟨by simp only [c1,Bool.true_and,Bool.and_true,Bool.false_and,Bool.and_false,Bool.true_or,Bool.or_true,Bool.false_or,Bool.or_false,Bool.not_true,Bool.not_false,if_true,if_false,Bool.false_eq_true],N4⟩
  ·have h:=h.pu N4
   refine Calls.mono (BH h _) ?_
   rintro e Nw ⟨_,rfl,rfl,NH⟩
   refine⟨_,rfl,?_⟩
   rintro _ rfl
   exact⟨by simp only [c1,Bool.true_and,Bool.and_true,Bool.false_and,Bool.and_false,Bool.true_or,Bool.or_true,Bool.false_or,Bool.or_false,Bool.not_true,Bool.not_false,if_true,if_false,Bool.false_eq_true],(Ch.pu N4 NH)⟩
 rintro _ _ wv ⟨rfl,N4⟩
 refine aZ (fun c2=>?_) (fun c2=>?_)
 ·have h:=h.pu N4
  have hp:=Ch.pu hp N4
  exact⟨congrArg (Value.int .i64) (by grind [DB.aS,DB.bM,DB.aT]),by rw [show D.aS space first=D from by grind [DB.aS,DB.bM,DB.aT]];exact h,hp⟩
 ·rintro _ rfl
  refine aG (fun c3=>?_) (fun c3=>?_)
  ·have h:=h.pu N4
   have hp:=Ch.pu hp N4
   exact⟨congrArg (Value.int .i64) (by(simp [DB.aS,DB.bM,DB.aT,c2,c3];done)),by rw [show D.aS space first=D from by(simp [DB.aS,DB.bM,DB.aT,c2,c3];done)];exact h,hp⟩
  ·refine⟨fun x w'=>x=(((((D.at_ space).typ):Int) !=0) || ((((D.at_ first).typ):Int) !=0))∧Pu wv w',?_,?_⟩
   ·have h:=h.pu N4
    refine Calls.mono (dAt h _ (by grind [DB.aS,DB.bM,DB.aT])) ?_
    rintro e Nw ⟨_,rfl,rfl,NH⟩
    refine⟨_,_,_,_,_,rfl,?_⟩
    refine af (fun c4=>?_) (fun c4=>?_)
    ·rintro _ rfl
     exact⟨by simp only [c4,Bool.true_and,Bool.and_true,Bool.false_and,Bool.and_false,Bool.true_or,Bool.or_true,Bool.false_or,Bool.or_false,Bool.not_true,Bool.not_false,if_true,if_false,Bool.false_eq_true],NH⟩
    ·have h:=h.pu NH
     refine Calls.mono (dAt h _ (by grind [DB.aS,DB.bM,DB.aT])) ?_
     rintro e Ny ⟨_,rfl,rfl,N3⟩
     refine⟨_,_,_,_,_,rfl,?_⟩
     rintro _ rfl
     exact⟨by simp only [c4,Bool.true_and,Bool.and_true,Bool.false_and,Bool.and_false,Bool.true_or,Bool.or_true,Bool.false_or,Bool.or_false,Bool.not_true,Bool.not_false,if_true,if_false,Bool.false_eq_true],(Ch.pu NH N3)⟩
   rintro _ _ Nw ⟨rfl,NH⟩
   refine aZ (fun c5=>?_) (fun c5=>?_)
   ·have h:=(h.pu N4).pu NH
    have hp:=Ch.pu (Ch.pu hp N4) NH
    exact⟨congrArg (Value.int .i64) (by grind [DB.aS,DB.bM,DB.aT]),by rw [show D.aS space first=D from by grind [DB.aS,DB.bM,DB.aT]];exact h,hp⟩
   ·have h:=(h.pu N4).pu NH
    obtain⟨_,dhd_h⟩:=h.hd
    refine ai _ rfl ⟨_,dhd_h.at rfl,?_⟩
    rintro _ rfl
    refine ar (fun c6=>?_) (fun c6=>?_)
    ·have hp:=Ch.pu (Ch.pu hp N4) NH
     exact⟨congrArg (Value.int .i64) (by(simp [DB.aS,DB.bM,DB.aT,c2,c3,c5,c6];done)),by rw [show D.aS space first=D from by(simp [DB.aS,DB.bM,DB.aT,c2,c3,c5,c6];done)];exact h,hp⟩
    ·refine Calls.mono (EI h _ _ _ _ _ _ (by(show D.has space=true;grind)) (by have h1:D.has space=true:=(by grind);have:=DB.bh h1;simp only [Ent.ok,decide_eq_true_eq];simp;omega) (by exact(DB.bh (d:=D) (p:=space) (by grind)).2)) ?_
     rintro e Ny ⟨_,rfl,rfl,h,N3⟩
     refine⟨rfl,?_⟩
     refine Calls.mono (EI h _ _ _ _ _ _ (by(show D.has first=true;grind)) (by have h1:D.has space=true:=(by grind);have:=DB.bh h1;simp only [Ent.ok,decide_eq_true_eq];simp;omega) (by exact(DB.bh (d:=D) (p:=space) (by grind)).2)) ?_
     rintro e NF ⟨_,rfl,rfl,h,N6⟩
     refine⟨rfl,?_⟩
     refine⟨bXU [3] [] NF.drew L.M.X,?_⟩
     have h:=h.pu (Pu.aI _)
     obtain⟨_,dhd_h⟩:=h.hd
     refine ai _ rfl ⟨.inr ⟨by decide,bX.ld dhd_h (h.dis.2.1) _⟩,_,dhd_h.at rfl,?_⟩
     refine Calls.mono (mu _) ?_
     rintro e NI ⟨_,rfl,rfl,OF⟩
     refine⟨_,_,rfl,?_⟩
     refine bXU.du OF (by decide) ?_
     have h:=h.pu OF
     refine Calls.mono (wE h _ _ _ _ (by exact iU _)) ?_
     rintro e NW ⟨_,rfl,rfl,h,Od⟩
     refine⟨_,rfl,?_⟩
     refine bXU.more Od (by intro k hk;exact .inl hk) (by decide) ?_
     refine⟨bXU [3,9] [] NW.drew L.M.X,?_⟩
     have h:=h.pu (Pu.aI _)
     obtain⟨_,dhd_h⟩:=h.hd
     refine ai _ rfl ⟨.inr ⟨by decide,bX.ld dhd_h (h.dis.2.1) _⟩,_,dhd_h.at rfl,ai _ rfl ⟨.inr ⟨by decide,bX.ld dhd_h (h.dis.2.1) _⟩,_,dhd_h.at rfl,?_⟩⟩
     refine Calls.mono (mu _) ?_
     rintro e NT ⟨_,rfl,rfl,N9⟩
     refine⟨_,_,rfl,?_⟩
     refine bXU.du N9 (by decide) ?_
     have h:=h.pu N9
     refine Calls.mono (wE h _ _ _ _ (by exact iU _)) ?_
     rintro e NU ⟨_,rfl,rfl,h,NL⟩
     refine⟨_,rfl,?_⟩
     refine bXU.more NL (by intro k hk;exact .inl hk) (by decide) ?_
     refine⟨bXU [3] [] NU.drew L.M.X,?_⟩
     have h:=h.pu (Pu.aI _)
     obtain⟨_,dhd_h⟩:=h.hd
     refine ai _ rfl ⟨.inr ⟨by decide,bX.ld dhd_h (h.dis.2.1) _⟩,_,dhd_h.at rfl,?_⟩
     refine Calls.mono (mu _) ?_
     rintro e N1 ⟨_,rfl,rfl,NQ⟩
     refine⟨_,_,rfl,?_⟩
     refine bXU.du NQ (by decide) ?_
     have h:=h.pu NQ
     refine Calls.mono (wE h _ _ _ _ (by omega)) ?_
     rintro e Oy ⟨_,rfl,rfl,h,OA⟩
     refine⟨_,rfl,?_⟩
     refine bXU.more OA (by intro k hk;exact .inl hk) (by decide) ?_
     obtain⟨_,dhd_h⟩:=h.hd
     refine ai _ rfl ⟨_,dhd_h.at rfl,ai _ rfl (aP dhd_h (by simp) fun PL Uz=>?_)⟩
     have h:=h.Ea Uz (by show 0≤i64.wrap (D.aF+1)∧i64.wrap (D.aF+1)≤64;rw [aq (by omega)];omega)
     have hp:=Ch.call (Ch.call (Ch.pu (Ch.drew (Ch.call (Ch.pu (Ch.drew (Ch.call (Ch.pu (Ch.drew (Ch.call (Ch.call (Ch.pu (Ch.pu hp N4) NH) N3 (by exact fun k hk=>.inl hk)) N6 (by exact fun k hk=>.inl hk))) OF) (Od.mono L.inM) (by exact fun k hk=>.inl hk))) N9) (NL.mono L.inM) (by exact fun k hk=>.inl hk))) NQ) (OA.mono L.inM) (by exact fun k hk=>.inl hk)) Uz.ch (by exact fun k e=>.inl (by subst e;exact .inl rfl))
     exact⟨congrArg (Value.int .i64) (by(simp [DB.aS,DB.bM,DB.aT,c2,c3,c5,c6];done)),by rw [show D.aS space first=(((((D.set space ⟨1,space,1,1,false⟩).set first ⟨3,space,0,0,false⟩).bf (((D.set space ⟨1,space,1,1,false⟩).set first ⟨3,space,0,0,false⟩).mem.write true space 0 (u32.wrap first))).bf ((((D.set space ⟨1,space,1,1,false⟩).set first ⟨3,space,0,0,false⟩).bf (((D.set space ⟨1,space,1,1,false⟩).set first ⟨3,space,0,0,false⟩).mem.write true space 0 (u32.wrap first))).mem.write true space 1 (u32.wrap ((((D.set space ⟨1,space,1,1,false⟩).set first ⟨3,space,0,0,false⟩).bf (((D.set space ⟨1,space,1,1,false⟩).set first ⟨3,space,0,0,false⟩).mem.write true space 0 (u32.wrap first))).aF)))).bf (((((D.set space ⟨1,space,1,1,false⟩).set first ⟨3,space,0,0,false⟩).bf (((D.set space ⟨1,space,1,1,false⟩).set first ⟨3,space,0,0,false⟩).mem.write true space 0 (u32.wrap first))).bf ((((D.set space ⟨1,space,1,1,false⟩).set first ⟨3,space,0,0,false⟩).bf (((D.set space ⟨1,space,1,1,false⟩).set first ⟨3,space,0,0,false⟩).mem.write true space 0 (u32.wrap first))).mem.write true space 1 (u32.wrap ((((D.set space ⟨1,space,1,1,false⟩).set first ⟨3,space,0,0,false⟩).bf (((D.set space ⟨1,space,1,1,false⟩).set first ⟨3,space,0,0,false⟩).mem.write true space 0 (u32.wrap first))).aF)))).mem.write true space 2 0)).gk (i64.wrap (((((((D.set space ⟨1,space,1,1,false⟩).set first ⟨3,space,0,0,false⟩).bf (((D.set space ⟨1,space,1,1,false⟩).set first ⟨3,space,0,0,false⟩).mem.write true space 0 (u32.wrap first))).bf ((((D.set space ⟨1,space,1,1,false⟩).set first ⟨3,space,0,0,false⟩).bf (((D.set space ⟨1,space,1,1,false⟩).set first ⟨3,space,0,0,false⟩).mem.write true space 0 (u32.wrap first))).mem.write true space 1 (u32.wrap ((((D.set space ⟨1,space,1,1,false⟩).set first ⟨3,space,0,0,false⟩).bf (((D.set space ⟨1,space,1,1,false⟩).set first ⟨3,space,0,0,false⟩).mem.write true space 0 (u32.wrap first))).aF)))).bf (((((D.set space ⟨1,space,1,1,false⟩).set first ⟨3,space,0,0,false⟩).bf (((D.set space ⟨1,space,1,1,false⟩).set first ⟨3,space,0,0,false⟩).mem.write true space 0 (u32.wrap first))).bf ((((D.set space ⟨1,space,1,1,false⟩).set first ⟨3,space,0,0,false⟩).bf (((D.set space ⟨1,space,1,1,false⟩).set first ⟨3,space,0,0,false⟩).mem.write true space 0 (u32.wrap first))).mem.write true space 1 (u32.wrap ((((D.set space ⟨1,space,1,1,false⟩).set first ⟨3,space,0,0,false⟩).bf (((D.set space ⟨1,space,1,1,false⟩).set first ⟨3,space,0,0,false⟩).mem.write true space 0 (u32.wrap first))).aF)))).mem.write true space 2 0)).aF)+1))from by have h5:D.has first=true:=(by grind);have h6:=DB.bh h5;have e1:u32.wrap first=first:=bj (by omega);have e2:u32.wrap D.aF=D.aF:=bj (by omega);have e3:i64.wrap (D.aF+1)=D.aF+1:=aq (by omega);show D.aS space first=(((((D.set space ⟨1,space,1,1,false⟩).set first ⟨3,space,0,0,false⟩)).bf (((D.mem.write true space 0 (u32.wrap first)).write true space 1 (u32.wrap D.aF)).write true space 2 0)).gk (i64.wrap (D.aF+1)));rw [e1,e2,e3];unfold DB.aS;rw [if_pos (by grind [DB.aT])];rfl];exact h,hp⟩
end
section
set_option maxRecDepth 10000
set_option maxHeartbeats 1000000
end
section
set_option maxRecDepth 10000
set_option maxHeartbeats 1000000
theorem No {L:eW} {m:Mem} {w:World}(h:cv w L m)(hS:1≤m.S):
 Calls prog 29 #[(.pointer (some (Addr.mk L.g 0 none)))] w fun e w'=>∃v,e= .returned v∧∃g:Nat,∃a:Nat,v= .pointer (some (Addr.mk g 0 none))∧cv w' L (m.cH m.S)∧DBP w' ⟨g,a,L⟩ (DB.new m)∧(w.heap.size≤g∧w.heap.size≤a)∧Ch L.X w w':=by
 refine CK (some (Addr.mk L.g 0 none)) ?_
 have hm:=h.er
 have hp:=Ch.refl L.X w
 have OL:=h.lt
 refine gM ?_
 refine Calls.mono (qF h) ?_
 rintro e w9 ⟨_,rfl,rfl,e9⟩
 obtain rfl:=e9.symm
 refine⟨_,rfl,?_⟩
 refine⟨fun mz x8 W=>mz=(m.S - x8).toNat∧(0≤x8∧x8≤m.S)∧Ch L.X w W∧cv W L (m.cH x8.toNat),⟨_,rfl,(by omega),hp,by exact h⟩,?_⟩
 rintro _ _ x8 Nw ⟨rfl,h0,hp,h⟩
 refine ar (fun c1=>?_) (fun c1=>?_)
 ·refine Calls.mono (mu _) ?_
  rintro e Ny ⟨_,rfl,rfl,N3⟩
  refine⟨_,_,rfl,?_⟩
  have h:=h.pu N3
  refine Calls.mono (KP h _ _) ?_
  rintro e NF ⟨_,rfl,rfl,h,N6⟩
  refine⟨_,rfl,?_⟩
  have hp:=Ch.call (Ch.pu hp N3) N6 (by exact fun k hk=>.inl hk)
  exact⟨_,by rw [IntKind.wrap_i64];omega,rfl,by rw [IntKind.wrap_i64];omega,hp,by rw [Mem.qR _ (by omega)];exact h⟩
 ·have Tf:=h.lt
  have VD:=hp
  have hx:x8.toNat=m.S:=by omega
  have R2:=h.er.1
  have XX:Int.toNat (i64.wrap (2*(((m.cH x8.toNat).S:Nat):Int)))=2*m.S:=by rw [Mem.l8,aq (by omega)];omega
  refine Calls.mono (qF h) ?_
  rintro e w9 ⟨_,rfl,rfl,e9⟩
  obtain rfl:=e9.symm
  refine⟨_,rfl,?_⟩
  refine Hb nM ((⟨0⟩:U32)) (by rfl) (n:=(i64.wrap (2*((m.cH x8.toNat).S)))) (by rw [aq (by omega)];omega) (by rw [aq (by omega)];omega) (by rw [aq (by omega)];omega) fun WB NF Qc Pz=>?_
  have lo_g_wv3:=Qc.lo hp
  refine mkd fun NB NI NJ=>?_
  have Ns:=NJ.blk
  have h:=(h.pu Qc.pu).pu NJ.pu
  have hp:=Ch.made (Ch.made hp Qc) NJ
  exact⟨NB,WB,rfl,by rw [show(m.cH m.S)=(m.cH x8.toNat)from by rw [hx]];exact h,⟨⟨_,Blk.cast Ns (by rw [XX];show _=_;simp only [DB.n2,DB.new,Mem.l8])⟩,⟨_,_,Made.old NJ Qc.blk,by rw [Array.size_replicate,XX];show _=2*(m.cH m.S).S;rw [Mem.l8],fun p hp=>by have hp':p<m.S:=(by rwa [DB.yy]at hp);exact⟨Da (by rw [XX];omega),Da (by rw [XX];omega)⟩⟩,by show cv _ _ (m.cH m.S);rw [← hx];exact h,DB.kA m hS,by have:=NJ.num;have:=Qc.lt;simp only [];omega,fun hh=>absurd (show NB<Nw.heap.size from Tf _ hh) (by have:=NJ.num;have:=Qc.kept.size;omega),fun hh=>absurd (show WB<Nw.heap.size from Tf _ hh) (by have:=Qc.num;omega)⟩,by have h1:=NJ.num;have h2:=Qc.num;have h3:=Qc.kept.size;have h4:=VD.size;omega,hp⟩
theorem LI {L:gj} {D:DB} {w:World}(h:DBP w L D):
 Calls prog 52 #[(.pointer (some (Addr.mk L.g 0 none)))] w fun e w'=>∃v,e= .returned v∧∃g:Nat,∃n:Nat,v= .slice (some (Addr.mk g 0 none)) n n∧Own w' (fun k=>k=g) 29 (some (Addr.mk g 0 none)) n n (D.words.map U32.mk)∧w.heap.size≤g∧Pu w w':=by
 refine xB (some (Addr.mk L.g 0 none)) ?_
 have h64:=h.S64
 have hb:=h.ok.aF
 have Tk:Int.toNat (i64.wrap (1+((D.n2:Nat):Int)))=1+2*D.S:=by have:D.n2=2*D.S:=rfl;rw [aq (by omega)];omega
 have hp:=Ch.refl (fun _=>False) w
 have OL:=h.lt
 obtain⟨_,dhd_h⟩:=h.hd
 refine ai _ rfl ⟨_,_,_,dhd_h.at rfl,?_⟩
 refine gR nM (n:=(i64.wrap (1+((D.n2:Nat):Int)))) (by have:D.n2=2*D.S:=rfl;rw [aq (by omega)];omega) (by have:D.n2=2*D.S:=rfl;rw [aq (by omega)];omega) (by have:D.n2=2*D.S:=rfl;rw [aq (by omega)];omega) fun acz wv QI=>?_
 have lo_g_wv:=QI.lo hp
 have P5:Blk wv acz (aY (List.replicate (Int.toNat (i64.wrap (1+((D.n2:Nat):Int)))) 0)) 29:=QI.blk.cast (dM _ _)
 have dhd_h:=Made.old QI dhd_h
 refine ai _ rfl ⟨_,dhd_h.at rfl,⟨by omega,ai _ rfl (cn (i:=0) P5 (by simp only [List.length_replicate,Tk];omega) fun Nw OT=>?_)⟩⟩
 have P5:=OT.blk
 refine⟨bXU [] [5] Nw.drew (fun _=>False),?_⟩
 refine⟨by omega,?_⟩
 rintro _ rfl _ rfl _ rfl
 have dhd_h:=Blk.drew (Ch.blk OT.ch dhd_h (fun e=>absurd (OL _ (by exact .inl rfl)) (Nat.not_lt.2 (by rw [e];exact lo_g_wv))))
 refine ai _ rfl ⟨.inl (by decide),_,_,_,dhd_h.at rfl,?_⟩
 have P5:=Blk.drew P5
 have h:=((h.pu QI.pu).ch OT.ch (fun k hx e=>(fun hx=>absurd (OL _ hx) (Nat.not_lt.2 lo_g_wv)) (e▸hx))).pu (Pu.aI _)
 refine n9 nM P5 (o:=1) Hz (by(simp;omega)) (h).ints (by(have:D.n2=2*D.S:=rfl;simp only [List.length_set,List.length_replicate];omega)) fun Ny Ot=>?_
 have P5:=Ot.blk
 refine bXU.r3 Ot.ch (by decide) ?_
 have hp:=Ch.call (Ch.drew (Ch.call (Ch.made hp QI) OT.ch (by exact fun k e=>.inr (e▸lo_g_wv)))) Ot.ch (by exact fun k e=>.inr (e▸lo_g_wv))
 exact⟨acz,_,by rfl,by have hw:=DB.lay (D:=D) Tk;have hbu:u32.wrap D.aF=D.aF:=bj (by omega);have h9:=P5;rw [hbu]at h9;have e:(min D.n2 (Int.toNat (i64.wrap (1+((D.n2:Nat):Int))) - Int.toNat 1))=min (2*D.S) (Int.toNat (i64.wrap (1+((D.n2:Nat):Int))) - 1):=rfl;rw [e,hw]at h9;exact Own.ofRow h9 (by rw [D.cS,Tk]) (by omega),lo_g_wv,hp⟩
theorem GN {gd:Nat} {L:pY} {D:DB} {w:World}(h:jk w gd L D):
 Calls prog 53 #[(.pointer (some (Addr.mk gd 0 none)))] w fun e w'=>∃v,e= .returned v∧∃Z':Nat→Prop,∃A':Option Addr,∃N':Nat,∃C':Nat,v= .slice A' N' C'∧Own w' Z' 29 A' N' C' (D.words.map U32.mk)∧(∀k,Z' k→w.heap.size≤k)∧Pu w w':=by
 refine ta (some (Addr.mk gd 0 none)) ?_
 have h64:=h.S64
 have hb:=h.ok.aF
 have OZ:∀p:Int,0≤p→p<D.S→(D.at_ p).ok=true:=fun p h0 h1=>(h.ok.ent p.toNat (by omega)).1
 have hp:=Ch.refl (fun _=>False) w
 have OL:=h.lt
 obtain⟨_,dhd_h⟩:=h.hd'
 refine ai _ rfl ⟨_,dhd_h.at rfl,?_⟩
 refine mkd fun gv wv NC=>?_
 have Nr:=NC.blk
 rintro _ rfl
 have Nr:Blk wv gv (aY [u32.wrap D.aF]) _:=Nr.cast (by rfl)
 have hp:=Ch.made hp NC
 have h:=h.pu NC.pu
 refine⟨fun mz lA lN lC p1 W=>∃l2:List U32,mz=(D.S - p1).toNat∧(0≤p1∧p1≤D.S)∧(l2=(D.aF::(List.range p1.toNat).flatMap fun p=>[(D.ent p).w0,(D.ent p).w1]).map U32.mk)∧(l2.length≤1+2*p1.toNat)∧Own W (fun k=>w.heap.size≤k) 29 lA lN lC l2∧Ch (fun _=>False) w W∧jk W gd L D,⟨_,(List.map U32.mk [u32.wrap D.aF]),rfl,(by omega),(by rw [bj (by omega)];rfl),(by simp),(Own.ofRow Nr rfl (by simp)).to (by intro k h1 h2;exact h1▸(by have:=NC.num;omega)),hp,h⟩,?_⟩
 rintro _ _ lA lN lC p1 Nw ⟨l2,rfl,h0,hl,hlb,Pe,hp,h⟩
 obtain⟨_,dhd_h⟩:=h.hd'
 refine ai _ rfl ⟨_,_,_,dhd_h.at rfl,?_⟩
 refine ar (fun c1=>?_) (fun c1=>?_)
 ·refine ai _ rfl ⟨_,_,_,dhd_h.at rfl,?_⟩
  obtain⟨p2,UW,Rt⟩:=h.ldE (i:=p1) (by omega) (by omega)
  refine⟨⟨by omega,by omega⟩,ai p2 UW ⟨_,_,_,_,_,⟨Rt 0 (by decide),Rt 1 (by decide),Rt 2 (by decide),Rt 3 (by decide),Rt 4 (by decide)⟩,?_⟩⟩
  refine Calls.mono (Ej _ _ _ _ _) ?_
  rintro e Ny ⟨_,rfl,rfl,N3⟩
  refine⟨_,_,_,rfl,?_⟩
  have hp:=Ch.pu hp N3
  have dhd_h:=Pu.blk N3 dhd_h
  have h:=h.pu N3
  have Pe:=Pe.pu N3
  have Pe:=Pe.narrow
  refine mkd fun NZ NF NM=>?_
  have NN:=NM.lo hp
  have XP:=NM.ne dhd_h
  have WW:=NM.off h.lt
  have Nt:=NM.blk
  refine cx Nt (by simp) fun NI Nx=>?_
  have Nt:Blk NI NZ #[_,_] _:=Nx.blk
  refine⟨by decide,⟨_,Nt.at rfl,⟨by decide,⟨_,Nt.at rfl,?_⟩⟩⟩⟩
  refine mkd fun Oa NW Oe=>?_
  have Nu:=Oe.blk
  have Pe:=((Pe.pu NM.pu).ch Nx.ch (fun k hx e=>absurd hx.2 (by rw [e,NM.num];exact Nat.lt_irrefl _))).pu Oe.pu
  have Pe:=Pe.to (Y:=(fun k=>w.heap.size≤k)) (fun k h1 _=>h1.1)
  have hp:=Ch.made (Ch.call (Ch.made hp NM) Nx.ch (by exact fun k e=>.inr (e▸NN))) Oe
  have Nu:Blk NW Oa (aY [if(Ent.mk ((D.at_ p1).typ) ((D.at_ p1).owner) ((D.at_ p1).refs) ((D.at_ p1).state) ((D.at_ p1).aV)).ok then(Ent.mk ((D.at_ p1).typ) ((D.at_ p1).owner) ((D.at_ p1).refs) ((D.at_ p1).state) ((D.at_ p1).aV)).w0 else 0,if(Ent.mk ((D.at_ p1).typ) ((D.at_ p1).owner) ((D.at_ p1).refs) ((D.at_ p1).state) ((D.at_ p1).aV)).ok then(Ent.mk ((D.at_ p1).typ) ((D.at_ p1).owner) ((D.at_ p1).refs) ((D.at_ p1).state) ((D.at_ p1).aV)).w1 else 0]) _:=Nu.cast (by rfl)
  refine Own.apps Pe nG (Own.ofRow (n:=2) Nu rfl (by simp)).rd (by have:=Pe.len;omega) (by have:=Pe.len;omega) (by have:=hp.size;simpa using this) (fun A_wv6 c_wv6 NT Pe N9=>?_) (fun h9=>absurd h9 (by decide))
  rintro _ rfl
  have hp:=Ch.call hp N9 (by intro k hk;exact .inr hk)
  have h:=(((h.pu NM.pu).ch Nx.ch (fun k hx e=>(WW) (e▸hx))).pu Oe.pu).ch N9 (fun k hx hy=>by have h1:=OL k hx;omega)
  exact⟨_,by rw [IntKind.wrap_i64];omega,(l2++List.map U32.mk [if(Ent.mk ((D.at_ p1).typ) ((D.at_ p1).owner) ((D.at_ p1).refs) ((D.at_ p1).state) ((D.at_ p1).aV)).ok then(Ent.mk ((D.at_ p1).typ) ((D.at_ p1).owner) ((D.at_ p1).refs) ((D.at_ p1).state) ((D.at_ p1).aV)).w0 else 0,if(Ent.mk ((D.at_ p1).typ) ((D.at_ p1).owner) ((D.at_ p1).refs) ((D.at_ p1).state) ((D.at_ p1).aV)).ok then(Ent.mk ((D.at_ p1).typ) ((D.at_ p1).owner) ((D.at_ p1).refs) ((D.at_ p1).state) ((D.at_ p1).aV)).w1 else 0]),rfl,by rw [IntKind.wrap_i64];omega,DB.AY hl (by omega) (OZ p1 (by omega) (by omega)) rfl rfl,(by rw [aq (by omega),List.length_append];simp;omega),Pe,hp,h⟩
 ·exact⟨(fun k=>w.heap.size≤k),_,_,_,by rfl,by have e:p1.toNat=D.S:=(by omega);have h9:=Pe;rw [hl,e]at h9;exact h9,fun k hk=>hk,hp⟩
end
section
set_option maxRecDepth 10000
set_option maxHeartbeats 1000000
theorem DG {g n c:Nat} {mp A:Option Addr} {b:Int} {T:TypeId} {w:World}(hb:Blk w g #[.pointer mp,.int .i64 b,.slice A (2*n) c] T)(hn:n≤64):
 Calls prog 120 #[(.pointer (some (Addr.mk g 0 none)))] w fun e w'=>∃v,e= .returned v∧v= .int .i64 (n:Int)∧w'=w:=by
 refine oE (some (Addr.mk g 0 none)) ?_
 refine ai _ rfl ⟨_,_,_,hb.at rfl,?_⟩
 exact⟨congrArg (Value.int .i64) (by rw [aq (by rw [Int.tdiv_eq_ediv_of_nonneg (by omega)];omega)];rw [Int.tdiv_eq_ediv_of_nonneg (by omega)];omega),rfl⟩
theorem MO {g n c:Nat} {mp A:Option Addr} {b:Int} {T:TypeId} {w:World}(hb:Blk w g #[.pointer mp,.int .i64 b,.slice A (2*n) c] T)(hn:n≤64)(ax:Int):
 Calls prog 57 #[(.pointer (some (Addr.mk g 0 none))),(.int .i64 ax)] w fun e w'=>∃v,e= .returned v∧v= .bool (decide (0≤ax∧ax<(n:Int)))∧Pu w w':=by
 refine tN (some (Addr.mk g 0 none)) _ ?_
 refine⟨fun x w'=>x=((decide ((ax:Int)≥0)) && (decide ((ax:Int)<(n:Int))))∧Pu w w',?_,?_⟩
 ·refine af (fun c1=>?_) (fun c1=>?_)
  ·refine Calls.mono (DG hb hn) ?_
   rintro e w9 ⟨_,rfl,rfl,e9⟩
   obtain rfl:=e9.symm
   exact⟨_,rfl,by simp only [c1,Bool.true_and],Ch.refl _ _⟩
  ·exact⟨by simp only [c1,Bool.false_and],Ch.refl _ _⟩
 rintro _ _ wv ⟨rfl,N4⟩
 exact⟨congrArg Value.bool (by rw [Bool.eq_iff_iff];simp),N4⟩
theorem DB.yF {m:Mem} {l:List U32}(h:¬l.length=1+2*m.S):DB.ay m l=110:=by unfold DB.ay;rw [if_pos h]
theorem DB.Ex {m:Mem} {l:List U32}(h:l.length=1+2*m.S)(hb:DB.wd l 0>64):DB.ay m l=110:=by unfold DB.ay;rw [if_neg (by simpa using h),if_pos hb]
theorem DB.u9 {m:Mem} {l:List U32}(h:l.length=1+2*m.S)(hb:¬DB.wd l 0>64):DB.ay m l=if(List.range m.S).all (DB.k7 m l)then 0 else 110:=by unfold DB.ay;rw [if_neg (by simpa using h),if_neg hb]
theorem DB.dX {m:Mem} {l:List U32}(h:l.length=1+2*m.S)(hb:¬DB.wd l 0>64) {p:Nat}(hp:p<m.S)(he:DB.k7 m l p=false):DB.ay m l=110:=by
 rw [u9 h hb,if_neg]
 intro hh
 have:=List.all_eq_true.1 hh p (List.mem_range.2 hp)
 rw [he]at this;cases this
theorem DB.pL {m:Mem} {l:List U32}(h:l.length=1+2*m.S)(hb:¬DB.wd l 0>64)(hp:∀p,p<m.S→DB.k7 m l p=true):DB.ay m l=0:=by
 rw [u9 h hb,if_pos (List.all_eq_true.2 fun p h=>hp p (List.mem_range.1 h))]
theorem DB.qA {l:List U32} {i:Nat}:((l.drop 1).map U32.v).getD i 0=DB.wd l (1+i):=by
 unfold DB.wd
 rw [List.getD_eq_getElem?_getD,List.getD_eq_getElem?_getD,List.getElem?_map,List.getElem?_drop]
 cases l[1+i]? <;>rfl
theorem DB.AZ {l:List U32}(hw:∀x∈l,0≤x.v∧x.v<4294967296)(i:Nat):0≤DB.wd l i∧DB.wd l i<4294967296:=by
 unfold DB.wd
 rw [List.getD_eq_getElem?_getD]
 by_cases hi:i<l.length
 ·rw [List.getElem?_eq_getElem hi];exact hw _ (List.getElem_mem hi)
 ·rw [List.getElem?_eq_none (by omega)];show(0:Int)≤0∧(0:Int)<_;omega
theorem MN {L:eW} {m:Mem} {Z:Nat→Prop} {wordsA:Option Addr} {wordsN wordsC:Nat} {l:List U32} {w:World}(h:cv w L m)(hz:Rd w Z wordsA wordsN wordsC l)(hw:∀x∈l,0≤x.v∧x.v<4294967296):
 Calls prog 50 #[(.pointer (some (Addr.mk L.g 0 none))),(.slice wordsA wordsN wordsC)] w fun e w'=>∃v,e= .returned v∧∃p:Option Addr,v= .tuple #[.pointer p,.int .i64 (DB.ay m l)]∧
  (DB.ay m l=0→∃g a,p=some (Addr.mk g 0 none)∧DBP w' ⟨g,a,L⟩ (DB.load m l)∧w.heap.size≤g∧w.heap.size≤a)∧(DB.ay m l≠0→p=none)∧Pu w w':=by
 have hm:=h.er
 have hl:=hz.len
 have Xi:=hz.cap
 have Ow:=hz.lt
 have e16:i64.wrap (1+i64.wrap (2*(m.S:Int)))=1+2*(m.S:Int):=by rw [aq (x:=2*(m.S:Int)) (by omega),aq (by omega)]
 refine AM (some (Addr.mk L.g 0 none)) wordsA wordsN wordsC ?_
 refine⟨fun b w'=>b=(decide (¬l.length=1+2*m.S) || decide (DB.wd l 0>64))∧Pu w w',?_,?_⟩
 ·refine gM ?_
  refine Calls.mono (qF h) ?_
  rintro e w1 ⟨_,rfl,rfl,rfl⟩
  refine⟨_,rfl,?_⟩
  refine aB (fun c1=>?_) (fun c1=>?_)
  ·rw [e16]at c1
   exact⟨by rw [show decide (¬l.length=1+2*m.S)=true by simp;omega];rfl,Ch.refl _ _⟩
  ·rw [e16]at c1
   refine⟨by omega,?_⟩
   obtain⟨p,hA,hZ,hc⟩:=hz.u32 (by omega)
   refine ai p hA ⟨_,hc 0 (by omega),?_,Ch.refl _ _⟩
   rw [show decide (¬l.length=1+2*m.S)=false by simp;omega,Bool.false_or];rfl
 rintro _ _ wv ⟨rfl,q⟩
 refine aZ (fun c1=>?_) (fun c1=>?_)
 ·have he:DB.ay m l=110:=by
   simp only [decide_eq_true_eq]at c1
   by_cases hn:l.length=1+2*m.S
   ·rcases c1 with c1 | c1
    ·exact absurd hn c1
    ·exact DB.Ex hn c1
   ·exact DB.yF hn
  exact⟨none,by rw [he],by rw [he];intro hh;omega,fun _=>rfl,q⟩
 simp only [decide_eq_false_iff_not,Classical.not_not]at c1
 obtain⟨hlen,hb⟩:=c1
 have VD:=(hz.pu q).pu (Pu.aI _)
 obtain⟨p,hA,hZ,hc⟩:=VD.u32 (by omega)
 refine⟨bXU [3] [] wv.drew (fun _=>False),by omega,ai p hA ⟨.inr ⟨by decide,bX.lt (VD.lt _ hZ) (fun h=>h)⟩,_,hc 0 (by omega),?_⟩⟩
 have en:i64.wrap (((wordsN:Nat):Int) - 1)=2*(m.S:Int):=by rw [aq (by omega)];omega
 rw [en]
 refine gR nM (n:=2*(m.S:Int)) (by omega) (by omega) (by omega) fun ga Nw ma=>?_
 refine bXU.du ma.pu (by decide) ?_
 refine mkd fun gv Ny mv=>?_
 refine bXU.du mv.pu (by decide) ?_
 have q0:Pu w wv.drew:=q.drew
 have loa:=ma.lo q0
 have q1:Pu w Nw:=q0.made ma
 have lov:=mv.lo q1
 have q2:Pu w Ny:=q1.made mv
 have ba:Blk Ny.drew ga (aY (List.replicate (2*(m.S:Int)).toNat 0)) _:=(mv.old (ma.blk.cast (dM _ _))).drew
 have bv:=mv.blk.drew
 have P0:=mv.ne ma.blk
 have Wd:=((VD.pu ma.pu).pu mv.pu).pu (Pu.aI _)
 refine⟨bXU [] [3] Ny.drew (fun _=>False),.inl (by decide),_,_,_,bv.at rfl,by omega,?_⟩
 rintro xA e1 xN e2 xC e3
 have r:=Rd.from_ (lo:=Int.toNat 1) Wd e1 e2 e3 (by omega) (by omega)
 refine o5 nM ba rfl r.ints (by simp;omega) fun NF s3=>?_
 refine bXU.r3 s3.ch (by decide) ?_
 have O3:fI (List.replicate (2*(m.S:Int)).toNat 0) 0 (((l.drop (Int.toNat 1)).map U32.v).take (min xN (2*(m.S:Int)).toNat))=(l.drop 1).map U32.v:=by
  rw [List.take_of_length_le (by rw [e2];simp;omega)]
  exact nJ _ _ (by simp;omega)
 have ba:=s3.blk
 rw [O3]at ba
 have bv:=s3.old bv (fun e=>P0 e.symm)
 have q3:Pu w NF:=(q2.drew).stored s3 (.inr loa)
 have e2S:(2*(m.S:Int)).toNat=2*m.S:=by omega
 rw [e2S]at bv
 refine Calls.mono (DG bv hm.1) ?_
 rintro e w4 ⟨_,rfl,rfl,rfl⟩
 refine⟨_,rfl,?_⟩
 refine⟨fun mz x W=>mz=((m.S:Int) - x).toNat∧(0≤x∧x≤(m.S:Int))∧Pu w W∧Blk W gv #[.pointer (some (Addr.mk L.g 0 none)),.int .i64 (i64.wrap (DB.wd l 0)),.slice (some (Addr.mk ga 0 none)) (2*m.S) (2*m.S)] 110∧Blk W ga (aY ((l.drop 1).map U32.v)) 29∧∀q,q<x.toNat→DB.k7 m l q=true,
  ⟨_,rfl,⟨by omega,by omega⟩,q3,bv,ba,fun q hq=>by omega⟩,?_⟩
 rintro _ _ x w5 ⟨rfl,hx,q5,bv,ba,VJ⟩
 have Sg:((l.drop 1).map U32.v).length=2*m.S:=by simp;omega
 refine ar (fun c2=>?_) (fun c2=>?_)
 ·have ex:i64.wrap (2*x)=2*x:=aq (by omega)
  have ext:(2*x).toNat=2*x.toNat:=by omega
  refine⟨_,_,_,bv.at rfl,by rw [ex];omega,?_⟩
  rintro _ rfl _ rfl _ rfl
  rw [ex,ext]
  refine⟨by omega,ai (Addr.mk ga (2*x.toNat) none) (by rw [if_neg (by omega)];simp [Addr.add];omega) ?_⟩
  refine⟨_,_,⟨by rw [bO];exact ba.cell (eo (by rw [Sg];omega)),by rw [bO];exact ba.cell (eo (by rw [Sg];omega))⟩,?_⟩
  have ea:((l.drop 1).map U32.v).getD (2*x.toNat+0) 0=DB.wd l (1+2*x.toNat):=DB.qA
  have eb:((l.drop 1).map U32.v).getD (2*x.toNat+1) 0=DB.wd l (2+2*x.toNat):=by rw [DB.qA];congr 1;omega
  rw [ea,eb]
  refine Calls.mono (DC _ _ (DB.AZ hw _) (DB.AZ hw _)) ?_
  rintro e w6 ⟨_,rfl,rfl,q6⟩
  refine⟨_,_,_,_,_,_,rfl,?_⟩
  refine mkd fun ge w7 me=>?_
  have be:=me.blk
  refine cx be (by simp) fun w8 s8=>?_
  have be:Blk w8 ge #[.int .i64 (Ent.dec (DB.wd l (1+2*x.toNat)) (DB.wd l (2+2*x.toNat))).typ,.int .i64 (Ent.dec (DB.wd l (1+2*x.toNat)) (DB.wd l (2+2*x.toNat))).owner,.int .i64 (Ent.dec (DB.wd l (1+2*x.toNat)) (DB.wd l (2+2*x.toNat))).refs,.int .i64 (Ent.dec (DB.wd l (1+2*x.toNat)) (DB.wd l (2+2*x.toNat))).state,.bool (Ent.dec (DB.wd l (1+2*x.toNat)) (DB.wd l (2+2*x.toNat))).aV] _:=s8.blk
  have q7:Pu w w7:=(q5.pu q6).made me
  have q8:Pu w w8:=q7.stored s8 (.inr (me.lo (q5.pu q6)))
  have nv:=me.ne (q6.blk bv)
  have na:=me.ne (q6.blk ba)
  have bv:=s8.old (me.old (q6.blk bv)) nv
  have ba:=s8.old (me.old (q6.blk ba)) na
  have how:0≤(Ent.dec (DB.wd l (1+2*x.toNat)) (DB.wd l (2+2*x.toNat))).owner∨Ent.fm (DB.wd l (1+2*x.toNat)) (DB.wd l (2+2*x.toNat))≠0:=by
   by_cases hd:Ent.fm (DB.wd l (1+2*x.toNat)) (DB.wd l (2+2*x.toNat))=0
   ·exact .inl (Ent.dO (Ent.iy hd).1).2.2.1
   ·exact .inr hd
  refine⟨fun b W=>b= !(DB.k7 m l x.toNat)∧Pu w W∧Blk W gv #[.pointer (some (Addr.mk L.g 0 none)),.int .i64 (i64.wrap (DB.wd l 0)),.slice (some (Addr.mk ga 0 none)) (2*m.S) (2*m.S)] 110∧Blk W ga (aY ((l.drop 1).map U32.v)) 29,?_,?_⟩
  ·refine aB (fun c3=>?_) (fun c3=>?_)
   ·exact⟨by unfold DB.k7;simp [c3],q8,bv,ba⟩
   ·refine⟨_,be.at rfl,?_⟩
    refine Calls.mono (MO bv hm.1 _) ?_
    rintro e w9 ⟨_,rfl,rfl,q9⟩
    refine⟨_,rfl,?_,q8.pu q9,q9.blk bv,q9.blk ba⟩
    unfold DB.k7
    have Qq:Ent.fm (DB.wd l (1+2*x.toNat)) (DB.wd l (2+2*x.toNat))=0:=by simpa using c3
    have h0:=how.resolve_right (fun h=>h Qq)
    rw [Qq]
    simp [h0]
  rintro _ _ w9 ⟨rfl,q9,bv,ba⟩
  refine cD (fun c4=>?_) (fun c4=>?_)
  ·have he:=DB.dX hlen hb (p:=x.toNat) (by omega) c4
   exact⟨none,by rw [he],by rw [he];intro hh;omega,fun _=>rfl,q9⟩
  ·have e9:i64.wrap (x+1)=x+1:=aq (by omega)
   refine⟨_,?_,rfl,?_,q9,bv,ba,fun q hq=>?_⟩
   ·rw [e9];omega
   ·rw [e9];omega
   ·rw [e9]at hq
    by_cases hqx:q=x.toNat
    ·subst hqx;exact c4
    ·exact VJ q (by omega)
 ·have OP:∀p,p<m.S→DB.k7 m l p=true:=fun p hp=>VJ p (by omega)
  have he:=DB.pL hlen hb OP
  refine⟨some (Addr.mk gv 0 none),by rw [he],fun _=>⟨gv,ga,rfl,?_,lov,loa⟩,fun hh=>absurd he hh,q5⟩
  have Xc:∀k,L.X k→k<w.heap.size:=h.lt
  refine⟨⟨110,?_⟩,⟨_,_,ba,by rw [dL,Sg];rfl,fun p hp=>?_⟩,h.pu q5,DB.JF hw he,fun e=>P0 e,fun hx=>absurd (Xc _ hx) (Nat.not_lt.2 lov),fun hx=>absurd (Xc _ hx) (Nat.not_lt.2 loa)⟩
  ·have hw0:=DB.AZ hw 0
   rw [aq (by omega)]at bv
   exact bv
  ·have hp:p<m.S:=hp
   have ho:=OP p hp
   unfold DB.k7 at ho
   simp only [Bool.and_eq_true,beq_iff_eq]at ho
   have hd:=Ent.iy ho.1
   refine⟨?_,?_⟩
   ·rw [eo (by rw [Sg];omega),DB.qA]
    show _=some (Value.int .u32 (Ent.dec _ _).w0)
    rw [hd.2.1]
   ·rw [eo (by rw [Sg];omega),DB.qA]
    show _=some (Value.int .u32 (Ent.dec _ _).w1)
    rw [hd.2.2]
    congr 3;omega
end
section
namespace V
section
variable {U:Uni}
theorem aM.rZ {rs:List (Res U)} {X:Nat→Nat→Prop} {w w':World} {Q:Ou U→Prop} {v:Value} {k:Option Kn} {Z:Nat→Prop} {r:Res U} {kc:List (Key×Kn)}(hs:Sat rs X w)(q:Pu w w')(hr:RS Z w' r)(hz:∀k,Z k→w.heap.size≤k)(hQ:Q ⟨v,k,[],[r],kc⟩)(hk:KnO (rs++ [r]) v k)
 (S7:∀key k,(key,k)∈kc→eE (rs++ [r]) fr0 key k):aM rs [] X w Q (.returned v) w':=by
 obtain⟨out,rs',X',h1,rfl,h3,h4⟩:=aM.more (Q:=fun o=>o=⟨v,k,[],[r],[]⟩) hs q hr hz rfl hk
 have h3:rs=rs':=by simpa [bx]using h3
 subst h3
 exact⟨⟨v,k,[],[r],kc⟩,rs,X',fv hk,hQ,rfl,⟨h4.sat,h4.ch,h4.same,h4.grow,h4.new,h4.kr,fun key k hm _=>S7 key k hm⟩⟩
theorem aM.Bm {t:Nat} {rm:Nat→Nat} {m m':U.ty t} {X:Nat→Nat→Prop} {w w':World} {Q:Ou U→Prop} {v:Value} {k:Option Kn} {Z0 Z1:Nat→Prop} {r:Res U} {kc:List (Key×Kn)}(q:Ch (X 0) w w')(hp:U.pred t rm m' Z0 w')(hz0:∀k,Z0 k→X 0 k∨w.heap.size≤k)(hr:RS Z1 w' r)(VD:∀k,Z1 k→w.heap.size≤k)(hd:∀k,Z0 k→¬Z1 k)
 (hQ:Q ⟨v,k,[.ob t m'],[r],kc⟩)(hk:KnO [.ob t rm m',r] v k)(S7:∀key k,(key,k)∈kc→eE [.ob t rm m',r] fr0 key k):aM [.ob t rm m] [0] X w Q (.returned v) w':=by
 refine⟨_,[.ob t rm m'],fun i=>if i=0 then Z0 else if i=1 then Z1 else X i,fv hk,hQ,by simp [bx,dz,nth,cJ],⟨⟨fun i r' Oh=>?_,fun i j hi hj OS k O4 OO=>?_⟩,q.mono fun k hk=>⟨0,by simp,hk⟩,fun i hi hm=>?_,fun i hi k hk=>?_,fun i h1 h2 k hk=>?_,.inr hk,fun key k hm _=>S7 key k hm⟩⟩
 ·match i with
  | 0=>simp only [List.cons_append,List.nil_append,nth,Option.some.injEq]at Oh;subst Oh;exact hp
  | 1=>simp only [List.cons_append,List.nil_append,nth,Option.some.injEq]at Oh;subst Oh;exact hr
  | i+2=>simp [nth]at Oh
 ·simp at hi hj
  match i,j,hi,hj,OS with
  | 0,1,_,_,_=>exact hd k O4 OO
  | 1,0,_,_,_=>exact hd k OO O4
  | 0,0,_,_,h=>exact h rfl
  | 1,1,_,_,h=>exact h rfl
 ·simp at hi hm;omega
 ·simp at hi;subst hi;exact hz0 k hk
 ·simp at h1 h2
  obtain rfl:i=1:=by omega
  exact VD k hk
theorem zb {rs rs':List (Res U)} {M:List Nat} {us:List (Upd U)}(h:bx rs M us=some rs'):rs'.length=rs.length:=(gg h).1
theorem mL.pack {rs rs':List (Res U)} {bn:List Nat} {X X':Nat→Nat→Prop} {w w':World} {v:Value} {k k':Option Kn} {us:List (Upd U)} {a b c:Res U} {kc kc':List (Key×Kn)}(h:mL rs bn X w ⟨v,k,us,[a,b],kc⟩ w' rs' X')(hl:rs'.length=rs.length) {Z:Nat→Prop}(hc:RS Z w' c)(hz:∀k,Z k→X' rs.length k∨X' (rs.length+1) k)
 (hk:KnO (rs'++ [c]) v k')(S7:∀key k,(key,k)∈kc'→eE (rs'++ [c]) fr0 key k):mL rs bn X w ⟨v,k',us,[c],kc'⟩ w' rs' (fun i=>if i=rs.length then Z else X' i):=by
 refine⟨⟨fun i r hr=>?_,fun i j hi hj OS k O4 OO=>?_⟩,h.ch,fun i hi hm=>?_,fun i hi k hk=>?_,fun i h1 h2 k hk=>?_,.inr hk,fun key k hm _=>S7 key k hm⟩
 ·by_cases hi:i<rs'.length
  ·rw [bm,if_pos hi]at hr
   simp only [if_neg (show ¬i=rs.length by omega)]
   exact h.sat.res i r (by rw [bm,if_pos hi];exact hr)
  ·have h1:=aX hr
   simp at h1
   obtain rfl:i=rs'.length:=by omega
   rw [bm,if_neg (by omega),Nat.sub_self]at hr
   obtain rfl:c=r:=by simpa [nth]using hr
   simpa [hl]using hc
 ·simp at hi hj
  have RY:∀j,j<rs'.length→Z k→¬X' j k:=fun j hj hZ hX=>by
   rcases hz k hZ with h1 | h1
   ·exact h.sat.dis rs.length j (by simp;omega) (by simp;omega) (by omega) k h1 hX
   ·exact h.sat.dis (rs.length+1) j (by simp;omega) (by simp;omega) (by omega) k h1 hX
  by_cases h1:i=rs.length
  ·have h2:¬j=rs.length:=by omega
   simp only [h1,if_true,if_neg h2]at O4 OO
   exact RY j (by omega) O4 OO
  ·simp only [if_neg h1]at O4
   by_cases h2:j=rs.length
   ·simp only [h2,if_true]at OO
    exact RY i (by omega) OO O4
   ·simp only [if_neg h2]at OO
    exact h.sat.dis i j (by simp;omega) (by simp;omega) OS k O4 OO
 ·simp only [if_neg (show ¬i=rs.length by omega)];exact h.same i hi hm
 ·by_cases h1:i=rs.length
  ·simp only [h1,if_true]at hk
   rcases hz k hk with h2 | h2
   ·exact .inr (h.new rs.length (by omega) (by simp) k h2)
   ·exact .inr (h.new (rs.length+1) (by omega) (by simp) k h2)
  ·simp only [if_neg h1]at hk;exact h.grow i hi k hk
 ·simp at h2
  obtain rfl:i=rs.length:=by omega
  simp only [if_true]at hk
  rcases hz k hk with h2 | h2
  ·exact h.new rs.length (by omega) (by simp) k h2
  ·exact h.new (rs.length+1) (by omega) (by simp) k h2
theorem aM.pack {rs rs':List (Res U)} {bn:List Nat} {X X':Nat→Nat→Prop} {w w':World} {Q:Ou U→Prop} {v:Value} {k k':Option Kn} {us:List (Upd U)} {a b c:Res U} {kc kc':List (Key×Kn)}(Oo:bx rs bn us=some rs')(h:mL rs bn X w ⟨v,k,us,[a,b],kc⟩ w' rs' X') {Z:Nat→Prop}(hc:RS Z w' c)(hz:∀k,Z k→X' rs.length k∨X' (rs.length+1) k)
 (hQ:Q ⟨v,k',us,[c],kc'⟩)(hk:KnO (rs'++ [c]) v k')(S7:∀key k,(key,k)∈kc'→eE (rs'++ [c]) fr0 key k):aM rs bn X w Q (.returned v) w':=
 ⟨_,rs',_,fv hk,hQ,Oo,h.pack (zb Oo) hc hz hk S7⟩
theorem KnO.pair {rs:List (Res U)} {a b:Value} {p:PK}(h:den U rs p=some a):KnO rs (.tuple #[a,b]) (some (.t [some p,none])):=
 ⟨_,rfl,fun j k hj=>by
  match j,hj with
  | 0,hj=>simp only [nth,Option.some.injEq]at hj;subst hj;exact⟨a,rfl,h⟩
  | 1,hj=>simp [nth]at hj
  | j+2,hj=>simp [nth]at hj⟩
theorem r9 {rs:List (Res U)} {fr:Fr} {key:Key} {k:Kn}(h:eE rs fr key k):∀key' k',(key',k')∈ [(key,k)]→eE rs fr key' k':=fun key' k' hm=>by
 simp only [List.mem_singleton,Prod.mk.injEq]at hm
 obtain⟨rfl,rfl⟩:=hm
 exact h
theorem aM.LA {a a':Res U} {rest:List (Res U)} {u:Upd U} {X:Nat→Nat→Prop} {w w':World} {Q:Ou U→Prop} {v:Value} {k:Option Kn} {Z:Nat→Prop}(hs:Sat (a::rest) X w)(q:Ch (X 0) w w')(hu:dz a u=some a')(hp:RS Z w' a')(hz:∀k,Z k→X 0 k∨w.heap.size≤k)(hQ:Q ⟨v,k,[u],[],[]⟩)(hk:KnO (a'::rest) v k):aM (a::rest) [0] X w Q (.returned v) w':=by
 refine⟨_,a'::rest,fun i=>if i=0 then Z else X i,fv hk,hQ,by simp [bx,hu,nth,cJ],⟨⟨fun i r hr=>?_,fun i j hi hj OS k O4 OO=>?_⟩,q.mono fun k hk=>⟨0,by simp,hk⟩,fun i hi hm=>?_,fun i hi k hk=>?_,fun i h1 h2=>by simp at h1 h2;omega,.inr (by simpa using hk),fun _ k hk=>by cases hk⟩⟩
 ·rw [List.append_nil]at hr
  match i with
  | 0=>simp only [nth,Option.some.injEq]at hr;subst hr;exact hp
  | i+1=>exact(hs.res (i+1) r hr).ch q fun k hk h0=>hs.dis 0 (i+1) (by simp) (aX hr) (by omega) k h0 hk
 ·simp at hi hj
  have key:∀j,j<rest.length+1→j≠0→Z k→X j k→False:=fun j hj h0 hZ hX=>by
   rcases hz k hZ with h | h
   ·exact hs.dis 0 j (by simp) (by simpa using hj) (by omega) k h hX
   ·have:=hs.lt (i:=j) (by simpa using hj) k hX;omega
  by_cases h1:i=0
  ·have h2:¬j=0:=by omega
   simp only [h1,if_true,if_neg h2]at O4 OO
   exact key j hj h2 O4 OO
  ·simp only [if_neg h1]at O4
   by_cases h2:j=0
   ·simp only [h2,if_true]at OO
    exact key i hi h1 OO O4
   ·simp only [if_neg h2]at OO
    exact hs.dis i j (by simpa using hi) (by simpa using hj) OS k O4 OO
 ·simp at hm;simp only [if_neg hm]
 ·simp at hi;subst hi;exact hz k hk
theorem aM.first {t:Nat} {r:Nat→Nat} {s s':U.ty t} {rest:List (Res U)} {X:Nat→Nat→Prop} {w w':World} {Q:Ou U→Prop} {v:Value} {k:Option Kn} {Z:Nat→Prop}(hs:Sat (.ob t r s::rest) X w)(q:Ch (X 0) w w')(hp:U.pred t r s' Z w')(hz:∀k,Z k→X 0 k∨w.heap.size≤k)(hQ:Q ⟨v,k,[.ob t s'],[],[]⟩)(hk:KnO (.ob t r s'::rest) v k):aM (.ob t r s::rest) [0] X w Q (.returned v) w':=
 aM.LA (a':= .ob t r s') hs q (by simp [dz]) hp hz hQ hk
end
end V
theorem Dg.ek {d:Dg}(h:d.Ok):d.save.length=26:=by
 have h1:=h.len
 have h2:=h.n
 unfold Dg.save
 simp
 omega
theorem rI {l:List Int}(h:l.length=26):Value.agg (aY l)= .agg #[.int .u32 (l.getD 0 0),.int .u32 (l.getD 1 0),.int .u32 (l.getD 2 0),.int .u32 (l.getD 3 0),.int .u32 (l.getD 4 0),.int .u32 (l.getD 5 0),.int .u32 (l.getD 6 0),.int .u32 (l.getD 7 0),.int .u32 (l.getD 8 0),.int .u32 (l.getD 9 0),.int .u32 (l.getD 10 0),.int .u32 (l.getD 11 0),.int .u32 (l.getD 12 0),.int .u32 (l.getD 13 0),.int .u32 (l.getD 14 0),.int .u32 (l.getD 15 0),.int .u32 (l.getD 16 0),.int .u32 (l.getD 17 0),.int .u32 (l.getD 18 0),.int .u32 (l.getD 19 0),.int .u32 (l.getD 20 0),.int .u32 (l.getD 21 0),.int .u32 (l.getD 22 0),.int .u32 (l.getD 23 0),.int .u32 (l.getD 24 0),.int .u32 (l.getD 25 0)]:=by
 rcases l with _ | ⟨a0,_ | ⟨a1,_ | ⟨a2,_ | ⟨a3,_ | ⟨a4,_ | ⟨a5,_ | ⟨a6,_ | ⟨a7,_ | ⟨a8,_ | ⟨a9,_ | ⟨b0,_ | ⟨b1,_ | ⟨b2,_ | ⟨b3,_ | ⟨b4,_ | ⟨b5,_ | ⟨b6,_ | ⟨b7,_ | ⟨b8,_ | ⟨b9,_ | ⟨c0,_ | ⟨c1,_ | ⟨c2,_ | ⟨c3,_ | ⟨c4,_ | ⟨c5,_ | ⟨c6,r⟩⟩⟩⟩⟩⟩⟩⟩⟩⟩⟩⟩⟩⟩⟩⟩⟩⟩⟩⟩⟩⟩⟩⟩⟩⟩⟩
 all_goals first | rfl | (simp at h;done)
theorem Ld {g c mg:Nat} {A:Option Addr} {E:Pd} {Y Z:Nat→Prop} {w:World}(hb:RS (U:=Un) Y w (.blk g [.pointer (some (Addr.mk mg 0 none)),.slice A E.aJ.length c,.int .i64 E.aF] 101))(hl:RS (U:=Un) Z w (.lst 4 true 96 A c E.aJ))(hd:∀k,Y k→¬Z k)(hn:1≤E.n)(ok:E.Ok):
 ∃e,RS (U:=Un) (fun k=>k=g∨k=e) w (.ob 3 (fun i=>if i=0 then g else if i=1 then mg else if i=2 then e else c) E)∧Z e:=by
 obtain⟨hY,hY2,hb⟩:=hb
 obtain⟨ho,_⟩: @Own Ent _ w Z 96 A E.aJ.length c E.aJ∧∀k,Z k→k<w.heap.size:=hl
 rw [Pd.dQ]at ho hb
 obtain⟨e,rfl,hZ,Ow⟩:=ho.lt hn
 have he:e≠g:=fun h=>hd g hY (h▸hZ)
 refine⟨e,(⟨fun k=>Iff.rfl,⟨⟨_,hb⟩,?_,ok,he,hn⟩⟩:bJ 3 (fun i=>if i=0 then g else if i=1 then mg else if i=2 then e else c) E (fun k=>k=g∨k=e) w),hZ⟩
 exact⟨⟨ho.own.1,fun a ha=>by injection ha with ha;rw [← ha]⟩,ho.len⟩
end
def rK(w:Int):Bool:=decide (w % 256=1∧w / 256<64)
def cl(w:Int):Int:=if rK w then w / 256 else 0
def kZ(w:Int):Int:=if w=0 then 92 else if rK w then 0 else 90
def cm(p:Int):Int:=if 0≤p∧p<64 then 256*p+1 else 0
def dD(p:Int):Int:=if 0≤p∧p<64 then 0 else 4
structure Mp where
 cV:Bool
 ax:Int
 write:Bool
 exec:Bool
deriving DecidableEq
def Mp.bits(m:Mp):Int:=(if m.cV then 2 else 0)+(if m.write then 4 else 0)+(if m.exec then 8 else 0)
def Mp.err(m:Mp):Int:=if 0≤m.ax∧m.ax<64 then(if m.exec && !m.cV then 1 else 0)else 4
def Mp.word(m:Mp):Int:=if m.err=0 then 256*m.ax+1+m.bits else 0
abbrev Mp.nil:Mp:=⟨false,0,false,false⟩
def Mp.KU(w:Int):Mp:=⟨decide (w / 2 % 2=1),w / 256,decide (w / 4 % 2=1),decide (w / 8 % 2=1)⟩
def GS(w:Int):Bool:=decide ((Mp.KU w).err=0∧(Mp.KU w).word=w)
theorem GX {p:Int}(h:0≤p∧p<64):u32.wrap (BitVec.ofInt u32.bits (u32.wrap ((u32.wrap p:Int)*2 ^ 8)) ||| BitVec.ofInt u32.bits 1).toNat=256*p+1:=by
 rw [bj (x:=p) (by omega),bj (x:=p*2 ^ 8) (by omega),oP (by omega) (by omega),show p*2 ^ 8=2 ^ 8*p by omega,gQ 8 (by omega) (by omega) (by omega)];omega
theorem Bk(k:Nat)(b:Int)(hb:b=2 ^ k)(hk:k≤3) {p a:Int}(h:0≤p∧p<64)(ha:0≤a∧a<b):u32.wrap (BitVec.ofInt u32.bits (256*p+a) ||| BitVec.ofInt u32.bits b).toNat=256*p+(a+b):=by
 subst hb
 have h3:(2:Int) ^ k≤2 ^ 3:=by exact_mod_cast Nat.pow_le_pow_right (n:=2) (by omega) hk
 have h4:(0:Int)<2 ^ k:=Int.pow_pos (by omega)
 have assoc:∀x y z:Int,nor (nor x y) z=nor x (nor y z):=by
  intro x y z;unfold nor;simp [Nat.or_assoc]
 have e1:nor (2 ^ k*1) a=2 ^ k*1+a:=gQ k (by omega) ha.1 ha.2
 have e2:nor (2 ^ 8*p) a=2 ^ 8*p+a:=gQ 8 h.1 ha.1 (by omega)
 have e3:nor (2 ^ 8*p) (2 ^ k+a)=2 ^ 8*p+(2 ^ k+a):=gQ 8 h.1 (by omega) (by omega)
 rw [Int.mul_one]at e1
 rw [oP (by omega) (by omega),show 256*p+a=2 ^ 8*p+a by omega,← e2,assoc,nV a,e1,e3]
 omega
theorem qP(k:Nat)(b:Int)(hb:b=2 ^ k)(hk:k≤30) {x:Int}(hx:0≤x∧x<4294967296):((u32.wrap (BitVec.ofInt u32.bits x &&& BitVec.ofInt u32.bits b).toNat:Int) !=0)=decide (x / b % 2=1):=by
 subst hb
 rw [Bool.eq_iff_iff]
 simp only [bne_iff_ne,ne_eq,decide_eq_true_eq]
 show(¬u32.wrap (BitVec.ofInt u32.bits x &&& BitVec.ofInt u32.bits (2 ^ k)).toNat=0)↔x / 2 ^ k % 2=1
 have h3:(2:Int) ^ k≤2 ^ 30:=by exact_mod_cast Nat.pow_le_pow_right (n:=2) (by omega) hk
 have h4:(0:Int)<2 ^ k:=Int.pow_pos (by omega)
 rw [qO hx (by omega)]
 unfold JB
 obtain⟨x,rfl⟩:=Int.eq_ofNat_of_zero_le hx.1
 have e:((2:Int) ^ k).toNat=2 ^ k:=by rw [show(2:Int) ^ k=((2 ^ k:Nat):Int)by push_cast;rfl,Int.toNat_natCast]
 rw [e,Int.toNat_natCast]
 have h5:x &&& 2 ^ k=if x.testBit k then 2 ^ k else 0:=by
  apply Nat.eq_of_testBit_eq
  intro j
  rw [Nat.testBit_and,Nat.testBit_two_pow]
  by_cases hj:k=j
  ·subst hj
   cases hb:x.testBit k<;>simp
  ·cases hb:x.testBit k<;>simp [hj,Nat.testBit_two_pow]
 have h6:x.testBit k=decide (x / 2 ^ k % 2=1):=Nat.testBit_eq_decide_div_mod_eq
 rw [h5,h6]
 have h7:((x:Int) / 2 ^ k % 2=1)↔(x / 2 ^ k % 2=1):=by
  rw [show(x:Int) / 2 ^ k % 2=((x / 2 ^ k % 2:Nat):Int)by push_cast;rfl]
  omega
 rw [h7]
 have h8:0<2 ^ k:=Nat.two_pow_pos k
 by_cases h9:x / 2 ^ k % 2=1
 ·simp [h9];omega
 ·simp [h9]
namespace File
def part(l:List U32)(i:Int):Fl:=⟨l.take i.toNat++List.replicate (15 - i.toNat) (U32.mk 0),0,false,false,false⟩
end File
def Np(f:Int→Bool)(lo hi:Int):Bool:=(List.range (hi - lo).toNat).all fun i=>f (lo+(i:Int))
def y5(f:Int→Bool)(n:Int):Int:=(((List.range n.toNat).countP fun(i:Nat)=>f (i:Int):Nat):Int)
theorem EK {f:Int→Bool} {n:Int}(h:0≤n):y5 f (n+1)=y5 f n+(if f n then 1 else 0):=by
 unfold y5
 rw [show(n+1).toNat=n.toNat+1 by omega,List.range_succ,List.countP_append,Int.natCast_add]
 congr 1
 rw [List.countP_cons,List.countP_nil,show((n.toNat:Nat):Int)=n by omega]
 cases f n<;>simp
theorem JV {f:Int→Bool} {n:Int}:0≤y5 f n:=by unfold y5;omega
theorem JU {f:Int→Bool} {n:Int}(h:0≤n):y5 f n≤n:=by
 unfold y5
 have:=List.countP_le_length (p:=fun i=>f ((i:Nat):Int)) (l:=List.range n.toNat)
 rw [List.length_range]at this
 omega
namespace DB
def word(D:DB)(p o:Int):Int:=D.mem.bD true p o
def zero(D:DB)(p lo hi:Int):Bool:=Np (fun o=>D.word p o==0) lo hi
def is(D:DB)(p t:Int):Bool:=D.has p && (D.at_ p).typ==t
def of(D:DB)(p t o:Int):Bool:=D.is p t && (D.at_ p).owner==o
def named(D:DB)(p:Int)(n q:Int):Int:=y5 (fun i=>D.word p i !=0 && cl (D.word p i)==q) n
end DB
theorem Lq(k:Nat)(b:Int)(hb:b=2 ^ k) {x:Int}(hx:0≤x)(h:x % (2*b)<b):nor x b=x+b:=by
 have Qf:b=((2 ^ k:Nat):Int):=by rw [hb];simp
 obtain⟨n,rfl⟩:=Int.eq_ofNat_of_zero_le hx
 rw [Qf]at h ⊢
 unfold nor
 have h2:n % (2*2 ^ k)<2 ^ k:=by exact_mod_cast h
 have e1:n=2 ^ (k+1)*(n / (2*2 ^ k))+n % (2*2 ^ k):=by
  rw [Nat.pow_succ,Nat.mul_comm (2 ^ k) 2];exact(Nat.div_add_mod n _).symm
 have Ow:n % (2*2 ^ k)<2 ^ (k+1):=by rw [Nat.pow_succ];omega
 have Xb:2 ^ k+n % (2*2 ^ k)<2 ^ (k+1):=by rw [Nat.pow_succ];omega
 have e2:n ||| 2 ^ k=n+2 ^ k:=by
  generalize n % (2*2 ^ k)=r at *
  generalize n / (2*2 ^ k)=q at *
  have e3:(2 ^ k ||| r)=2 ^ k+r:=by
   have:=Nat.two_pow_add_eq_or_of_lt h2 1
   rw [Nat.mul_one]at this
   exact this.symm
  rw [e1,Nat.two_pow_add_eq_or_of_lt Ow,Nat.or_assoc,Nat.or_comm r,e3,← Nat.two_pow_add_eq_or_of_lt Xb,← Nat.two_pow_add_eq_or_of_lt Ow]
  omega
 simp only [Int.toNat_natCast]
 rw [e2]
 simp
theorem pK(k:Nat)(b:Int)(hb:b=2 ^ k)(hk:b<4294967296) {x:Int}(hx:0≤x∧x<4294967296)(h:x % (2*b)<b):u32.wrap (BitVec.ofInt u32.bits x ||| BitVec.ofInt u32.bits b).toNat=x+b:=by
 have h0:0≤b:=by rw [hb];exact Int.pow_nonneg (by omega)
 rw [oP hx ⟨h0,hk⟩,Lq k b hb hx.1 h]
theorem DK {x:Int}(hx:0≤x∧x<4294967296):u32.wrap (BitVec.ofInt u32.bits x &&& ~~~(BitVec.ofInt u32.bits 4095)).toNat=x - x % 4096:=by
 obtain⟨n,rfl⟩:=Int.eq_ofNat_of_zero_le hx.1
 have hn:n<2 ^ 32:=by have:=hx.2;omega
 have e:(BitVec.ofInt u32.bits (n:Int) &&& ~~~(BitVec.ofInt u32.bits 4095)).toNat=2 ^ 12*(n / 2 ^ 12):=by
  rw [sm,BitVec.toNat_and,eK (by omega) (by have:=hx.2;omega),show(~~~BitVec.ofInt 32 4095).toNat=2 ^ 12*(2 ^ 20 - 1)from by decide,Int.toNat_natCast]
  apply Nat.eq_of_testBit_eq
  intro i
  rw [Nat.testBit_and,Nat.testBit_two_pow_mul,Nat.testBit_two_pow_mul,Nat.testBit_two_pow_sub_one,Nat.testBit_div_two_pow]
  by_cases h1:12≤i
  ·by_cases h2:i<32
   ·simp [h1,show i - 12<20 by omega,show i - 12+12=i by omega,show 12+(i - 12)=i by omega]
   ·have h3:n.testBit i=false:=Nat.testBit_lt_two_pow (Nat.lt_of_lt_of_le hn (Nat.pow_le_pow_right (by omega) (by omega)))
    simp [h3,show i - 12+12=i by omega,show 12+(i - 12)=i by omega,h1]
  ·simp [h1]
 rw [e,bj]<;>omega
theorem HO {x:Int}(hx:0≤x∧x<4294967296):u32.wrap (BitVec.ofInt u32.bits x &&& BitVec.ofInt u32.bits 1023).toNat=x % 1024:=by
 rw [qO hx (by omega)]
 exact oS 10 hx.1
theorem nR {m:Mem}(h:m.Wf)(s:Bool)(p o:Int):0≤m.bD s p o∧m.bD s p o<4294967296:=by
 unfold Mem.bD
 split
 ·exact h.1 _ _ _
 ·omega
theorem mW(p:Int):0≤cm p∧cm p<4294967296:=by unfold cm;split<;>omega
theorem wj(p:Mp):0≤p.word∧p.word<4294967296:=by
 unfold Mp.word Mp.bits
 split
 ·rename_i h
  have hp:0≤p.ax∧p.ax<64:=by
   unfold Mp.err at h
   by_cases hp:0≤p.ax∧p.ax<64
   ·exact hp
   ·rw [if_neg hp]at h;omega
  split<;>split<;>split<;>omega
 ·omega
def iB(v:Int):Int:=if 1073741824≤v∨v % 4≠0 then 91 else 0
def vaI(v:Int):Int:=if iB v=0 then v / 4194304 else 0
def vaJ(v:Int):Int:=if iB v=0 then v / 4096 % 1024 else 0
def vaO(v:Int):Int:=if iB v=0 then v / 4 % 1024 else 0
def cI(v:Int):Int:=if v % 4096≠0∨1073741824≤v then 91 else 0
def mgW(v:Int)(a b:Bool):Int:=if cI v=0 then v+1+(if a then 2 else 0)+(if b then 4 else 0)else 0
def qm(w:Int):Bool:=decide (cI (w - w % 4096)=0∧mgW (w - w % 4096) (decide (w / 2 % 2=1)) (decide (w / 4 % 2=1))=w)
def lu(w:Int):Int:=if qm w then 0 else 142
def dt(w:Int):Int:=if qm w then w - w % 4096 else 0
def paW(w:Int):Bool:=qm w && decide (w / 2 % 2=1)
def paX(w:Int):Bool:=qm w && decide (w / 4 % 2=1)
namespace DB
def dG(d:DB)(s:Int):Int:=
 if !d.has s then 5 else if(d.at_ s).typ≠1 then 124 else if(d.at_ s).state=3 then 3 else if d.of (d.word s 0) 3 s then 0 else 124
def tbl(d:DB)(s:Int):Int:=if d.dG s=0 then d.word s 0 else 0
def nb(d:DB)(s i q:Int):Int:=
 if d.dG s≠0 then d.dG s else if i<0∨256≤i then 4 else if !d.has q then 5 else if !d.of q 4 s then 124 else if d.word (d.tbl s) i≠0 then 140 else 0
def add(d:DB)(s i q:Int):DB:=if d.nb s i q=0 then d.cp (·.write true (d.tbl s) i (cm q))else d
def pF(d:DB)(s w:Int):Bool:=kZ w==0 && d.of (cl w) 4 s
def dN(d:DB)(s va:Int):Int:=
 if d.dG s≠0 then d.dG s else if iB va≠0 then 91 else if d.pF s (d.word (d.tbl s) (vaI va))then 0 else 141
def plP(d:DB)(s va:Int):Int:=cl (d.word (d.tbl s) (vaI va))
def bK(d:DB)(s va:Int):Int:=if d.dN s va≠0 then d.dN s va else if d.word (d.plP s va) (vaJ va)≠0 then 140 else 0
def lq(d:DB)(s va:Int)(p:Mp):Int:=if d.bK s va≠0 then d.bK s va else p.err
def put(d:DB)(s va:Int)(p:Mp):DB:=if d.lq s va p=0 then d.cp (·.write true (d.plP s va) (vaJ va) p.word)else d
end DB
theorem nN {l:List Int} {i:Nat}:((l.map U32.mk).getD i (U32.mk 0)).v=l.getD i 0:=by
 rw [List.getD_eq_getElem?_getD,List.getD_eq_getElem?_getD,List.getElem?_map]
 cases l[i]? <;>rfl
theorem Dg.rD {d:Dg}(h:d.Ok):∀x∈d.save,0≤x∧x<4294967296:=by
 intro x hx
 have h1:=h.n
 obtain⟨q1,q2,q3,q4,q5,q6,q7,q8⟩:=h.st
 simp only [save,List.mem_append,List.mem_cons,List.not_mem_nil,or_false,List.mem_map,List.mem_replicate]at hx
 rcases hx with(h | h | h | h | h | h | h | h | h | h) | ⟨y,hy,rfl⟩ | ⟨_,rfl⟩
 all_goals first
  | (subst h;omega)
  | exact h.words y hy
  | omega
namespace Mem
def wrs(m:Mem)(p:Int):Int→List Int→Mem
 | _,[]=>m
 | o,x::l=>(m.write true p o x).wrs p (o+1) l
theorem xO(p x:Int):∀(l:List Int)(m:Mem)(o:Int),m.wrs p o (l++ [x])=(m.wrs p o l).write true p (o+l.length) x
 | [],m,o=>by simp [wrs]
 | y::l,m,o=>by
  simp only [List.cons_append,wrs,List.length_cons]
  rw [xO p x l]
  congr 1;omega
@[simp] theorem fz(p:Int):∀(l:List Int)(m:Mem)(o:Int),(m.wrs p o l).S=m.S
 | [],_,_=>rfl
 | x::l,m,o=>by rw [wrs,fz p l,bI]
theorem nt {m:Mem} {a i:Int} {l:List Int}(hl:l.length=26)(hi:0≤i∧i<26):m.wrs a 11 (l.take (i64.wrap (i+1)).toNat)=(m.wrs a 11 (l.take i.toNat)).write true a (i64.wrap (11+i)) (l.getD i.toNat 0):=by
 have Ow:i.toNat<l.length:=by omega
 rw [aq (x:=i+1) (by omega),aq (x:=11+i) (by omega),show(i+1).toNat=i.toNat+1 by omega,List.take_add_one,List.getElem?_eq_getElem Ow,List.getD_eq_getElem?_getD,List.getElem?_eq_getElem Ow]
 show m.wrs a 11 (l.take i.toNat++ [l[i.toNat]])=_
 rw [xO,List.length_take]
 congr 1
 omega
def dgW(m:Mem)(p:Int):List U32:=(List.range 26).map fun(i:Nat)=>U32.mk (m.bD true p (11+(i:Int)))
theorem dZ(m:Mem)(p:Int):(m.dgW p).length=26:=by rw [dgW,List.length_map,List.length_range]
theorem iM {m:Mem}(h:m.Wf)(p:Int):∀x∈m.dgW p,0≤x.v∧x.v<4294967296:=by
 intro x hx
 obtain⟨i,_,rfl⟩:=List.mem_map.1 hx
 exact nR h _ _ _
end Mem
namespace Dg
def IL(d:Dg):Prop:=d.Ok∧(d.n<16→d.st=S8.first)
theorem G4:new.IL:=⟨kA,fun _=>rfl⟩
theorem yE {l:List U32}(h:ay l=0):l.length=26∧nOf l≤36028797018963968∧(nOf l<16→ij l=S8.first)∧∀x∈l.drop (10+(nOf l % 16).toNat),x.v=0:=by
 unfold ay at h
 split at h
 ·omega
 ·rename_i h1
  split at h
  ·omega
  ·rename_i h2
   split at h
   ·rename_i h3
    refine⟨by omega,by omega,fun hn=>?_,fun x hx=>by simpa using List.all_eq_true.1 h3 x hx⟩
    by_cases e:ij l=S8.first
    ·exact e
    ·exact absurd (.inr ⟨hn,e⟩) h2
   ·omega
theorem fe {l:List U32}(hw:∀x∈l,0≤x.v∧x.v<4294967296)(h:ay l=0):(load l).IL:=by
 obtain⟨hl,hn,hf,_⟩:=yE h
 have hr:∀i,i<26→0≤(l.getD i ⟨0⟩).v∧(l.getD i ⟨0⟩).v<4294967296:=fun i hi=>by
  rw [List.getD_eq_getElem?_getD,List.getElem?_eq_getElem (by omega)]
  exact hw _ (List.getElem_mem ..)
 have h0:0≤nOf l:=by unfold nOf;have h8:=hr 8 (by omega);have h9:=hr 9 (by omega);omega
 refine⟨⟨⟨h0,hn⟩,?_,⟨hr 0 (by omega),hr 1 (by omega),hr 2 (by omega),hr 3 (by omega),hr 4 (by omega),hr 5 (by omega),hr 6 (by omega),hr 7 (by omega)⟩,fun x hx=>hw x (List.mem_of_mem_drop (List.mem_of_mem_take hx))⟩,hf⟩
 show((l.drop 10).take (nOf l % 16).toNat).length=(nOf l % 16).toNat
 rw [List.length_take,List.length_drop]
 omega
theorem lI {K:List Int} {d:Dg} {l:List U32}(h:d.IL)(hl:∀x∈l,0≤x.v∧x.v<4294967296):(d.add K l).IL:=by
 refine⟨sy h.1 hl,fun hn=>?_⟩
 unfold add at hn ⊢
 split at hn
 ·rename_i hc;rw [if_pos hc];exact h.2 hn
 ·rename_i hc
  rw [if_neg hc]
  have h0:=h.1.n
  have hw:=h.1.len
  have hn:d.n+l.length<16:=hn
  show(bT K d.st (d.waits++l)).1=_
  rw [dE (by rw [List.length_append];omega)]
  exact h.2 (by omega)
theorem uT {d:Dg}(h:d.IL):ay (d.save.map U32.mk)=0∧load (d.save.map U32.mk)=d:=by
 have h1:=h.1.n
 have h2:=h.1.len
 have hg:∀i,((d.save.map U32.mk).getD i ⟨0⟩).v=d.save.getD i 0:=fun i=>nN
 have e8:d.save.getD 8 0=d.n / 4294967296:=rfl
 have e9:d.save.getD 9 0=d.n % 4294967296:=rfl
 have hn:nOf (d.save.map U32.mk)=d.n:=by unfold nOf;rw [hg,hg,e8,e9];omega
 have hs:ij (d.save.map U32.mk)=d.st:=by unfold ij;simp only [hg];rfl
 have hd:(d.save.map U32.mk).drop 10=d.waits++List.replicate (16 - d.waits.length) (U32.mk 0):=by
  show((d.waits.map U32.v++List.replicate (16 - d.waits.length) 0).map U32.mk)=_
  rw [List.map_append,List.map_map,List.map_replicate]
  congr 1
  exact(List.map_congr_left fun x _=>rfl).trans (List.map_id _)
 refine⟨jh (by rw [List.length_map,ek h.1]) (by rw [hn,hs];rintro(h3 | ⟨h3,h4⟩);omega;exact h4 (h.2 h3)) fun i x hx=>?_,?_⟩
 ·rw [hn,← List.drop_drop,hd,← h2,List.drop_left]at hx
  rw [List.getElem?_replicate]at hx
  split at hx
  ·injection hx with hx;rw [← hx]
  ·cases hx
 ·unfold load
  rw [hn,hs,hd,← h2,List.take_left]
end Dg
abbrev fi(l:List U32):Prop:=∀x∈l,0≤x.v∧x.v<4294967296
def opW(k a:Int)(l:List U32):List U32:= [U32.mk k,U32.mk a]++l
theorem AW {k a:Int}(ha:0≤a∧a<4294967296)(hk:k=1∨k=2∨k=4):fi [U32.mk (u32.wrap k),U32.mk a]:=by
 rw [bj (by omega)]
 intro x hx
 rcases List.mem_cons.1 hx with rfl | hx
 ·show 0≤k∧k<4294967296
  omega
 ·obtain rfl:=List.mem_singleton.1 hx
  exact ha
theorem DX {a:Int} {l:List U32}(ha:0≤a∧a<4294967296)(hl:fi l):fi ([U32.mk 3,U32.mk a]++l):=by
 intro x hx
 simp only [List.cons_append,List.nil_append,List.mem_cons]at hx
 rcases hx with rfl | rfl | hx
 ·exact⟨by decide,by decide⟩
 ·exact ha
 ·exact hl x hx
theorem Er {k a:Int}(hk:k=1∨k=2∨k=4):opW k a []= [U32.mk (u32.wrap k),U32.mk a]:=by
 rw [bj (by omega)];rfl
namespace W26
abbrev Ok(x:W26):Prop:=fi x.n
def ws(x:W26):List Int:=x.n.map U32.v
theorem Mu(x:W26):x.n.length=26:=rfl
theorem Gr(x:W26)(i:Nat):x.ws.getD i 0=(x.n.getD i (U32.mk 0)).v:=by
 rw [ws,List.getD_eq_getElem?_getD,List.getD_eq_getElem?_getD,List.getElem?_map]
 cases x.n[i]? <;>rfl
theorem K2 {x:W26}(h:x.Ok) {i:Nat}(hi:i<26):0≤x.ws.getD i 0∧x.ws.getD i 0<4294967296:=by
 rw [Gr,List.getD_eq_getElem?_getD,List.getElem?_eq_getElem (by rw [Mu];exact hi)]
 exact h _ (List.getElem_mem ..)
theorem MV {l:List U32} {i:Int}(hi:0≤i∧i<26):(⟨W26.c (W26.mk l)⟩:Array Value)[i.toNat *1]? =some (.int .u32 (l.getD i.toNat (U32.mk 0)).v):=by
 have h0:(⟨W26.c (W26.mk l)⟩:Array Value)[i.toNat *1]? =(aN (fun j=>Value.int .u32 (l.getD j (U32.mk 0)).v) (upN 0 26))[i.toNat *1]? :=by simp [W26.c]
 rw [h0]
 obtain⟨j,hj⟩:=cf (l:=upN 0 26) (i:=i.toNat) (by rw [gL];omega)
 rw [Nat.mul_one,← aQ,bp,hj]
 have:=jC hj
 rw [show j=i.toNat by omega];rfl
theorem jG(x:W26):x.ws.length=26:=rfl
end W26
theorem W26.JC {l:List U32}(h:l.length=26):W26.n (W26.mk l)=l:=by
 apply List.ext_getElem?
 intro i
 show(aN _ _)[i]? =_
 rw [← aQ,bp]
 cases hj:nth (upN 0 26) i with
 | none=>
  rw [List.getElem?_eq_none];rfl
  by_cases hi:i<26
  ·obtain⟨_,h8⟩:=cf (l:=upN 0 26) (i:=i) (by rw [gL];exact hi)
   rw [hj]at h8;cases h8
  ·omega
 | some j=>
  have h1:=jC hj
  have h2:=aX hj
  rw [gL]at h2
  have h3:j=i:=by omega
  subst h3
  show some (U32.mk (l.getD j (U32.mk 0)).v)=_
  rw [List.getD_eq_getElem?_getD,List.getElem?_eq_getElem (by omega)];rfl
theorem W26.nn {l:List U32}(h:l.length=26):W26.n (W26.mk (W26.n (W26.mk l)))=l:=by rw [W26.JC h,W26.JC h]
theorem W26.Dn {l:List U32}(h:l.length=26)(hl:fi l):W26.Ok (W26.mk (W26.n (W26.mk l))):=by
 show fi _
 rw [W26.nn h];exact hl
theorem Dg.svL_eq {d:Dg}(h:d.Ok):d.svL=d.save.map U32.mk:=by
 have e:d.svL=W26.n (W26.mk (d.save.map U32.mk)):=by
  show aN _ _=aN _ _
  congr 1
  funext j
  rw [nN]
 rw [e,W26.JC (by rw [List.length_map,Dg.ek h])]
theorem Dg.A6 {d:Dg}(h:d.Ok):fi d.svL:=by
 rw [Dg.svL_eq h]
 intro x hx
 obtain⟨y,hy,rfl⟩:=List.mem_map.1 hx
 exact Dg.rD h y hy
theorem Dg.GB {d:Dg}(h:d.Ok):W26.ws (W26.mk (W26.n (W26.mk d.svL)))=d.save:=by
 show(W26.n _).map U32.v=_
 rw [W26.nn (by rfl),Dg.svL_eq h,List.map_map]
 exact(List.map_congr_left fun x _=>rfl).trans (List.map_id _)
namespace Mem
theorem wG {m:Mem} {p:Int} {i:Nat}(hi:i<26):(m.dgW p)[i]? =some (U32.mk (m.bD true p (11+(i:Int)))):=by
 unfold dgW
 rw [List.getElem?_map,List.getElem?_range hi];rfl
theorem yT {m:Mem} {p i:Int} {l:List U32}(hi:0≤i∧i<26)(h:l=(m.dgW p).take i.toNat++List.replicate (26 - i.toNat) (U32.mk 0)):l.set i.toNat (U32.mk (m.bD true p (i64.wrap (11+i))))=(m.dgW p).take (i64.wrap (i+1)).toNat++List.replicate (26 - (i64.wrap (i+1)).toNat) (U32.mk 0):=by
 subst h
 rw [aq (x:=i+1) (by omega),aq (x:=11+i) (by omega),show(i+1).toNat=i.toNat+1 by omega,List.take_add_one,wG (by omega),show(11+((i.toNat:Nat):Int))=11+i by omega,show 26 - i.toNat=(26 - (i.toNat+1))+1 by omega,List.replicate_succ]
 have hl:((m.dgW p).take i.toNat).length=i.toNat:=by rw [List.length_take,dZ];omega
 rw [List.set_append,if_neg (by omega),hl,Nat.sub_self]
 simp
theorem DD {m:Mem} {p i:Int}(hi:i=26):(m.dgW p).take i.toNat++List.replicate (26 - i.toNat) (U32.mk 0)=m.dgW p:=by
 subst hi
 show(m.dgW p).take 26++ []=_
 rw [List.append_nil,List.take_of_length_le (by rw [dZ];omega)]
end Mem
theorem rT {k a:Int} {l:List U32}(ha:0≤a∧a<4294967296)(hk:k=1∨k=2∨k=3∨k=4)(hl:fi l):fi (opW k a l):=by
 intro x hx
 simp only [opW,List.cons_append,List.nil_append,List.mem_cons]at hx
 rcases hx with rfl | rfl | hx
 ·show 0≤k∧k<4294967296
  omega
 ·exact ha
 ·exact hl x hx
def Mem.msd(kk:List Int)(m:Mem)(p k a:Int)(l:List U32):Mem:=
 if Dg.ay (m.dgW p)=0 then m.wrs p 11 ((Dg.load (m.dgW p)).add kk (opW k a l)).save else m
theorem Mem.iD(kk:List Int)(m:Mem)(p k a:Int)(l:List U32):(m.msd kk p k a l).S=m.S:=by unfold Mem.msd;split<;>simp
theorem Sat.swap {U:Uni} {rs OK:List (Res U)} {X:Nat→Nat→Prop} {w:World}(hl:OK.length=rs.length)(hr:∀i b,nth OK i=some b→∃a,nth rs i=some a∧∀X w,RS X w a→RS X w b)(h:Sat rs X w):Sat OK X w:=
 ⟨fun i b hb=>by obtain⟨a,ha,hab⟩:=hr i b hb;exact hab _ _ (h.res i a ha),fun i j hi hj=>h.dis i j (by omega) (by omega)⟩
theorem aM.swap {U:Uni} {rs OK:List (Res U)} {X:Nat→Nat→Prop} {w w':World} {Q Q':Ou U→Prop} {e:Ending}(hl:OK.length=rs.length)(hr:∀i b,nth OK i=some b→∃a,nth rs i=some a∧∀X w,RS X w a→RS X w b)
 (hQ:∀out,Q out→Q' out∧(KnO (rs++out.news) out.res out.kr→KnO (OK++out.news) out.res out.kr)∧out.kc= [])(h:aM rs [] X w Q e w'):aM OK [] X w Q' e w':=by
 obtain⟨out,rs',X',he,hq,Oo,hp⟩:=h
 obtain⟨h1,h2,h3⟩:=hQ out hq
 have hu:out.upd= []∧rs'=rs:=by
  cases hu:out.upd with
  | nil=>rw [hu]at Oo;simp only [bx,Option.some.injEq]at Oo;exact⟨rfl,Oo.symm⟩
  | cons a l=>rw [hu]at Oo;cases Oo
 obtain⟨hu,rfl⟩:=hu
 have Oh:∀i b,nth (OK++out.news) i=some b→∃a,nth (rs'++out.news) i=some a∧∀X w,RS X w a→RS X w b:=by
  intro i b hb
  rw [bm]at hb ⊢
  rw [hl]at hb
  split at hb
  ·rename_i hi;rw [if_pos hi];exact hr i b hb
  ·rename_i hi;rw [if_neg hi];exact⟨b,hb,fun _ _ h=>h⟩
 refine⟨out,OK,X',he,h1,by rw [hu];rfl,⟨Sat.swap (by simp [hl]) Oh hp.sat,hp.ch,fun i hi=>hp.same i (by omega),hp.grow,fun i hi X5=>hp.new i (by omega) (by omega),hp.kr.imp id h2,fun key k hk=>by rw [h3]at hk;cases hk⟩⟩
theorem C3 {T:TypeId} {x:Wt} {r:Nat→Nat} {rest:List (Res Un)}:∀i b,nth (Res.ob 8 r x::rest) i=some b→∃a,nth (Res.lst 1 false T x.A x.c x.l::rest) i=some a∧∀X w,RS X w a→RS X w b
 | 0,b,h=>by
  simp only [nth,Option.some.injEq]at h
  subst h
  exact⟨_,rfl,fun _ _ h=>h⟩
 | i+1,b,h=>⟨b,h,fun _ _ h=>h⟩
theorem yC {T:TypeId} {x:Wt} {r:Nat→Nat} {rest:List (Res Un)}:∀i b,nth (Res.lst 1 false T x.A x.c x.l::rest) i=some b→∃a,nth (Res.ob 8 r x::rest) i=some a∧∀X w,RS X w a→RS X w b
 | 0,b,h=>by
  simp only [nth,Option.some.injEq]at h
  subst h
  exact⟨_,rfl,fun _ _ h=>h⟩
 | i+1,b,h=>⟨b,h,fun _ _ h=>h⟩
theorem rR {f:Nat→Int} {cs:Array Value}(hs:cs.size=1024)(h:∀o,o<1024→cs[o]? =some (.int .u32 (f o))):cs=aY ((List.range 1024).map f):=by
 apply Array.ext_getElem?
 intro i
 by_cases hi:i<1024
 ·rw [h i hi,eo (by simpa using hi),List.getD_eq_getElem?_getD,List.getElem?_map,List.getElem?_range hi];rfl
 ·rw [Array.getElem?_eq_none (by omega),Array.getElem?_eq_none (by simp;omega)]
structure zX(w:World)(a n:Nat)(pg:Nat→Nat)(f:Nat→Nat→Int):Prop where
 row:∃T cs,Blk w a cs T∧∀i,i<n→cs[i]? =some (ptr (pg i))
 pgs:∀i,i<n→iz w (pg i) (f i)
theorem zX.pu {w w':World} {a n:Nat} {pg:Nat→Nat} {f:Nat→Nat→Int}(h:zX w a n pg f)(q:Pu w w'):zX w' a n pg f:=by
 obtain⟨⟨T,cs,hr,h2⟩,h3⟩:=h
 exact⟨⟨T,cs,q.blk hr,h2⟩,fun i hi=>(h3 i hi).pu q⟩
theorem cv.KM {w:World} {L:eW} {m:Mem}(h:cv w L m)(s:Bool):zX w (L.row s) (m.cnt s) (L.pg s) (m.pg s):=⟨h.rows s,h.pgs s⟩
theorem KT {w:World} {a n:Nat} {pg:Nat→Nat} {f:Nat→Nat→Int}(h:zX w a n pg f)(hn:n≤64):
 Calls prog 122 #[.slice (some (Addr.mk a 0 none)) n n] w fun e w'=>∃v,e= .returned v∧∃g p,v= .slice (some (Addr.mk g 0 none)) n n∧jK w' g n n p f w.heap.size∧Pu w w':=by
 refine Ah _ _ _ ?_
 refine gR GJ (by omega) (by omega) (by omega) fun g w1 hM=>?_
 rw [Int.toNat_natCast]at hM ⊢
 refine⟨fun k x w'=>∃i:Nat,x=(i:Int)∧i≤n∧k=n - i∧(∃p,jK w' g n i p f w.heap.size)∧Pu w w',⟨n,0,rfl,by omega,by omega,⟨fun _=>0,⟨⟨_,_,hM.blk,by simp,by simp⟩,by simp,by simp,by simp,by rw [hM.num];exact Nat.le_refl _,by simp⟩⟩,hM.pu⟩,?_⟩
 rintro k _ x w2 ⟨i,rfl,hi,rfl,⟨p,hP⟩,QR⟩
 refine af (fun hb=>?_) (fun hb=>?_)
 ·have OI:i<n:=by simpa using hb
  have h2:=h.pu QR
  obtain⟨T0,XD,VF,hc0⟩:=h2.row
  obtain⟨T1,Ya,Ws,O2,hc1⟩:=h2.pgs i OI
  refine⟨⟨by omega,by omega⟩,ai _ rfl ⟨some (Addr.mk (pg i) 0 none),by rw [Nat.mul_one,Int.toNat_natCast];exact VF.at (hc0 i OI),ai _ rfl ⟨Ya,⟨O2,fun j u hj=>Ws.at hj⟩,?_⟩⟩⟩
  intro q w3 hq Tf
  have SO:=made hq Tf
  have adY:∀v∈Ya.toList,one? v True:=by rw [rR O2 hc1];exact lg
  refine⟨O2,adY,bH SO.blk (by simpa using O2) fun w4 hs4=>?_⟩
  have S5:iz w4 q (f i):=⟨_,_,hs4.blk,by simpa using O2,fun o ho=>by simpa using hc1 o ho⟩
  have hqn:w2.heap.size≤q:=by rw [SO.num];exact Nat.le_refl _
  have h24:Pu w2 w4:=(Ch.stored (X:=fun _=>False) (SO.pu) hs4 (.inr hqn))
  obtain⟨T,cs,hr,On,UO⟩:=hP.more (w2:=w4) h24 S5 hqn OI QR.size
  refine⟨⟨by omega,by omega⟩,ai _ rfl ?_⟩
  rw [Nat.mul_one,Int.toNat_natCast]
  refine aP hr On fun w5 hs=>⟨n - (i+1),by omega,i+1,?_,OI,rfl,⟨_,UO _ hs⟩,?_⟩
  ·rw [aq (by omega)];omega
  ·have hg:w.heap.size≤g:=hP.low.1
   exact((QR.trans h24).mono (by simp):Ch (fun _=>False) w w4).stored hs (.inr hg)
 ·have:i=n:=by simp at hb;omega
  subst this
  exact⟨g,p,rfl,hP,QR⟩
theorem Bt {w:World} {L:eW} {m:Mem}(h:cv w L m):
 Calls prog 51 #[ptr L.g] w fun e w'=>∃v,e= .returned v∧∃L':eW,v=ptr L'.g∧cv w' L' m∧(∀k,L'.X k→w.heap.size≤k)∧Pu w w':=by
 refine xn _ ?_
 obtain⟨T,hd⟩:=h.hd
 have hD:Pu w w.drew:=Pu.aI w
 have hd1:=hD.blk hd
 refine⟨fun _ k=>k=L.g,ai _ rfl ⟨by rw [block_add],_,_,_,hd1.at rfl,ai _ rfl ⟨by rw [block_add],_,_,_,hd1.at rfl,ai _ rfl ⟨by rw [block_add],_,hd1.at rfl,?_⟩⟩⟩⟩
 refine(KT ((h.KM true).pu hD) h.er.1).mono ?_
 rintro e w1 ⟨_,rfl,a,pa,rfl,hA,Oj⟩
 have Wp:L.g<w.drew.heap.size:=hd1.lt
 refine⟨_,_,_,rfl,Oj.iL (fun k hk=>by have:k=L.g:=(by simpa [bE]using hk);rw [this];exact Wp),fun _ k=>k=L.g,fun _ k hk=>hk,?_⟩
 refine(KT (((h.KM false).pu hD).pu Oj) h.er.2).mono ?_
 rintro e w2 ⟨_,rfl,b,pb,rfl,hB,Om⟩
 have h12:=Om.size
 have h01:=Oj.size
 have h0:=hD.size
 refine⟨_,_,_,rfl,Om.iL (fun k hk=>by have:k=L.g:=(by simpa [bE]using hk);rw [this];omega),fun _ k=>k=L.g,fun _ k hk=>hk,?_⟩
 intro g w3 hg Tf
 have hM:=made hg Tf
 refine⟨hM.kept.mono (fun k hk=>by have:k=L.g:=(by simpa [bE]using hk);rw [this];omega),fun _ k=>k=L.g,fun _ k hk=>hk,?_⟩
 have hA3:=(hA.pu Om).pu hM.pu
 have hB3:=hB.pu hM.pu
 have Xn:∀j,j<m.S→pa j<w1.heap.size:=fun j hj=>(hA.pgs j hj).lt
 have OM:a<w1.heap.size:=by obtain⟨T,cs,hr,_⟩:=hA.row;exact hr.lt
 have Xm:∀j,j<m.I→pb j<w2.heap.size:=fun j hj=>(hB.pgs j hj).lt
 have hbg:b<w2.heap.size:=by obtain⟨T,cs,hr,_⟩:=hB.row;exact hr.lt
 have hgn:=hM.num
 refine⟨⟨g,a,b,fun s=>match s with | true=>pa | false=>pb,fun s=>m.cnt s⟩,rfl,⟨fun s=>rfl,⟨(148,T.2),hM.blk⟩,fun s=>?_,fun s i hi=>?_,fun s i s' i' hi OI e=>?_,⟨by show a≠g;omega,by show b≠g;omega,fun s i hi=>?_⟩,h.u32,h.er⟩,?_,((hD.trans Oj).trans Om).trans hM.pu⟩
 ·cases s
  ·obtain⟨T,cs,hr,_,h2⟩:=hB3.row;exact⟨T,cs,hr,h2⟩
  ·obtain⟨T,cs,hr,_,h2⟩:=hA3.row;exact⟨T,cs,hr,h2⟩
 ·cases s
  ·exact hB3.pgs i hi
  ·exact hA3.pgs i hi
 ·cases s<;>cases s'<;>simp only [Mem.cnt]at hi OI<;>simp only at e
  ·exact⟨rfl,hB.inj _ _ hi OI e⟩
  ·have:=hB.low.2 i hi;have:=Xn i' OI;omega
  ·have:=hB.low.2 i' OI;have:=Xn i hi;omega
  ·exact⟨rfl,hA.inj _ _ hi OI e⟩
 ·cases s<;>simp only [Mem.cnt]at hi<;>simp only
  ·have:=hB.low.2 i hi;have:=Xm i hi;have:=hB.dis i hi
   refine⟨?_,?_,this⟩<;>omega
  ·have:=hA.low.2 i hi;have:=Xn i hi;have h3:=hA.dis i hi;have:=hB.low.1
   refine⟨?_,h3,?_⟩<;>omega
 ·rintro k (rfl | rfl | rfl | ⟨s,i,hi,rfl⟩)
  ·omega
  ·have:=hA.low.1;omega
  ·have:=hB.low.1;omega
  ·cases s<;>simp only [Mem.cnt]at hi<;>simp only
   ·have:=hB.low.2 i hi;omega
   ·have:=hA.low.2 i hi;omega
def HT(n n':Nat)(f g:Nat→Nat→Int):Bool:=decide (n=n') && (List.range n).all fun i=>(List.range 1024).all fun o=>f i o==g i o
def Mem.same(m o:Mem):Bool:=HT m.S o.S (m.pg true) (o.pg true) && HT m.I o.I (m.pg false) (o.pg false)
section
namespace Mem
def rd(m:Mem)(s:Bool)(p o:Int):Mem:=if m.has s p && dC o then m.tick 1 else m
def mG(m:Mem)(s:Bool)(p:Int)(s':Bool)(p':Int):Int:=if m.has s p && m.has s' p' then 0 else 5
def copy(m:Mem)(s:Bool)(p:Int)(s':Bool)(p':Int):Mem:=if m.has s p && m.has s' p' then(m.tick 2048).fill s p.toNat (m.pg s' p'.toNat)else m
def words(m:Mem)(s:Bool)(p:Nat):List U32:=(List.range 1024).map fun o=>U32.mk (m.pg s p o)
end Mem
section
variable {w:World} {L:eW} {m:Mem}
theorem KR(h:cv w L m)(s:Bool)(p o:Int):
 Calls prog 92 #[ptr L.g,fr s p,.int .i64 o] w fun e w'=>∃v,e= .returned v∧v= .tuple #[.int .u32 (m.bD s p o),.int .i64 (m.err s p o)]∧cv w' L (m.rd s p o)∧Ch L.X w w':=by
 refine z9 _ s p o ?_
 intro g1 w1 hg hw
 have hM:=made hg hw
 refine⟨_,_,⟨hM.blk.at rfl,hM.blk.at rfl⟩,(KQ (h.pu hM.pu) s p o).mono ?_⟩
 rintro e w2 ⟨_,rfl,⟨hh,rfl,h2,hc⟩ | ⟨hh,rfl,he,hp⟩⟩
 ·refine⟨_,_,rfl,af (fun hb=>by simp at hb) (fun _=>?_)⟩
  have Rt:Ch L.X w w2:=((Ch.refl _ w).made hM).trans hc
  have hh':=hh
  simp only [Bool.and_eq_true]at hh
  have hi:=Mem.cK hh.1
  have ho:=Mem.fX hh.2
  obtain⟨T,cs,hr,On,O0⟩:=h2.pgs s p.toNat (by simpa using hi)
  refine ai _ rfl ⟨_,hr.cell (O0 _ (by omega)),?_,?_,Rt⟩
  ·simp [Mem.bD,Mem.err,hh.1,hh.2,Mem.tick]
  ·simpa [Mem.rd,hh']using h2
 ·refine⟨_,_,rfl,af (fun _=>⟨?_,?_,(hM.pu.trans hp).mono (by simp)⟩) (fun hb=>absurd (by simpa using hb) he)⟩
  ·simp [Mem.bD,hh]
  ·simpa [Mem.rd,hh]using (h.pu hM.pu).pu hp
theorem Mz(h:cv w L m)(s:Bool)(p:Int)(s':Bool)(p':Int):
 Calls prog 66 #[ptr L.g,fr s p,fr s' p'] w fun e w'=>∃v,e= .returned v∧v= .int .i64 (m.mG s p s' p')∧cv w' L (m.copy s p s' p')∧Ch L.X w w':=by
 refine Aj _ s p s' p' ?_
 intro g1 w1 hg hw g2 w2 hg2 WY
 have hM:=made hg hw
 have UY:=made hg2 WY
 have hD:Pu w w2.drew:=(hM.pu.trans UY.pu).drew
 have l1:g1<w2.drew.heap.size:=by have:=hM.lt;have:=UY.pu.size;exact Nat.lt_of_lt_of_le ‹_› ‹_›
 have l2:g2<w2.drew.heap.size:=UY.lt
 refine⟨fun _ k=>k<w2.drew.heap.size,l1,_,_,⟨(UY.old hM.blk).drew.at rfl,(UY.old hM.blk).drew.at rfl⟩,l2,_,_,⟨UY.blk.drew.at rfl,UY.blk.drew.at rfl⟩,(mAt (h.pu hD) s p).mono ?_⟩
 rintro e w3 ⟨_,rfl,rfl,hp⟩
 refine⟨_,rfl,hp.iL (fun k hk=>by simpa [bE]using hk),fun _ k=>k<w2.drew.heap.size,fun _ _ h=>h,(mAt ((h.pu hD).pu hp) s' p').mono ?_⟩
 rintro e w4 ⟨_,rfl,rfl,hp'⟩
 have Qs:=(hD.trans hp).trans hp'
 refine⟨_,rfl,fun _ k=>k<w2.drew.heap.size,fun _ _ h=>h,fun b w'=>w4=w'∧b= !(m.has s p && m.has s' p'),?_,?_⟩
 ·refine af (fun hb=>⟨rfl,?_⟩) (fun hb=>⟨rfl,?_⟩)
  ·cases hq:m.has s p<;>simp [hq]at hb ⊢
  ·cases hq:m.has s p
   ·simp [hq]at hb
   ·cases XU:m.has s' p'<;>simp
 rintro _ x _ ⟨rfl,rfl⟩
 refine af (fun hb=>?_) (fun hb=>?_)
 ·have Qf:(m.has s p && m.has s' p')=false:=by simpa only [Bool.not_eq_true']using hb
  refine⟨by simp [Mem.mG,Qf],by simpa [Mem.copy,Qf]using h.pu Qs,Qs.mono (by simp)⟩
 ·have Qf:(m.has s p && m.has s' p')=true:=by simpa only [Bool.not_eq_false']using hb
  have hh:=Qf
  simp only [Bool.and_eq_true]at hh
  have hi:=Mem.cK hh.1
  have OI:=Mem.cK hh.2
  have h4:=h.pu Qs
  obtain⟨T,hd⟩:=h4.hd
  refine Lz hd rfl (ai _ rfl (aP hd (by simp) fun w5 hs=>?_))
  have h5:=h4.G7 hs
  obtain⟨T',cs,hr,On,O0⟩:=h5.pgs s' p'.toNat OI
  obtain⟨T2,X9,QK,VE,acp⟩:=h5.pgs s p.toNat hi
  rw [if_pos hh.1,if_pos hh.2]
  refine ai _ rfl ⟨cs,⟨On,fun i u hu=>hr.at hu⟩,ai _ rfl ⟨On,?_,bH QK (by simp [On,VE]) fun w6 hs6=>⟨?_,?_,?_⟩⟩⟩
  ·rw [rR On O0];exact lg
  ·simp [Mem.mG,Qf]
  ·have:=h5.ax (f:=m.pg s' p'.toNat) hi hs6 (by simpa using On) (fun o ho=>by simpa using O0 o ho) (fun o=>h.u32 _ _ _)
   simp only [Mem.copy,Qf,if_true];exact this
  ·exact((Qs.mono (by simp):Ch L.X w w4).stored hs (.inl (.inl rfl))).stored hs6 (.inl (h.inX hi))
theorem My(h:cv w L m)(s:Bool)(p:Int):
 Calls prog 69 #[ptr L.g,fr s p] w fun e w'=>∃v,e= .returned v∧
  (m.has s p=true∧cv w' L (m.tick 1024)∧Ch L.X w w'∧(∃g,v= .tuple #[.slice (some (Addr.mk g 0 none)) 1024 1024,.int .i64 0]∧w.heap.size≤g∧g<w'.heap.size∧Own w' (fun k=>k=g) 29 (some (Addr.mk g 0 none)) 1024 1024 (m.words s p.toNat))∨
   m.has s p=false∧v= .tuple #[.slice none 0 0,.int .i64 5]∧Pu w w'):=by
 refine Ad _ s p ?_
 intro g1 w1 hg hw
 have hM:=made hg hw
 refine⟨_,_,⟨hM.blk.at rfl,hM.blk.at rfl⟩,(Hc (h.pu hM.pu) s p 1).mono ?_⟩
 rintro e w2 ⟨_,rfl,⟨hh,rfl,h2,hc⟩ | ⟨hh,rfl,hp⟩⟩
 ·refine⟨_,_,rfl,af (fun hb=>by simp at hb) (fun _=>?_)⟩
  have Rt:Ch L.X w w2:=((Ch.refl _ w).made hM).trans hc
  have hi:=Mem.cK hh
  refine gR nL (by omega) (by omega) (by omega) fun g w3 SO=>?_
  have h3:=h2.pu SO.pu
  obtain⟨T,cs,hr,On,O0⟩:=h3.pgs s p.toNat (by simpa using hi)
  have O3:cs=aY ((List.range 1024).map ((m.tick 1024).pg s p.toNat)):=rR On O0
  subst O3
  refine ai _ rfl ?_
  rintro A rfl N rfl C rfl
  have hg:(1024:Int).toNat=1024:=rfl
  rw [hg]at SO ⊢
  have Vh:Blk w3 g (aY (List.replicate 1024 0)) 29:=by rw [dM];exact SO.blk
  have hz:(List.replicate 1024 (0:Int)).length=1024:=List.length_replicate
  have hl:((List.range 1024).map ((m.tick 1024).pg s p.toNat)).length=1024:=by rw [List.length_map,List.length_range]
  have hw:(((List.range 1024).map ((m.tick 1024).pg s p.toNat)).map U32.mk)=m.words s p.toNat:=by rw [List.map_map];rfl
  generalize (List.range 1024).map ((m.tick 1024).pg s p.toNat)=l at *
  generalize List.replicate 1024 (0:Int)=z at *
  have QY:dA w3 (fun _=>True) .u32 (some (Addr.mk (L.pg s p.toNat) 0 none)) 1024 1024 ((l.drop 0).take 1024):=dA.row hr trivial (Nat.le_refl _) (by omega)
  have e1:(l.drop 0).take 1024=l:=by rw [List.drop_zero,List.take_of_length_le (by omega)]
  rw [e1]at QY
  have e2:(if 1024=0 then Addr.mk (L.pg s p.toNat) 0 none else(Addr.mk (L.pg s p.toNat) 0 none).add (0*1))=Addr.mk (L.pg s p.toNat) 0 none:=rfl
  rw [e2]
  refine o5 nL Vh rfl QY (by omega) fun w4 hs=>?_
  have e3:fI z 0 (l.take (min (1024 - 0) 1024))=l:=by
   rw [show min (1024 - 0) 1024=1024 from rfl,List.take_of_length_le (by omega),nJ _ _ (by rw [hl,hz])]
  rw [e3]at hs
  have hn:w2.heap.size≤g:=by rw [SO.num];exact Nat.le_refl _
  have Qq:Ch L.X w w3:=Rt.made SO
  have hg0:w.heap.size≤g:=Nat.le_trans Rt.size hn
  have hnx:∀k,L.X k→k≠g:=fun k hk=>by have:=h2.lt k hk;omega
  have h4:cv w4 L (m.tick 1024):=h3.kept (B:=fun k=>k≠g) hs.kept hnx
  have ho:=Own.ofRow (w:=w4) (e:=29) hs.blk hl (by decide)
  rw [hw]at ho
  refine Or.inl ?_
  exact⟨hh,h4,Qq.stored hs (.inr hg0),g,rfl,hg0,hs.blk.lt,ho⟩
 ·refine⟨_,_,rfl,af (fun _=>?_) (fun hb=>by simp at hb)⟩
  exact Or.inr ⟨hh,rfl,hM.pu.trans hp⟩
end
end
@[simp] theorem Mem.ph(m:Mem)(s:Bool)(p:Int)(s':Bool)(p':Int):(m.copy s p s' p').S=m.S:=by unfold Mem.copy;split<;>rfl
namespace DB
def bo(d:DB)(n:Int):Int:=if d.has n then 0 else 1
def bz(d:DB)(n:Int):Int:=if(d.entry n).typ=0 then 0 else 2
def fZ(d:DB)(n:Int):Int:=if n<(d.mem.I:Int)then 0 else 17
def aW(d:DB)(s:Int):Int:=if !d.has s then 1 else if(d.at_ s).typ≠1 then 3 else if(d.at_ s).state≠1 then 4 else 0
def jg(w:Int):Int:=if lu w=0 then 0 else 6
def eH(d:DB)(s va:Int):Int:=if d.bK s va=0 then 0 else if d.bK s va=140 then 7 else 21
def cU(d:DB)(s f:Int):Int:=if d.bo s≠0 then d.bo s else if d.bo f≠0 then d.bo f else if s=f then 16 else if d.bz s≠0 then d.bz s else if d.bz f≠0 then d.bz f else if d.aF≥64 then 24 else 0
def bt(d:DB)(s f:Int):DB:=if d.cU s f=0 then(d.aS s f).cp (·.wrs s 11 Dg.new.save)else d
def bS(d:DB)(s p:Int):Int:=if d.aW s≠0 then d.aW s else if d.bo p≠0 then d.bo p else d.bz p
def bg(kk:List Int)(d:DB)(s p b:Int):DB:=if d.bS s p=0 then(d.take p 2 s).cp (fun m=>(m.write true p 0 b).msd kk s 1 b [])else d
def eB(d:DB)(s p i:Int):Int:=if d.aW s≠0 then d.aW s else if d.bo p≠0 then d.bo p else if 256≤i then 16 else if d.bz p≠0 then d.bz p else if d.word (d.tbl s) i=0 then 0 else 7
def bP(kk:List Int)(d:DB)(s p i:Int):DB:=if d.eB s p i=0 then((d.take p 4 s).add s i p).cp (·.msd kk s 2 i [])else d
def fw(d:DB)(s p w n:Int):Int:=if d.aW s≠0 then d.aW s else if d.bo p≠0 then d.bo p else if jg w≠0 then jg w else if d.fZ n≠0 then d.fZ n else if d.bz p≠0 then d.bz p else d.eH s (dt w)
def cX(d:DB)(s p w n:Int):DB:=((d.take p 5 s).cp (·.copy true p false n)).put s (dt w) (Mp.mk true p (paW w) (paX w))
def cB(kk:List Int)(d:DB)(s p w n:Int):DB:=if d.fw s p w n=0 then(d.cX s p w n).cp (fun m=>m.msd kk s 3 w (m.words true p.toNat))else d
def fh(d:DB)(s w n:Int):Int:=if d.aW s≠0 then d.aW s else if jg w≠0 then jg w else if paX w then 6 else if d.fZ n≠0 then d.fZ n else d.eH s (dt w)
def bV(kk:List Int)(d:DB)(s w n:Int):DB:=if d.fh s w n=0 then(d.put s (dt w) (Mp.mk false n (paW w) false)).cp (·.msd kk s 4 w [])else d
end DB
theorem DB.ep {d:DB} {f:Mem→Mem}(h:(f d.mem).S=d.mem.S):(d.cp f).pd=d.pd:=by
 show Pd.mk _ _ _=Pd.mk _ _ _
 rw [show(d.cp f).S=d.S from h];rfl
theorem DB.rO(d:DB):d.pd.on d.mem=d:=rfl
theorem DB.iq {d:DB} {n:Int}(h:¬d.bo n≠0):d.has n=true:=by
 unfold DB.bo at h
 cases hh:d.has n
 ·rw [hh]at h;simp at h
 ·rfl
theorem DB.iG {d:DB} {n:Int}(hn:d.has n=true)(h:¬d.bz n≠0):(d.at_ n).typ=0:=by
 unfold DB.bz DB.entry at h
 rw [if_pos hn]at h
 by_cases h0:(d.at_ n).typ=0
 ·exact h0
 ·rw [if_neg h0]at h;simp at h
theorem DB.jH {d:DB} {s q:Int}(h1:¬d.bo s≠0)(h2:¬d.bo q≠0)(h3:¬s=q)(h4:¬d.bz s≠0)(h5:¬d.bz q≠0):d.aT s q=if d.aF≥64 then 240 else 0:=by
 have a1:=DB.iq h1
 have a2:=DB.iq h2
 unfold DB.aT
 simp [a1,a2,h3,DB.iG a1 h4,DB.iG a2 h5]
theorem gV {w:Int}(h:0≤w∧w<4294967296):0≤dt w∧dt w<4294967296:=by
 unfold dt
 split<;>omega
theorem Mem.qW {m:Mem}(h:m.Wf)(s:Bool)(p:Nat):fi (m.words s p):=by
 intro x hx
 obtain⟨o,_,rfl⟩:=List.mem_map.1 hx
 exact h.1 _ _ _
theorem Mem.sb(m:Mem)(s:Bool)(p:Int)(s':Bool)(p':Int)(b:Bool)(q:Int):(m.copy s p s' p').has b q=m.has b q:=by
 unfold Mem.copy
 split
 ·cases b<;>rfl
 ·rfl
theorem DB.cQ(d:DB)(p t s:Int):(d.take p t s).mem=d.mem:=by unfold DB.take;split<;>rfl
theorem DB.Jq(d:DB)(s va:Int)(M:Mp)(p:Int):(d.put s va M).mem.has true p=d.mem.has true p:=by
 unfold DB.put
 split
 ·exact DB.dP ..
 ·rfl
theorem DB.BK(d:DB)(s p w n:Int):(d.cX s p w n).mem.has true p=d.has p:=by
 rw [DB.cX,DB.Jq]
 show((d.take p 5 s).mem.copy true p false n).has true p=_
 rw [Mem.sb,DB.cQ];rfl
theorem Dg.qC {d:Dg}(h:d.Ok)(i:Nat):(d.svL.getD i (U32.mk 0)).v=d.save.getD i 0:=by rw [Dg.svL_eq h,nN]
theorem Dg.yc {d:Dg}(h:d.Ok) {i:Nat}(hi:i<26):0≤d.save.getD i 0∧d.save.getD i 0<4294967296:=by
 rw [List.getD_eq_getElem?_getD,List.getElem?_eq_getElem (by rw [Dg.ek h];exact hi)]
 exact Dg.rD h _ (List.getElem_mem ..)
theorem Mem.yR {m:Mem} {p i:Int} {l:List U32}(hi:0≤i∧i<26)(h:l=(m.dgW p).take i.toNat):l++ [U32.mk (m.bD true p (i64.wrap (11+i)))]=(m.dgW p).take (i64.wrap (i+1)).toNat:=by
 subst h
 rw [aq (x:=i+1) (by omega),aq (x:=11+i) (by omega),show(i+1).toNat=i.toNat+1 by omega,List.take_add_one,Mem.wG (by omega),show(11+((i.toNat:Nat):Int))=11+i by omega];rfl
namespace Mem
theorem nQ {m:Mem} {s s':Bool} {p o v:Int} {q:Nat}(h:¬(s'=s∧q=p.toNat)):(m.write s p o v).pg s' q=m.pg s' q:=by
 unfold write
 split
 ·funext x;exact if_neg h
 ·rfl
theorem De {m:Mem} {s s' b:Bool} {p p':Int} {q:Nat}(h:¬(b=s∧q=p.toNat)):(m.copy s p s' p').pg b q=m.pg b q:=by
 unfold copy
 split
 ·funext x;exact if_neg h
 ·rfl
theorem Eo {m:Mem} {s s':Bool} {p p':Int}(h:m.has s p=true)(h':m.has s' p'=true):(m.copy s p s' p').pg s p.toNat=m.pg s' p'.toNat:=by
 unfold copy
 rw [if_pos (by simp [h,h'])]
 funext x;exact if_pos ⟨rfl,rfl⟩
theorem wF {m m':Mem} {s:Int}(hS:m'.S=m.S)(h:m.has true s=true→m'.pg true s.toNat=m.pg true s.toNat):m'.dgW s=m.dgW s:=by
 unfold dgW
 refine List.map_congr_left fun i _=>?_
 have hh:m'.has true s=m.has true s:=by unfold has cnt;rw [hS]
 unfold bD
 rw [hh]
 cases hs:m.has true s
 ·rfl
 ·rw [h hs]
theorem G5 {m:Mem} {s p:Int}(hs:m.has true s=true)(hp:0≤p)(h:p≠s):¬(true=true∧s.toNat=p.toNat):=by
 have:=bh hs
 omega
theorem gb {m:Mem} {s p o v:Int}(h:p≠s):(m.write true p o v).dgW s=m.dgW s:=by
 refine wF (bI ..) fun hs=>?_
 by_cases hp:0≤p
 ·exact nQ (G5 hs hp h)
 ·unfold write
  rw [if_neg]
  simp [has];omega
theorem yU {m:Mem} {s p q:Int} {b:Bool}(h:p≠s):(m.copy true p b q).dgW s=m.dgW s:=by
 refine wF (ph ..) fun hs=>?_
 by_cases hp:0≤p
 ·exact De (G5 hs hp h)
 ·unfold copy
  rw [if_neg]
  simp [has];omega
end Mem
namespace DB
theorem kH {d:DB} {s:Int}(h:¬d.aW s≠0):d.has s=true∧(d.at_ s).typ=1∧(d.at_ s).state=1:=by
 unfold aW at h
 cases hs:d.has s
 ·rw [hs]at h;simp at h
 ·by_cases h1:(d.at_ s).typ=1
  ·by_cases h2:(d.at_ s).state=1
   ·exact⟨rfl,h1,h2⟩
   ·simp [hs,h1,h2]at h
  ·simp [hs,h1]at h
theorem Bp {d:DB} {p t o:Int}(h:d.of p t o=true):d.has p=true∧(d.at_ p).typ=t∧(d.at_ p).owner=o:=by
 simpa [of,is,and_assoc]using h
theorem J8 {d:DB} {s i q:Int}(h:d.nb s i q=0):d.dG s=0∧d.of (d.tbl s) 3 s=true:=by
 have h1:d.dG s=0:=by
  by_cases h1:d.dG s=0
  ·exact h1
  ·unfold nb at h;rw [if_pos h1]at h;exact h
 refine⟨h1,?_⟩
 unfold tbl
 rw [if_pos h1]
 unfold dG at h1
 split at h1
 ·omega
 ·split at h1
  ·omega
  ·split at h1
   ·omega
   ·split at h1
    ·assumption
    ·omega
theorem KL {d:DB} {s va:Int} {M:Mp}(h:d.lq s va M=0):d.of (d.plP s va) 4 s=true∧M.err=0∧d.bK s va=0∧d.dN s va=0:=by
 have h1:d.bK s va=0:=by
  by_cases h1:d.bK s va=0
  ·exact h1
  ·unfold lq at h;rw [if_pos h1]at h;exact absurd h h1
 have h2:d.dN s va=0:=by
  by_cases h2:d.dN s va=0
  ·exact h2
  ·unfold bK at h1;rw [if_pos h2]at h1;exact h1
 refine⟨?_,by unfold lq at h;rw [if_neg (by omega)]at h;exact h,h1,h2⟩
 unfold dN at h2
 split at h2
 ·omega
 ·split at h2
  ·omega
  ·split at h2
   ·rename_i h3
    simp only [pF,Bool.and_eq_true]at h3
    exact h3.2
   ·omega
theorem DE {d:DB} {s i q x:Int}(h:(d.at_ x).typ≠3):(d.add s i q).mem.dgW x=d.mem.dgW x:=by
 unfold add
 split
 ·rename_i he
  exact Mem.gb fun e=>h (e▸(Bp (J8 he).2).2.1)
 ·rfl
theorem qL {d:DB} {s va x:Int} {M:Mp}(h:(d.at_ x).typ≠4):(d.put s va M).mem.dgW x=d.mem.dgW x:=by
 unfold put
 split
 ·rename_i he
  exact Mem.gb fun e=>h (e▸(Bp (KL he).1).2.1)
 ·rfl
theorem nC {d:DB} {p t s q:Int}(hq:0≤q)(hs:d.has s=true)(h:q≠p):((d.take p t s).at_ q).typ=(d.at_ q).typ:=by
 unfold take
 split
 ·rename_i he
  have hp:d.has p=true:=by
   cases hp:d.has p
   ·unfold cZ at he;simp [hp]at he
   ·rfl
  have h1:=bh hp
  have h2:=bh hs
  unfold eG more
  rw [dR h2.1 hq,dR h1.1 h2.1,dR h1.1 hq,if_neg h]
  split
  ·rename_i e
   subst e
   rw [if_neg h]
  ·rfl
 ·rfl
theorem D5 {d:DB} {p t s:Int}(hp:0≤p)(hs:d.has s=true)(h:s≠p)(ht:(d.at_ p).typ=0):((d.take p t s).at_ p).typ=0∨((d.take p t s).at_ p).typ=t:=by
 unfold take
 split
 ·right
  have h2:=bh hs
  unfold eG more
  rw [dR h2.1 hp,if_neg (Ne.symm h),dR hp hp,if_pos rfl]
 ·exact .inl ht
theorem BA {d:DB} {s p o v:Int}(h:¬d.aW s≠0)(hp:¬d.bo p≠0)(hu:¬d.bz p≠0):((d.take p 2 s).mem.write true p o v).dgW s=d.mem.dgW s:=by
 have h1:=kH h
 have h2:=iG (iq hp) hu
 rw [cQ,Mem.gb]
 rintro rfl;omega
theorem EB {d:DB} {s p i q:Int}(h:¬d.aW s≠0)(hp:¬d.bo p≠0)(hu:¬d.bz p≠0):((d.take p 4 s).add s i q).mem.dgW s=d.mem.dgW s:=by
 have h1:=kH h
 have h2:=iG (iq hp) hu
 rw [DE,cQ]
 rw [nC (bh h1.1).1 h1.1 (by rintro rfl;omega)];omega
theorem Hj {d:DB} {s p w n:Int}(h:¬d.aW s≠0)(hp:¬d.bo p≠0)(hu:¬d.bz p≠0):(d.cX s p w n).mem.dgW s=d.mem.dgW s:=by
 have h1:=kH h
 have h2:=iG (iq hp) hu
 have h3:s≠p:=by rintro rfl;omega
 rw [cX,qL]
 ·show((d.take p 5 s).mem.copy true p false n).dgW s=_
  rw [Mem.yU h3.symm,cQ]
 ·show((d.take p 5 s).at_ s).typ≠4
  rw [nC (bh h1.1).1 h1.1 h3];omega
theorem EC {d:DB} {s va:Int} {M:Mp}(h:¬d.aW s≠0):(d.put s va M).mem.dgW s=d.mem.dgW s:=by
 have h1:=kH h
 rw [qL];omega
theorem Hl {d:DB} {n:Int}(h0:0≤n)(h:¬d.fZ n≠0):d.mem.has false n=true:=by
 unfold fZ at h
 split at h
 ·exact decide_eq_true (show 0≤n∧n<(d.mem.I:Int)from⟨h0,by assumption⟩)
 ·simp at h
theorem GQ {d:DB} {s va:Int} {M:Mp} {b:Bool} {q:Int}(hq:0≤q)(h:b=true→(d.at_ q).typ≠4):(d.put s va M).mem.pg b q.toNat=d.mem.pg b q.toNat:=by
 unfold put
 split
 ·rename_i he
  have h1:=Bp (KL he).1
  refine Mem.nQ ?_
  rintro⟨rfl,e⟩
  have h2:=bh h1.1
  have:q=d.plP s va:=by omega
  exact h rfl (this▸h1.2.1)
 ·rfl
theorem y9(d:DB)(s p w n q:Int)(b:Bool):(d.cX s p w n).mem.has b q=d.mem.has b q:=by
 unfold cX put
 split
 ·show(Mem.write ((d.take p 5 s).mem.copy true p false n) _ _ _ _).has b q=_
  rw [DB.dP,Mem.sb,cQ]
 ·show((d.take p 5 s).mem.copy true p false n).has b q=_
  rw [Mem.sb,cQ]
theorem wM {d:DB} {s p w n:Int}(h:¬d.aW s≠0)(hp:¬d.bo p≠0)(hu:¬d.bz p≠0)(hn:0≤n)(hi:¬d.fZ n≠0):(d.cX s p w n).mem.words false n.toNat=(d.cX s p w n).mem.words true p.toNat:=by
 have h1:=kH h
 have Oj:=iq hp
 have h2:=iG Oj hu
 have h3:s≠p:=by rintro rfl;omega
 have e1:(d.cX s p w n).mem.pg false n.toNat=d.mem.pg false n.toNat:=by
  rw [cX,GQ hn (fun h=>by cases h)]
  show((d.take p 5 s).mem.copy true p false n).pg false n.toNat=_
  rw [Mem.De (by rintro⟨h,_⟩;cases h),cQ]
 have e2:(d.cX s p w n).mem.pg true p.toNat=d.mem.pg false n.toNat:=by
  rw [cX,GQ (bh Oj).1 (fun _=>?_)]
  ·show((d.take p 5 s).mem.copy true p false n).pg true p.toNat=_
   rw [Mem.Eo (by rw [cQ];exact Oj) (by rw [cQ];exact Hl hn hi),cQ]
  ·show((d.take p 5 s).at_ p).typ≠4
   rcases D5 (t:=5) (bh Oj).1 h1.1 h3 h2 with h | h<;>omega
 unfold Mem.words
 rw [e1,e2]
end DB
section
abbrev svO(r rm:Nat→Nat)(E:Pd)(m:Mem)(rest:List (Res Un)):List (Res Un):= .ob 1 r E:: .ob 0 rm m::rest
section
variable {r r1 rm:Nat→Nat} {s:Sv} {E:Pd} {m:Mem} {rest:List (Res Un)} {X:Nat→Nat→Prop} {w:World}
theorem mi(hs:Sat (U:=Un) (.ob 9 r s::rest) X w):∃(r1 rm:Nat→Nat)(X1:Nat→Nat→Prop),Sat (svO r1 rm s.D.pd s.D.mem rest) X1 w∧aC (svO r1 rm s.D.pd s.D.mem rest) fr0 [(.l 0 1,.p (.obj 1 0 0))]∧(s.pD=r1 0∧s.pM=rm 0∧r1 1=rm 0)∧(∀i,i<2→∀k,X1 i k→X 0 k)∧∀i,X1 (i+2)=X (i+1):=by
 obtain⟨a,L,h1,h2,h3⟩:=(hs.res 0 _ rfl:bJ 9 r s (X 0) w)
 have W4:=h2.pd
 rw [show(gj.M ⟨s.pD,a,L⟩).g=s.pM from h1]at W4
 have sub:∀i,i<2→∀k,(fun i=>match i with | 0=>(fun k=>k=s.pD∨k=a) | 1=>L.X | i+2=>X (i+1):Nat→Nat→Prop) i k→X 0 k:=fun i hi k hk=>by
  match i,hi with
  | 0,_=>exact(h3 k).1 (hk.elim .inl fun h=>.inr (.inl h))
  | 1,_=>exact(h3 k).1 (.inr (.inr hk))
 refine⟨fun i=>if i=0 then s.pD else s.pM,fun _=>s.pM,fun i=>match i with | 0=>(fun k=>k=s.pD∨k=a) | 1=>L.X | i+2=>X (i+1),⟨fun i x hx=>?_,fun i j hi hj OS k hk OO=>?_⟩,r9 ⟨_,_,_,rfl,rfl⟩,⟨rfl,rfl,rfl⟩,sub,fun i=>rfl⟩
 ·match i with
  | 0=>
   simp only [svO,nth,Option.some.injEq]at hx;subst hx
   exact(⟨a,fun k=>Iff.rfl,W4⟩:bJ 1 (fun i=>if i=0 then s.pD else s.pM) s.D.pd (fun k=>k=s.pD∨k=a) w)
  | 1=>
   simp only [svO,nth,Option.some.injEq]at hx;subst hx
   exact(⟨L,h1.symm,fun k=>Iff.rfl,h2.mem⟩:bJ 0 (fun _=>s.pM) s.D.mem L.X w)
  | i+2=>exact hs.res (i+1) x hx
 ·have e:∀i,i+2<(svO (fun i=>if i=0 then s.pD else s.pM) (fun _=>s.pM) s.D.pd s.D.mem rest).length→i+1<(Res.ob (U:=Un) 9 r s::rest).length:=fun i h=>by simp at h ⊢;omega
  have d01:∀k,(k=s.pD∨k=a)→¬L.X k:=fun k hk hL=>by
   rcases hk with rfl | rfl
   ·exact h2.dis.2.1 hL
   ·exact h2.dis.2.2 hL
  match i,j,hi,hj,OS with
  | 0,1,_,_,_=>exact d01 k hk OO
  | 1,0,_,_,_=>exact d01 k OO hk
  | 0,j+2,_,hj,_=>exact hs.dis 0 (j+1) (by simp) (e j hj) (by omega) k (sub 0 (by omega) k hk) OO
  | 1,j+2,_,hj,_=>exact hs.dis 0 (j+1) (by simp) (e j hj) (by omega) k (sub 1 (by omega) k hk) OO
  | i+2,0,hi,_,_=>exact hs.dis 0 (i+1) (by simp) (e i hi) (by omega) k (sub 0 (by omega) k OO) hk
  | i+2,1,hi,_,_=>exact hs.dis 0 (i+1) (by simp) (e i hi) (by omega) k (sub 1 (by omega) k OO) hk
  | i+2,j+2,hi,hj,h=>exact hs.dis (i+1) (j+1) (e i hi) (e j hj) (by omega) k hk OO
  | 0,0,_,_,h=>exact absurd rfl h
  | 1,1,_,_,h=>exact absurd rfl h
theorem GA(h0:RS (U:=Un) (X 0) w (.ob 1 r1 E))(h1:RS (U:=Un) (X 1) w (.ob 0 rm m))(hd:∀k,X 0 k→¬X 1 k)(l:r1 1=rm 0)(hn:E.n=m.S):bJ 9 r ⟨E.on m,r1 0,rm 0⟩ (fun k=>X 0 k∨X 1 k) w:=by
 obtain⟨a,QT,hp⟩:=(h0:bJ 1 r1 E (X 0) w)
 obtain⟨L,hg,Rm,hm⟩:=(h1:bJ 0 rm m (X 1) w)
 rw [l,hg]at hp
 refine⟨a,L,hg.symm,hp.db hm hn ⟨fun hx=>hd _ ((QT _).1 (.inl rfl)) ((Rm _).1 hx),fun hx=>hd _ ((QT _).1 (.inr rfl)) ((Rm _).1 hx)⟩,fun k=>⟨fun hk=>?_,fun hk=>?_⟩⟩
 ·rcases hk with hk | hk | hk
  ·exact .inl ((QT k).1 (.inl hk))
  ·exact .inl ((QT k).1 (.inr hk))
  ·exact .inr ((Rm k).1 hk)
 ·rcases hk with hk | hk
  ·exact((QT k).2 hk).elim .inl fun h=>.inr (.inl h)
  ·exact .inr (.inr ((Rm k).2 hk))
end
section
variable {P:Program} {f:Nat} {args:Array Value} {r:Nat→Nat} {s:Sv} {rest:List (Res Un)} {X:Nat→Nat→Prop} {w:World} {Q:Ou Un→Prop} {v:Value} {k k1:Option Kn}
theorem wI {X:Nat→Nat→Prop} {w w':World}(h:Ch (fun k=>∃j,j∈([]:List Nat)∧X j k) w w'):Pu w w':=h.mono fun k hk=>by obtain⟨j,hj,_⟩:=hk;cases hj
theorem svP(O4:g6 k1 v= .returned v)(hs:Sat (U:=Un) (.ob 9 r s::rest) X w)(hc:∀(r1 rm:Nat→Nat)(X1:Nat→Nat→Prop),Sat (svO r1 rm s.D.pd s.D.mem rest) X1 w→aC (svO r1 rm s.D.pd s.D.mem rest) fr0 [(.l 0 1,.p (.obj 1 0 0))]→s.pD=r1 0∧s.pM=rm 0→Calls P f args w (aM (svO r1 rm s.D.pd s.D.mem rest) [] X1 w (fun o=>o=⟨v,k1,[],[],[]⟩)))
 (hQ:Q ⟨v,k,[],[],[]⟩)(hk:KnO (U:=Un) (.ob 9 r s::rest) v k):Calls P f args w (aM (U:=Un) (.ob 9 r s::rest) [] X w Q):=by
 obtain⟨r1,rm,X1,O2,Qi,e,_,_⟩:=mi hs
 refine(hc r1 rm X1 O2 Qi ⟨e.1,e.2.1⟩).mono ?_
 rintro e w' ⟨out,rs',X',rfl,rfl,Oo,hp⟩
 rw [O4]
 exact aM.pu hs (wI hp.ch) hQ hk
theorem svD(O4:g6 k1 v= .returned v)(D':DB)(M:List Nat)(us:List (Upd Un))(hM:∀j,j∈M→j<2)(hs:Sat (U:=Un) (.ob 9 r s::rest) X w)(hn:D'.pd.n=D'.mem.S)(Oo:∀r1 rm,bx (svO r1 rm s.D.pd s.D.mem rest) M us=some (svO r1 rm D'.pd D'.mem rest))
 (hc:∀(r1 rm:Nat→Nat)(X1:Nat→Nat→Prop),Sat (svO r1 rm s.D.pd s.D.mem rest) X1 w→aC (svO r1 rm s.D.pd s.D.mem rest) fr0 [(.l 0 1,.p (.obj 1 0 0))]→s.pD=r1 0∧s.pM=rm 0→Calls P f args w (aM (svO r1 rm s.D.pd s.D.mem rest) M X1 w (fun o=>o=⟨v,k1,us,[],[]⟩)))
 (hQ:Q ⟨v,k,[.ob 9 ⟨D',s.pD,s.pM⟩],[],[]⟩)(hk:KnO (U:=Un) (.ob 9 r ⟨D',s.pD,s.pM⟩::rest) v k):Calls P f args w (aM (U:=Un) (.ob 9 r s::rest) [0] X w Q):=by
 obtain⟨r1,rm,X1,O2,Qi,⟨e1,e2,e3⟩,UH,_⟩:=mi hs
 refine(hc r1 rm X1 O2 Qi ⟨e1,e2⟩).mono ?_
 rintro e w' ⟨out,rs',X',rfl,rfl,ha,hp⟩
 rw [Oo]at ha
 injection ha with ha
 subst ha
 have hsat:Sat (svO r1 rm D'.pd D'.mem rest) X' w':=by have:=hp.sat;rwa [List.append_nil]at this
 have hz:∀i,i<2→∀k,X' i k→X 0 k∨w.heap.size≤k:=fun i hi k hk=>by
  by_cases hm:i∈M
  ·exact(hp.grow i hm k hk).imp (UH i hi k) id
  ·have:=hp.same i (show i<rest.length+1+1 by omega) hm
   exact .inl (UH i hi k (this▸hk))
 have hu:=GA (r:=r) (hsat.res 0 _ rfl) (hsat.res 1 _ rfl) (hsat.dis 0 1 (by simp) (by simp) (by omega)) e3 hn
 rw [← e1,← e2]at hu
 rw [O4]
 exact aM.first (Z:=fun k=>X' 0 k∨X' 1 k) hs (hp.ch.mono fun k ⟨j,hj,h⟩=>UH j (hM j hj) k h) hu (fun k hk=>hk.elim (hz 0 (by omega) k) (hz 1 (by omega) k)) hQ hk
theorem svL {t:Nat} {T:TypeId} {l:List (Un.el t)}(hs:Sat (U:=Un) [.ob 9 r s] X w)(hc:∀(r1 rm:Nat→Nat)(X1:Nat→Nat→Prop),Sat (svO r1 rm s.D.pd s.D.mem []) X1 w→aC (svO r1 rm s.D.pd s.D.mem []) fr0 [(.l 0 1,.p (.obj 1 0 0))]→s.pD=r1 0∧s.pM=rm 0→Calls P f args w (aM (svO r1 rm s.D.pd s.D.mem []) [] X1 w (fun o=>∃A c,o=⟨.slice A l.length c,some (.p (.sl 2 0)),[],[.lst t true T A c l],[]⟩)))
 (hQ:∀A c,Q ⟨.slice A l.length c,some (.p (.sl 1 0)),[],[.lst t true T A c l],[]⟩):Calls P f args w (aM (U:=Un) [.ob 9 r s] [] X w Q):=by
 obtain⟨r1,rm,X1,O2,Qi,e,_,_⟩:=mi hs
 refine(hc r1 rm X1 O2 Qi ⟨e.1,e.2.1⟩).mono ?_
 rintro e w' ⟨out,rs',X',rfl,⟨A,c,rfl⟩,Oo,hp⟩
 have UU:svO r1 rm s.D.pd s.D.mem []=rs':=by simpa [bx]using Oo
 subst UU
 exact aM.more hs (wI hp.ch) (hp.sat.res 2 _ rfl) (hp.new 2 (by simp) (by simp)) (hQ A c) rfl
theorem svM(O4:g6 k1 v= .returned v)(hs:Sat (U:=Un) [.ob 9 r s] X w)(hc:∀(rm:Nat→Nat)(X1:Nat→Nat→Prop),Sat (U:=Un) [.ob 0 rm s.D.mem] X1 w→s.pM=rm 0→Calls P f args w (aM (U:=Un) [.ob 0 rm s.D.mem] [] X1 w (fun o=>o=⟨v,k1,[],[],[]⟩)))
 (hQ:Q ⟨v,k,[],[],[]⟩)(hk:KnO (U:=Un) [.ob 9 r s] v k):Calls P f args w (aM (U:=Un) [.ob 9 r s] [] X w Q):=by
 obtain⟨r1,rm,X1,O2,Qi,e,_,_⟩:=mi hs
 refine(hc rm (fun _=>X1 1) ⟨fun i x hx=>?_,fun i j hi hj OS=>?_⟩ e.2.1).mono ?_
 ·match i with
  | 0=>simp only [nth,Option.some.injEq]at hx;subst hx;exact O2.res 1 _ rfl
  | i+1=>simp [nth]at hx
 ·simp at hi hj;omega
 rintro e w' ⟨out,rs',X',rfl,rfl,Oo,hp⟩
 rw [O4]
 exact aM.pu hs (wI hp.ch) hQ hk
theorem svN {rN rM:Nat→Nat} {E:Pd} {m:Mem} {kc:List (Key×Kn)}(O4:g6 k1 v= .returned v)(hs:Sat (U:=Un) [.ob 9 r s] X w)(hn:E.n=m.S) {e:Ending} {w':World} {r1 rm:Nat→Nat} {X1 X':Nat→Nat→Prop}(hp:mL (svO r1 rm s.D.pd s.D.mem []) [] X1 w ⟨v,k1,[],[.ob 1 rN E,.ob 0 rM m],kc⟩ w' (svO r1 rm s.D.pd s.D.mem []) X')(hl:rN 1=rM 0)(he:e=g6 k1 v)
 (hQ:Q ⟨v,k,[.ob 9 ⟨E.on m,rN 0,rM 0⟩],[],[]⟩)(hk:KnO (U:=Un) [.ob 9 r ⟨E.on m,rN 0,rM 0⟩] v k):aM (U:=Un) [.ob 9 r s] [0] X w Q e w':=by
 have hu:=GA (r:=r) (X:=fun i=>X' (i+2)) (hp.sat.res 2 _ rfl) (hp.sat.res 3 _ rfl) (hp.sat.dis 2 3 (show 2<4 by decide) (show 3<4 by decide) (by omega)) hl hn
 rw [he,O4]
 exact aM.first (Z:=fun k=>X' 2 k∨X' 3 k) hs ((wI hp.ch).mono fun k hk=>hk.elim) hu (fun k hk=>.inr (hk.elim (hp.new 2 (by simp) (by simp) k) (hp.new 3 (by simp) (by simp) k))) hQ hk
theorem K9 {b:Res Un} {rP rN rQ rM:Nat→Nat} {E F:Pd} {m m2:Mem} {k':Option Kn} {kc kc':List (Key×Kn)} {w':World} {X':Nat→Nat→Prop} {e:Ending}
 (hp:mL (U:=Un) [] [] X w ⟨v,k,[],[b,.ob 1 rP E,.ob 0 rN m,.ob 3 rQ F,.ob 2 rM m2],kc⟩ w' [] X')(l1:rP 1=rN 0)(hn:E.n=m.S)(he:e=g6 k' v)
 (hQ:Q ⟨v,k',[],[b,.ob 9 (fun _=>0) ⟨E.on m,rP 0,rN 0⟩,.ob 3 rQ F,.ob 2 rM m2],kc'⟩)(hk:KnO (U:=Un) [b,.ob 9 (fun _=>0) ⟨E.on m,rP 0,rN 0⟩,.ob 3 rQ F,.ob 2 rM m2] v k')
 (S7:∀key k,(key,k)∈kc'→eE (U:=Un) [b,.ob 9 (fun _=>0) ⟨E.on m,rP 0,rN 0⟩,.ob 3 rQ F,.ob 2 rM m2] fr0 key k):aM (U:=Un) [] [] X w Q e w':=by
 have hu:=GA (r:=fun _=>0) (X:=fun i=>X' (i+1)) (hp.sat.res 1 _ rfl) (hp.sat.res 2 _ rfl) (hp.sat.dis 1 2 (show 1<5 by decide) (show 2<5 by decide) (by omega)) l1 hn
 have d:∀i j,i<5→j<5→i≠j→∀k,X' i k→¬X' j k:=hp.sat.dis
 refine⟨_,[],fun i=>match i with | 0=>X' 0 | 1=>(fun k=>X' 1 k∨X' 2 k) | 2=>X' 3 | _=>X' 4,he,hQ,rfl,⟨⟨fun i r hr=>?_,fun i j hi hj OS k h1 h2=>?_⟩,hp.ch,fun i hi=>absurd hi (by simp),fun i hi=>absurd hi (by simp),fun i _ hi k hk=>?_,.inr hk,fun key k hk _=>S7 key k hk⟩⟩
 ·match i,hr with
  | 0,hr=>simp only [List.nil_append,nth,Option.some.injEq]at hr;subst hr;exact hp.sat.res 0 _ rfl
  | 1,hr=>simp only [List.nil_append,nth,Option.some.injEq]at hr;subst hr;exact hu
  | 2,hr=>simp only [List.nil_append,nth,Option.some.injEq]at hr;subst hr;exact hp.sat.res 3 _ rfl
  | 3,hr=>simp only [List.nil_append,nth,Option.some.injEq]at hr;subst hr;exact hp.sat.res 4 _ rfl
  | i+4,hr=>simp [nth]at hr
 ·have hi:i<4:=hi
  have hj:j<4:=hj
  match i,j,hi,hj,OS with
  | 0,1,_,_,_=>exact h2.elim (d 0 1 (by omega) (by omega) (by omega) k h1) (d 0 2 (by omega) (by omega) (by omega) k h1)
  | 0,2,_,_,_=>exact d 0 3 (by omega) (by omega) (by omega) k h1 h2
  | 0,3,_,_,_=>exact d 0 4 (by omega) (by omega) (by omega) k h1 h2
  | 1,0,_,_,_=>exact h1.elim (d 0 1 (by omega) (by omega) (by omega) k h2) (d 0 2 (by omega) (by omega) (by omega) k h2)
  | 1,2,_,_,_=>exact h1.elim (fun h=>d 1 3 (by omega) (by omega) (by omega) k h h2) (fun h=>d 2 3 (by omega) (by omega) (by omega) k h h2)
  | 1,3,_,_,_=>exact h1.elim (fun h=>d 1 4 (by omega) (by omega) (by omega) k h h2) (fun h=>d 2 4 (by omega) (by omega) (by omega) k h h2)
  | 2,0,_,_,_=>exact d 3 0 (by omega) (by omega) (by omega) k h1 h2
  | 2,1,_,_,_=>exact h2.elim (fun h=>d 1 3 (by omega) (by omega) (by omega) k h h1) (fun h=>d 2 3 (by omega) (by omega) (by omega) k h h1)
  | 2,3,_,_,_=>exact d 3 4 (by omega) (by omega) (by omega) k h1 h2
  | 3,0,_,_,_=>exact d 4 0 (by omega) (by omega) (by omega) k h1 h2
  | 3,1,_,_,_=>exact h2.elim (fun h=>d 1 4 (by omega) (by omega) (by omega) k h h1) (fun h=>d 2 4 (by omega) (by omega) (by omega) k h h1)
  | 3,2,_,_,_=>exact d 4 3 (by omega) (by omega) (by omega) k h1 h2
  | 0,0,_,_,h | 1,1,_,_,h | 2,2,_,_,h | 3,3,_,_,h=>exact absurd rfl h
 ·have hi:i<4:=by simpa using hi
  match i,hi,hk with
  | 0,_,hk=>exact hp.new 0 (by simp) (by simp) k hk
  | 1,_,hk=>exact hk.elim (hp.new 1 (by simp) (by simp) k) (hp.new 2 (by simp) (by simp) k)
  | 2,_,hk=>exact hp.new 3 (by simp) (by simp) k hk
  | 3,_,hk=>exact hp.new 4 (by simp) (by simp) k hk
end
end
def LOp.Ok(o:LOp):Prop:=(0≤o.a∧o.a<4294967296)∧(0≤o.b∧o.b<4294967296)∧(0≤o.c∧o.c<4294967296)∧(0≤o.d∧o.d<4294967296)
def okM(s i:Int):Bool:=decide ((1≤s∧s≤64)∧(1≤i∧i≤64))
theorem qE {s i:Int}(h:okM s i=true):(1≤s∧s≤64)∧(1≤i∧i≤64):=of_decide_eq_true h
theorem Dp {s i:Int}(h:okM s i=false):s<1∨s>64∨i<1∨i>64:=by
 have:=of_decide_eq_false h;omega
theorem JE {s i:Int} {w:World}(h:okM s i=false):Calls prog 27 #[.int .i64 s,.int .i64 i] w fun e w'=>e= .returned (.tuple #[.pointer none,.int .i64 1])∧w'=w:=by
 have h:=Dp h
 refine(tH (R:=fun v w'=>v= .tuple #[.pointer none,.int .i64 1]∧w'=w) s i ⟨fun b w'=>w=w'∧b=true,?_,?_⟩).mono ?_
 ·refine af (fun hb=>⟨rfl,rfl⟩) (fun h1=>af (fun hb=>⟨rfl,rfl⟩) (fun h2=>af (fun hb=>⟨rfl,rfl⟩) (fun h3=>⟨rfl,?_⟩)))
  simp at h1 h2 h3 ⊢;omega
 ·rintro _ x _ ⟨rfl,rfl⟩
  exact aU ⟨rfl,rfl⟩
 ·rintro e w' ⟨v,rfl,rfl,rfl⟩;exact⟨rfl,rfl⟩
theorem El {s i:Int} {w:World}(h:okM s i=false):Calls prog 28 #[.int .i64 s,.int .i64 i] w fun e w'=>e= .returned (.tuple #[.pointer none,.int .i64 1])∧w'=w:=by
 have h:=Dp h
 refine(ot (R:=fun v w'=>v= .tuple #[.pointer none,.int .i64 1]∧w'=w) s i ⟨fun b w'=>w=w'∧b=true,?_,?_⟩).mono ?_
 ·refine af (fun hb=>⟨rfl,rfl⟩) (fun h1=>af (fun hb=>⟨rfl,rfl⟩) (fun h2=>af (fun hb=>⟨rfl,rfl⟩) (fun h3=>⟨rfl,?_⟩)))
  simp at h1 h2 h3 ⊢;omega
 ·rintro _ x _ ⟨rfl,rfl⟩
  exact aU ⟨rfl,rfl⟩
 ·rintro e w' ⟨v,rfl,rfl,rfl⟩;exact⟨rfl,rfl⟩
namespace DB
def cO(d:DB)(o:LOp):Int:=if o.k=1 then d.cU o.a o.b else if o.k=2 then d.bS o.a o.b else if o.k=3 then d.eB o.a o.b o.c else if o.k=4 then d.fw o.a o.b o.c o.d else d.fh o.a o.b o.c
def call(kk:List Int)(d:DB)(o:LOp):DB:=if o.k=1 then d.bt o.a o.b else if o.k=2 then d.bg kk o.a o.b o.c else if o.k=3 then d.bP kk o.a o.b o.c else if o.k=4 then d.cB kk o.a o.b o.c o.d else d.bV kk o.a o.b o.c
def lB(d:DB)(p:Int):Bool:=d.has p && (d.has (d.at_ p).owner && ((d.at_ p).typ !=0 && ((d.at_ (d.at_ p).owner).state==3 && ((d.at_ p).typ !=1 || (d.at_ p).refs==0))))
def k6(d:DB)(p:Int):Bool:=d.has p && ((d.at_ p).typ==1 && (d.at_ p).state==1)
def beside(d:DB)(o:LOp):DB:=
 if o.k=6 then d.cp (·.write false o.a (o.b % 1024) o.c)
 else if o.k=7 then(if d.k6 o.a then(d.cp (·.wrs o.a 11 (List.replicate 26 0))).setState o.a 2 else d)
 else if o.k=8 then d.setState o.a 3
 else if o.k=9 then(if d.lB o.a then d.fu o.a else d)
 else d
end DB
abbrev Sm(x:Int):Prop:=0≤x∧x≤24
namespace DB
theorem Mo(d:DB)(n:Int):Sm (d.bo n):=by unfold bo;split<;>decide
theorem Mf(d:DB)(n:Int):Sm (d.bz n):=by unfold bz;split<;>decide
theorem MD(d:DB)(n:Int):Sm (d.fZ n):=by unfold fZ;split<;>decide
theorem MW(d:DB)(n:Int):Sm (d.aW n):=by unfold aW;(repeat' split)<;>decide
theorem Mw(n:Int):Sm (jg n):=by unfold jg;split<;>decide
theorem Mg(d:DB)(s va:Int):Sm (d.eH s va):=by unfold eH;(repeat' split)<;>decide
theorem JW(d:DB)(o:LOp):Sm (d.cO o):=by
 unfold cO cU bS eB fw fh
 (repeat' split)<;>first | decide | exact Mo .. | exact Mf .. | exact MD .. | exact MW .. | exact Mw .. | exact Mg ..
end DB
theorem yg {m:Mem} {a i:Int}(hi:0≤i∧i<26):m.wrs a 11 ((List.replicate 26 (0:Int)).take (i64.wrap (i+1)).toNat)=(m.wrs a 11 ((List.replicate 26 (0:Int)).take i.toNat)).write true a (i64.wrap (11+i)) 0:=by
 rw [Mem.nt (by rfl) hi]
 congr 1
 rw [List.getD_eq_getElem?_getD,List.getElem?_replicate]
 split<;>rfl
theorem DB.Gt {D:DB} {j:Nat} {x:Int}(h:D.words[j]? =some x):DB.wd (D.words.map U32.mk) j=x:=by
 unfold DB.wd
 rw [nN,List.getD_eq_getElem?_getD,h];rfl
theorem DB.Mc(D:DB):DB.wd (D.words.map U32.mk) 0=D.aF:=DB.Gt rfl
theorem DB.Mb {D:DB} {p:Nat}(hp:p<D.S):DB.wd (D.words.map U32.mk) (1+2*p)=(D.ent p).w0∧DB.wd (D.words.map U32.mk) (2+2*p)=(D.ent p).w1:=by
 have h1:=mf (fun p=>(D.ent p).w0) (fun p=>(D.ent p).w1) D.S (2*p) (by omega)
 have h2:=mf (fun p=>(D.ent p).w0) (fun p=>(D.ent p).w1) D.S (2*p+1) (by omega)
 rw [if_pos (by omega),show 2*p / 2=p by omega]at h1
 rw [if_neg (by omega),show(2*p+1) / 2=p by omega]at h2
 refine⟨DB.Gt ?_,DB.Gt ?_⟩
 ·rw [D.words_eq,show 1+2*p=2*p+1 by omega,List.getElem?_cons_succ];exact h1
 ·rw [D.words_eq,show 2+2*p=(2*p+1)+1 by omega,List.getElem?_cons_succ];exact h2
theorem DB.DY {D:DB}(h:D.Ok):fi (D.words.map U32.mk):=by
 intro x hx
 obtain⟨y,hy,rfl⟩:=List.mem_map.1 hx
 have hb:=h.aF
 simp only [DB.words,List.mem_cons,List.mem_flatMap,List.mem_range,List.not_mem_nil,or_false]at hy
 show 0≤y∧y<4294967296
 rcases hy with rfl | ⟨p,hp,rfl | rfl⟩
 ·omega
 ·exact Ent.xS (h.ent p hp).1
 ·exact Ent.xR (h.ent p hp).1
theorem DB.Bu {D:DB}(h:D.Ok):DB.ay D.mem (D.words.map U32.mk)=0∧(DB.load D.mem (D.words.map U32.mk)).aF=D.aF∧∀p,p<D.S→(DB.load D.mem (D.words.map U32.mk)).ent p=D.ent p:=by
 have he:∀p,p<D.S→Ent.dec (DB.wd (D.words.map U32.mk) (1+2*p)) (DB.wd (D.words.map U32.mk) (2+2*p))=D.ent p∧Ent.fm (DB.wd (D.words.map U32.mk) (1+2*p)) (DB.wd (D.words.map U32.mk) (2+2*p))=0:=fun p hp=>by
  rw [(DB.Mb hp).1,(DB.Mb hp).2]
  exact Ent.wH (h.ent p hp).1
 have hb:=h.aF
 refine⟨DB.pL (by rw [List.length_map,DB.cS];rfl) (by rw [DB.Mc];omega) fun p hp=>?_,DB.Mc D,fun p hp=>(he p hp).1⟩
 unfold DB.k7
 rw [(he p hp).1,(he p hp).2]
 have:=(h.ent p hp).2
 simp only [Bool.and_eq_true,decide_eq_true_eq]
 exact⟨rfl,this⟩
theorem PdP.congr {w:World} {g a mg:Nat} {E F:Pd}(h:PdP w g a mg E)(hn:F.n=E.n)(hb:F.aF=E.aF)(he:∀p,p<E.n→F.ent p=E.ent p):PdP w g a mg F:=by
 refine⟨?_,?_,⟨fun p hp=>?_,by rw [hb];exact h.ok.aF,by rw [hn];exact h.ok.er⟩,h.ne⟩
 ·have:=h.hd;rw [← hn,← hb]at this;exact this
 ·obtain⟨T,cs,h1,h2,h3⟩:=h.ws
  refine⟨T,cs,h1,by rw [hn];exact h2,fun p hp=>?_⟩
  rw [hn]at hp
  rw [he p hp];exact h3 p hp
 ·rw [hn]at hp
  rw [he p hp,hn];exact h.ok.ent p hp
end Go.Proofs.YtinhphjfnedhgaaGreatDoor
namespace Go.Proofs.YtinhphjfnedhgaaGreatDoor
open Go.Proofs.Tryz (prog)
open Go Go.RowKit V Go.ChangeShapes Go.WideShapes Go.ChangeAt
open Go.IntKind (i64 u32 u64)
open Enc (enc)
section
theorem wf_u32 {x:Int}(h:(Lit.int .u32 x).wf=true):0≤x∧x<4294967296:=by
 have:0≤x∧x≤4294967295:=by simpa [Lit.wf,IntKind.min,IntKind.max,IntKind.signed,IntKind.bits]using h
 omega
section
variable {P:Program} {W:World} {H:Type} {enc:TypeId×Value→H}
theorem GY {t:TypeId} {f0 f1:Field} {v:Value} {d:DataW H} {p:List MemPlace}(ht:P.underlying t=some (.struct #[f0,f1]))(o:f0.offset=0∧f1.offset=1)(c:P.cellsOf f0.type=1∧P.cellsOf f1.type=1)(u0:P.underlying f0.type=some (.int .i64))(u1:P.underlying f1.type=some (.int .i64))(ct:P.cellsOf t=2)
 {base:Nat}(hv:Value.okWide P W .any base t v)(h:DataW.Trod enc P W 0 (fun _=>true) true t v d p):∃a b:Int,v= .agg #[.int .i64 a,.int .i64 b]:=by
 obtain⟨⟨cs⟩,rfl,hc⟩:=okWide_struct ht hv
 obtain⟨fuel,hf⟩:=h
 obtain⟨y0,y1,n,_,_,g0,g1⟩:=trod_struct2 ht hf
 rw [ct]at hc
 match cs,hc with
 | [v0,v1],_=>
  obtain⟨o0,o1⟩:=o
  obtain⟨c0,c1⟩:=c
  rw [o0,c0]at g0
  rw [o1,c1]at g1
  obtain⟨n0,e0,_,_⟩:=DataW.trod_int u0 g0
  obtain⟨n1,e1,_,_⟩:=DataW.trod_int u1 g1
  simp [Value.cells]at e0 e1
  subst e0 e1
  exact⟨n0,n1,rfl⟩
theorem GZ {t e:TypeId} {f0 f1 f2 f3 f4:Field} {v:Value} {d:DataW H} {p:List MemPlace}(ht:P.underlying t=some (.slice e))(he:P.underlying e=some (.struct #[f0,f1,f2,f3,f4]))
 (ce:P.cellsOf e=5)(o:f0.offset=0∧f1.offset=1∧f2.offset=2∧f3.offset=3∧f4.offset=4)(c:P.cellsOf f0.type=1∧P.cellsOf f1.type=1∧P.cellsOf f2.type=1∧P.cellsOf f3.type=1∧P.cellsOf f4.type=1)
 (u0:P.underlying f0.type=some (.int .i64))(u1:P.underlying f1.type=some (.int .u32))(u2:P.underlying f2.type=some (.int .u32))(u3:P.underlying f3.type=some (.int .u32))(u4:P.underlying f4.type=some (.int .u32))
 {base:Nat}(hv:Value.okWide P W .any base t v)(h:DataW.Trod enc P W 0 (fun _=>true) true t v d p):
 ∃(A:Option Addr)(n c:Nat)(l:List LOp),v= .slice A n c∧Rd W (fun k=>0<n∧∃p,A=some p∧k=p.block) A n c l∧(∀x∈l,x.Ok)∧(∀p,A=some p→0<n→∃x:Int,W.cell? (p.add 0)=some (.int .i64 x))∧
  (c=0∨∃el sp,d= .slice el sp∧el.length+sp.length=c):=by
 obtain⟨a0,len,cap,rfl⟩:=okWide_slice ht hv
 obtain⟨fuel,hf⟩:=h
 rcases Go.Deep.open_slice ht hf with⟨O0,hx⟩ | ⟨a,len',cap',m,n,D,Pl,O0,_,hl,hm,hmm,hx,Pn⟩
 ·simp [Value.cells]at O0
  obtain⟨rfl,rfl,rfl⟩:=O0
  exact⟨none,0,0,[],rfl,⟨rfl,Nat.le_refl _,fun k hk=>by omega,fun i x hi=>by simp at hi⟩,by simp,fun p hp=>by simp at hp,.inl rfl⟩
 ·simp [Value.cells]at O0
  obtain⟨rfl,rfl,rfl⟩:=O0
  simp only [if_true]at hmm
  subst hmm
  simp only [Prod.mk.injEq]at hx
  have each:∀i,i<m→∃x:LOp,(∀j,j<5→W.cell? ((a.add (i*5)).add j)=(V.Enc.enc x:List Value)[j]?)∧x.Ok:=by
   intro i hi
   obtain⟨cs',h1,h2⟩:=Pn i hi
   rw [ce]at h1
   obtain⟨_,hlen,hc⟩:=World.cells?_some h1
   obtain⟨xs,k,hk,SJ,_,hxl,hf⟩:=DataW.trod_struct he h2
   obtain⟨o0,o1,o2,o3,o4⟩:=o
   obtain⟨c0,c1,c2,c3,c4⟩:=c
   match xs,hxl,cs',hlen with
   | [y0,y1,y2,y3,y4],_,[v0,v1,v2,v3,v4],_=>
    have g0:=hf 0 f0 rfl
    have g1:=hf 1 f1 rfl
    have g2:=hf 2 f2 rfl
    have g3:=hf 3 f3 rfl
    have g4:=hf 4 f4 rfl
    simp [o0,o1,o2,o3,o4,c0,c1,c2,c3,c4]at g0 g1 g2 g3 g4
    obtain⟨n0,e0,_,_⟩:=DataW.trod_int u0 g0
    obtain⟨n1,e1,_,w1⟩:=DataW.trod_int u1 g1
    obtain⟨n2,e2,_,w2⟩:=DataW.trod_int u2 g2
    obtain⟨n3,e3,_,w3⟩:=DataW.trod_int u3 g3
    obtain⟨n4,e4,_,w4⟩:=DataW.trod_int u4 g4
    simp at e0 e1 e2 e3 e4
    subst e0 e1 e2 e3 e4
    exact⟨⟨n0,n1,n2,n3,n4⟩,fun j hj=>hc j hj,wf_u32 w1,wf_u32 w2,wf_u32 w3,wf_u32 w4⟩
  have:Inhabited LOp:=⟨⟨0,0,0,0,0⟩⟩
  obtain⟨q,hq⟩:=Go.Deep.choose_lt each
  have hb:∀i,i<m→a.block<W.heap.size:=fun i hi=>by
   have h1:=(hq i hi).1 0 (by omega)
   have h2:W.cell? ((a.add (i*5)).add 0)=some (.int .i64 (q i).k):=h1
   have:=World.block_lt_of_cell? W _ h2
   rwa [V.block_add,V.block_add]at this
  refine⟨some a,len,m,(List.range len).map q,rfl,⟨by simp,hl,fun k ⟨h1,p,hp,hk⟩=>?_,fun j x hj=>?_⟩,fun x hx=>?_,fun p hp h0=>?_,.inr ⟨_,_,hx.1,by simp;omega⟩⟩
  ·injection hp with hp
   subst hp;subst hk
   exact hb 0 (by omega)
  ·have VH:j<len:=by
    rcases Nat.lt_or_ge j len with h | h
    ·exact h
    ·rw [List.getElem?_eq_none (by simpa using h)]at hj;cases hj
   rw [List.getElem?_map,List.getElem?_range VH]at hj
   injection hj with hj
   subst hj
   exact⟨a,rfl,⟨by omega,a,rfl,rfl⟩,fun i hi=>(hq j (by omega)).1 i hi⟩
  ·obtain⟨i,hi,rfl⟩:=List.mem_map.1 hx
   have:=List.mem_range.1 hi
   exact(hq i (by omega)).2
  ·injection hp with hp
   subst hp
   have h1:=(hq 0 (by omega)).1 0 (by omega)
   rw [Nat.zero_mul]at h1
   have e:(a.add 0).add 0=a.add 0:=by rw [add_add]
   rw [e]at h1
   exact⟨_,h1⟩
theorem uZ {n:Nat} {e:TypeId} {k:IntKind} {t:TypeId} {fuel base:Nat} {sp:Nat→Bool} {held:Bool} {cs:List Value} {l:List Int} {q:List MemPlace}(ht:P.underlying t=some (.array n e))(ue:P.underlying e=some (.int k))(ce:P.cellsOf e=1)
 (h:DataW.trod enc P W base sp held fuel t cs=some (.agg (l.map fun x=>.lit (.int k x)),q))(hct:P.cellsOf t=n):cs=l.map (Value.int k):=by
 obtain⟨xs,m,rfl,hx,hl,hxl,hel⟩:=DataW.trod_array ht h
 have hc:cs.length=n:=hl.trans hct
 simp only [Prod.mk.injEq,DataW.agg.injEq]at hx
 have hn:l.length=n:=by have:=congrArg List.length hx.1;simpa [hxl]using this
 refine List.ext_getElem? fun i=>?_
 by_cases hi:i<n
 ·have h1:=hel i hi
  rw [ce,Nat.mul_one]at h1
  have X5:i<cs.length:=by omega
  rw [show(cs.drop i).take 1= [cs[i]]from by rw [List.drop_eq_getElem_cons X5];rfl]at h1
  have hi3:i<xs.length:=by omega
  rw [List.getElem?_eq_getElem hi3]at h1
  obtain⟨x,e1,e2,_⟩:=DataW.trod_int ue h1
  have e3:=congrArg (fun z=>z[i]?) hx.1
  simp only [List.getElem?_map,List.getElem?_eq_getElem hi3,Option.map_some,e2]at e3
  have hi4:i<l.length:=by omega
  simp only [List.getElem?_eq_getElem hi4,Option.map_some,Option.some.injEq]at e3
  injection e3 with e3
  injection e3 with _ e3
  injection e1 with e1 _
  rw [List.getElem?_eq_getElem X5,e1,List.getElem?_map,List.getElem?_eq_getElem hi4,Option.map_some,e3]
 ·rw [List.getElem?_eq_none (by omega),List.getElem?_eq_none (by simp;omega)]
theorem yr {n:String} {g:Nat} {cs:Array Value} {ps:List MemPlace}(hg:P.globalNamed n=some g)(hv:W.var? P n=some cs)(h0:0<cs.size)(hps:MemPlace.row ⟨g,0,none⟩ cs.size ⊆ ps)(hc:∀b off,MemPlace.cell b off∈ps→(∃c t,W.heap[b]? =some (.cells c t (0,0)))∧∀u v,W.cell? ⟨b,off,none⟩=some (.iface u v)→Value.okWide P W .any 0 u v):∃T,Blk W g cs T:=by
 have h1:MemPlace.cell g 0∈ps:=hps (by unfold MemPlace.row;exact List.mem_map.2 ⟨0,List.mem_range.2 h0,rfl⟩)
 obtain⟨⟨c,t,h2⟩,_⟩:=hc _ _ h1
 unfold World.var? at hv
 rw [hg]at hv
 simp only [Option.bind_some,h2,Option.some.injEq]at hv
 subst hv
 exact⟨t,h2⟩
theorem cell_of {g:Nat} {cs:Array Value} {T:TypeId} {p:Addr} {v:Value}(hb:Blk W g cs T)(hg:p.block=g)(h:W.cell? p=some v):v∈cs.toList:=by
 subst hg
 unfold Blk at hb
 unfold World.cell? at h
 rw [hb]at h
 simp only at h
 split at h
 ·cases h
 ·rw [← Array.getElem?_toList]at h
  exact List.mem_of_getElem? h
end
end
end Go.Proofs.YtinhphjfnedhgaaGreatDoor
namespace Go.Proofs.YtinhphjfnedhgaaGreatDoor
open Go.Proofs.Tryz (prog)
open Go Go.RowKit V
open Go.IntKind (i64 u32 u64)
section
set_option maxRecDepth 100000
set_option maxHeartbeats 1000000
attribute [local irreducible] Vc2 VcD
attribute [local grind=] Pd.dQ Pd.cT Pd.kz Pd.nS Pd.bk Pd.jd Pd.fJ Pd.iI Pd.nH DB.fg
attribute [local grind .] Pd.Ok.ent
attribute [local grind→] Pd.Ok.er
def bY:Ctr Un:=⟨[.one (.obj 0 0),.agg [.bool,.int .i64],.one (.int .i64),.one (.int .u32)],[],[.ob 2 []],[0],fun fa fb off v rm m K=>(0≤(v:Int)∧(v:Int)<4294967296)∧K ⟨(.int .i64 (m.err fa fb off)),none,[.ob 2 (m.write fa fb off v)],[],[]⟩⟩
theorem fQ:LV Un prog 47 bY:=by
 show ∀(fa:Bool)(fb:Int)(off:Int)(v:Int)(rm:Nat→Nat)(m:Mem),∀Q:Ou Un→Prop,((0≤(v:Int)∧(v:Int)<4294967296)∧Q ⟨(.int .i64 (m.err fa fb off)),none,[.ob 2 (m.write fa fb off v)],[],[]⟩)→∀(X:Nat→Nat→Prop)(w:World),Sat (U:=Un) [(.ob 2 rm m)] X w→aC (U:=Un) [(.ob 2 rm m)] fr0 []→Calls prog 47 #[(.pointer (some (Addr.mk (rm 0) 0 none))),(.agg #[(.bool fa),(.int .i64 fb)]),(.int .i64 off),(.int .u32 v)] w (aM (U:=Un) [(.ob 2 rm m)] [0] X w Q)
 intro fa fb off v rm m Q hQ X w hs hl
 obtain⟨hv,hQ⟩:=hQ
 obtain⟨L,hX,hM⟩:=(hs.res 0 _ rfl:bJ 2 rm m (X 0) w)
 refine(GO hM fa fb off v hv).mono ?_
 rintro e w' ⟨u,rfl,L1,rfl,h2,hg,q⟩
 exact aM.one (Z:=L1.X) (q.mono fun k hk=>(hX k).1 hk) (show bJ 2 rm _ L1.X w' from⟨L1,fun _=>Iff.rfl,h2⟩) (fun k hk=>(hg k hk).imp (fun h=>(hX k).1 h) id) hQ trivial
def j9:Ctr Un:=⟨[.one (.obj 0 0),.agg [.bool,.int .i64]],[],[.ob 2 []],[0],fun fa fb rm m K=>K ⟨(.int .i64 (m.cR fa fb)),none,[.ob 2 (m.zero fa fb)],[],[]⟩⟩
theorem vC:LV Un prog 80 j9:=by
 show ∀(fa:Bool)(fb:Int)(rm:Nat→Nat)(m:Mem),∀Q:Ou Un→Prop,(Q ⟨(.int .i64 (m.cR fa fb)),none,[.ob 2 (m.zero fa fb)],[],[]⟩)→∀(X:Nat→Nat→Prop)(w:World),Sat (U:=Un) [(.ob 2 rm m)] X w→aC (U:=Un) [(.ob 2 rm m)] fr0 []→Calls prog 80 #[(.pointer (some (Addr.mk (rm 0) 0 none))),(.agg #[(.bool fa),(.int .i64 fb)])] w (aM (U:=Un) [(.ob 2 rm m)] [0] X w Q)
 intro fa fb rm m Q hQ X w hs hl
 obtain⟨L,hX,hM⟩:=(hs.res 0 _ rfl:bJ 2 rm m (X 0) w)
 refine(Jk hM fa fb).mono ?_
 rintro e w' ⟨u,rfl,L1,rfl,h2,hg,q⟩
 exact aM.one (Z:=L1.X) (q.mono fun k hk=>(hX k).1 hk) (show bJ 2 rm _ L1.X w' from⟨L1,fun _=>Iff.rfl,h2⟩) (fun k hk=>(hg k hk).imp (fun h=>(hX k).1 h) id) hQ trivial
def eh:Ctr Un:=⟨[.one (.int .i64)],[],[],[],fun p K=>K ⟨(.agg #[(.bool true),(.int .i64 p)]),none,[],[],[]⟩⟩
def Cb(p:Int)(Q:Ou Un→Prop):Prop:=
 ∀(gv:Nat),
 Q ⟨(.agg #[(.bool true),(.int .i64 p)]),none,[],[],[]⟩
theorem Cc:Vc2 Un prog (aR []) [] Tryz.f81 .leaf [] eh=(∀p,∀Q,(eh.body p Q)→Cb p Q):=by kernel_rfl
theorem nf:LV Un prog 81 eh:=verify Tryz.func81 aa (tb:= []) trivial (by kernel_rfl) (Cc.mpr fun p Q h gv=>h)
def kM:Ctr Un:=⟨[.one (.obj 0 0),.one (.int .i64),.one (.int .i64)],[],[.ob 3 []],[],fun p t r E K=>K ⟨(.bool (decide (0≤p∧p<(E.n:Int)) && (E.ent p.toNat).typ==t)),none,[],[],[]⟩⟩
def Kd(p:Int)(t:Int)(r:Nat→Nat)(E:Pd)(Q:Ou Un→Prop):Prop:=
 Pd.Ok E→
 ∃J:Bool→Prop,(
  split (decide (p≥0)) (
   split (decide (p<((Pd.aJ E).length:Int))) (
    (0≤p∧p<((Pd.aJ E).length:Int))∧
    J (((Pd.aJ E).getD p.toNat Ent.free).typ==t)) (
    J false)) (
   J false))∧∀(PO:Nat→Value)(x6:Bool),J x6→
 Q ⟨(.bool x6),none,[],[],[]⟩
theorem Ke:Vc2 Un prog (aR []) [] Tryz.f119 (.r' (.two (.node [] (some ⟨[(6,(.one .bool))],[],upN 6 24,[]⟩) [] [] .leaf .leaf) .leaf)) [] kM=(∀p t r (E:Pd),∀Q,(kM.body p t r E Q)→Kd p t r E Q):=by kernel_rfl
theorem DP:LV Un prog 119 kM:=verify Tryz.func119 aa (tb:= []) trivial (by kernel_rfl) (Ke.mpr fun p t r E Q h f1=>cN ((decide ((p:Int)≥0)) && ((decide ((p:Int)<(((Pd.aJ E).length:Nat):Int))) && ((((Pd.aJ E).getD p.toNat Ent.free).typ:Int)==t))) (af (fun c1=>af (fun c2=>aj (by grind) fun s2=>(by grind)) fun c2=>(by grind)) fun c1=>(by grind))<| gZ h (by grind))
def fj:Ctr Un:=⟨[.one (.obj 0 0),.one (.int .i64),.one (.int .i64),.one (.int .i64)],[],[.ob 3 [(1,1,0)],.ob 2 []],[0,1],fun p t o r E rm m K=>E.n=m.S∧K ⟨(.int .i64 ((E.on m).cZ p t o)),none,[.ob 3 (((E.on m).take p t o).pd),.ob 2 (((E.on m).take p t o).mem)],[],[]⟩⟩
def Fm(p:Int)(t:Int)(o:Int)(r:Nat→Nat)(E:Pd)(rm:Nat→Nat)(m:Mem)(Q:Ou Un→Prop):Prop:=
 Pd.Ok E→
 Mem.Wf m→
 ∃J:Bool→Prop,(
  split (decide (p<0)) (
   J true) (
   J (decide (p≥((Pd.aJ E).length:Int)))))∧∀(PO:Nat→Value)(ON:Bool),J ON→
 split ON (
  Q ⟨(.int .i64 5),none,[.ob 3 E,.ob 2 m],[],[]⟩) (
  ∃J1:Bool→Prop,(
   split (t !=2) (
    split (t !=4) (
     split (t !=5) (
      J1 (t !=6)) (
      J1 false)) (
     J1 false)) (
    J1 false))∧∀(Oi:Nat→Value)(U4:Bool),J1 U4→
  split U4 (
   Q ⟨(.int .i64 124),none,[.ob 3 E,.ob 2 m],[],[]⟩) (
   ∃J2:Bool→Prop,(
    split (!(decide (0≤o∧o<E.n) && (E.ent o.toNat).typ==1)) (
     J2 true) (
     (0≤o∧o<((Pd.aJ E).length:Int))∧
     J2 (decide (((Pd.aJ E).getD o.toNat Ent.free).refs≥63))))∧∀(OW:Nat→Value)(Zb:Bool),J2 Zb→
   split Zb (
    Q ⟨(.int .i64 122),none,[.ob 3 E,.ob 2 m],[],[]⟩) (
    (0≤p∧p<((Pd.aJ E).length:Int))∧
    split (((Pd.aJ E).getD p.toNat Ent.free).typ !=0) (
     Q ⟨(.int .i64 120),none,[.ob 3 E,.ob 2 m],[],[]⟩) (
     (0≤p∧p<((Pd.aJ E).length:Int))∧
     (Ent.ok (Ent.mk t o 0 0 false)=true∧Ent.owner (Ent.mk t o 0 0 false)<(Pd.n E:Int))∧
     ∀(E1:Pd),E1=(Pd.set E p.toNat (Ent.mk t o 0 0 false))→
     Pd.Ok E1→
     (0≤o∧o<((Pd.aJ E1).length:Int))∧
     (0≤o∧o<((Pd.aJ E1).length:Int))∧
     (Ent.ok (Ent.mk (((Pd.aJ E1).getD o.toNat Ent.free).typ) (((Pd.aJ E1).getD o.toNat Ent.free).owner) (i64.wrap ((((Pd.aJ E1).getD o.toNat Ent.free).refs)+1)) (((Pd.aJ E1).getD o.toNat Ent.free).state) (((Pd.aJ E1).getD o.toNat Ent.free).aV))=true∧Ent.owner (Ent.mk (((Pd.aJ E1).getD o.toNat Ent.free).typ) (((Pd.aJ E1).getD o.toNat Ent.free).owner) (i64.wrap ((((Pd.aJ E1).getD o.toNat Ent.free).refs)+1)) (((Pd.aJ E1).getD o.toNat Ent.free).state) (((Pd.aJ E1).getD o.toNat Ent.free).aV))<(Pd.n E1:Int))∧
     ∀(E2:Pd),E2=(Pd.set E1 o.toNat (Ent.mk (((Pd.aJ E1).getD o.toNat Ent.free).typ) (((Pd.aJ E1).getD o.toNat Ent.free).owner) (i64.wrap ((((Pd.aJ E1).getD o.toNat Ent.free).refs)+1)) (((Pd.aJ E1).getD o.toNat Ent.free).state) (((Pd.aJ E1).getD o.toNat Ent.free).aV)))→
     Pd.Ok E2→
     Q ⟨(.int .i64 0),none,[.ob 3 E2,.ob 2 m],[],[]⟩))))
theorem Fo:Vc2 Un prog (aR [(119,kM)]) [] Tryz.f103 (.r' (.two (.two (.node [] (some ⟨[(20,(.one .bool))],[],upN 10 11,[]⟩) [] [] .leaf .leaf) .leaf) (.two (.two (.node [] (some ⟨[(34,(.one .bool))],[],upN 21 14,[]⟩) [] [] .leaf .leaf) .leaf) (.r' (.two (.two (.node [] (some ⟨[(50,(.one .bool))],[],upN 38 13,[]⟩) [] [] .leaf .leaf) .leaf) .leaf))))) [] fj=(∀p t o r (E:Pd) rm (m:Mem),∀Q,(fj.body p t o r E rm m Q)→Fm p t o r E rm m Q):=by kernel_rfl
section
attribute [local grind=] DB.take DB.cZ DB.eG DB.more DB.G1 DB.turns
theorem pj:LV Un prog 103 fj:=verify Tryz.func103 aa (tb:= [(119,kM)]) ⟨DP,trivial⟩ (by kernel_rfl) (Fo.mpr fun p t o r E rm m Q h=>by
 obtain⟨NK,h⟩:=h
 exact fun f1 f2=>cN ((decide ((p:Int)<0)) || (decide ((p:Int)≥(((Pd.aJ E).length:Nat):Int)))) (af (fun c1=>(by grind)) fun c1=>(by grind))<| aZ (fun c2=>ao h (aE (by grind)) (ab (uO3 (by grind)) (ab (uO2 (by grind)) rfl)) rfl) fun c2=>cN (((t:Int) !=2) && (((t:Int) !=4) && (((t:Int) !=5) && ((t:Int) !=6)))) (af (fun c3=>af (fun c4=>af (fun c5=>(by grind)) fun c5=>(by grind)) fun c4=>(by grind)) fun c3=>(by grind))<| cE (fun c6=>ao h (aE (by grind)) (ab (uO3 (by grind)) (ab (uO2 (by grind)) rfl)) rfl) fun c6=>cN ((!(decide (0≤o∧o<(E.n:Int)) && (E.ent o.toNat).typ==1)) || (decide ((((Pd.aJ E).getD o.toNat Ent.free).refs:Int)≥63))) (af (fun c7=>(by grind)) fun c7=>aj (by grind) fun s3=>(by grind))<| aZ (fun c8=>ao h (aE (by grind)) (ab (uO3 (by grind)) (ab (uO2 (by grind)) rfl)) rfl) fun c8=>aj (by grind) fun s4=>aB (fun c9=>ao h (aE (by grind)) (ab (uO3 (by grind)) (ab (uO2 (by grind)) rfl)) rfl) fun c9=>aj ‹_› fun s5=>aj (by grind) fun s6 E1 Oc f7=>aj (by grind) fun s8=>aj ‹_› fun s9=>aj (by(have he:E1.ent o.toNat=E.ent o.toNat:=by grind);(have h5:=f1.ent o.toNat (by grind));have h6:=Ent.dO h5.1;rw [Pd.cT (by grind),he,aq (by omega)];exact⟨DB.nT h5.1 (by grind) (by grind),by rw [Oc];exact h5.2⟩) fun Td E2 P4 f11=>ao h (aE (by grind)) (ab (uO3 (by(have h8:=Ent.dO (f1.ent o.toNat (by grind)).1);have h9:E1.ent o.toNat=E.ent o.toNat:=(by grind);rw [DB.take,if_pos (by grind),DB.eG,Pd.fJ,DB.more,Pd.fJ,Pd.bk _ _ (by exact NK),← Oc,P4,Pd.cT (by grind),aq (by rw [h9];omega)];rfl)) (ab (uO2 (by grind)) rfl)) rfl)
end
def fC:Ctr Un:=⟨[.one (.obj 0 0),.one (.int .i64),.one (.int .i64)],[],[.ob 3 [(1,1,0)],.ob 2 []],[0,1],fun p t r E rm m K=>E.n=m.S∧K ⟨(.int .i64 ((E.on m).bN p t)),none,[.ob 3 (((E.on m).setState p t).pd),.ob 2 (((E.on m).setState p t).mem)],[],[]⟩⟩
def uo(p:Int)(t:Int)(r:Nat→Nat)(E:Pd)(rm:Nat→Nat)(m:Mem)(Q:Ou Un→Prop):Prop:=
 Pd.Ok E→
 Mem.Wf m→
 ∃J:Bool→Prop,(
  split (decide (p<0)) (
   J true) (
   J (decide (p≥((Pd.aJ E).length:Int)))))∧∀(PO:Nat→Value)(Po:Bool),J Po→
 split Po (
  Q ⟨(.int .i64 5),none,[.ob 3 E,.ob 2 m],[],[]⟩) (
  (0≤p∧p<((Pd.aJ E).length:Int))∧
  split (((Pd.aJ E).getD p.toNat Ent.free).typ !=1) (
   Q ⟨(.int .i64 124),none,[.ob 3 E,.ob 2 m],[],[]⟩) (
   ∃J1:Bool→Prop,(
    split (t !=3) (
     split (t !=2) (
      J1 true) (
      (0≤p∧p<((Pd.aJ E).length:Int))∧
      J1 (((Pd.aJ E).getD p.toNat Ent.free).state !=1))) (
     J1 false))∧∀(Oi:Nat→Value)(Qj:Bool),J1 Qj→
   split Qj (
    Q ⟨(.int .i64 3),none,[.ob 3 E,.ob 2 m],[],[]⟩) (
    (0≤p∧p<((Pd.aJ E).length:Int))∧
    (Ent.ok (Ent.mk (((Pd.aJ E).getD p.toNat Ent.free).typ) (((Pd.aJ E).getD p.toNat Ent.free).owner) (((Pd.aJ E).getD p.toNat Ent.free).refs) t (((Pd.aJ E).getD p.toNat Ent.free).aV))=true∧Ent.owner (Ent.mk (((Pd.aJ E).getD p.toNat Ent.free).typ) (((Pd.aJ E).getD p.toNat Ent.free).owner) (((Pd.aJ E).getD p.toNat Ent.free).refs) t (((Pd.aJ E).getD p.toNat Ent.free).aV))<(Pd.n E:Int))∧
    ∀(E1:Pd),E1=(Pd.set E p.toNat (Ent.mk (((Pd.aJ E).getD p.toNat Ent.free).typ) (((Pd.aJ E).getD p.toNat Ent.free).owner) (((Pd.aJ E).getD p.toNat Ent.free).refs) t (((Pd.aJ E).getD p.toNat Ent.free).aV)))→
    Pd.Ok E1→
    Q ⟨(.int .i64 0),none,[.ob 3 E1,.ob 2 m],[],[]⟩)))
theorem uq:Vc2 Un prog (aR []) [] Tryz.f48 (.r' (.two (.two (.node [] (some ⟨[(17,(.one .bool))],[],upN 7 11,[]⟩) [] [] .leaf .leaf) .leaf) (.r' (.two (.two (.node [] (some ⟨[(43,(.one .bool))],[],upN 27 17,[]⟩) [] [] .leaf .leaf) .leaf) .leaf)))) [] fC=(∀p t r (E:Pd) rm (m:Mem),∀Q,(fC.body p t r E rm m Q)→uo p t r E rm m Q):=by kernel_rfl
section
attribute [local grind=] DB.setState DB.bN DB.KN
theorem um:LV Un prog 48 fC:=verify Tryz.func48 aa (tb:= []) trivial (by kernel_rfl) (uq.mpr fun p t r E rm m Q h=>by
 obtain⟨NK,h⟩:=h
 exact fun f1 f2=>cN ((decide ((p:Int)<0)) || (decide ((p:Int)≥(((Pd.aJ E).length:Nat):Int)))) (af (fun c1=>(by grind)) fun c1=>(by grind))<| aZ (fun c2=>ao h (aE (by grind)) (ab (uO3 (by grind)) (ab (uO2 (by grind)) rfl)) rfl) fun c2=>aj (by grind) fun s3=>aB (fun c3=>ao h (aE (by grind)) (ab (uO3 (by grind)) (ab (uO2 (by grind)) rfl)) rfl) fun c3=>cN (((t:Int) !=3) && (((t:Int) !=2) || ((((Pd.aJ E).getD p.toNat Ent.free).state:Int) !=1))) (af (fun c4=>af (fun c5=>(by grind)) fun c5=>aj ‹_› fun s4=>(by grind)) fun c4=>(by grind))<| cE (fun c6=>ao h (aE (by grind)) (ab (uO3 (by grind)) (ab (uO2 (by grind)) rfl)) rfl) fun c6=>aj ‹_› fun s5=>aj (by grind) fun s6 E1 Oc f7=>ao h (aE (by grind)) (ab (uO3 (by grind)) (ab (uO2 (by grind)) rfl)) rfl)
end
def j8:Ctr Un:=⟨[.one (.obj 0 0),.one (.int .i64)],[],[.ob 3 [(1,1,0)],.ob 2 []],[0,1],fun p r E rm m K=>E.n=m.S∧K ⟨(.int .i64 ((E.on m).dy p)),none,[.ob 3 (((E.on m).fu p).pd),.ob 2 (((E.on m).fu p).mem)],[],[]⟩⟩
def Fv(p:Int)(r:Nat→Nat)(E:Pd)(rm:Nat→Nat)(m:Mem)(Q:Ou Un→Prop):Prop:=
 Pd.Ok E→
 Mem.Wf m→
 ∃J:Bool→Prop,(
  split (decide (p<0)) (
   J true) (
   J (decide (p≥((Pd.aJ E).length:Int)))))∧∀(PO:Nat→Value)(Po:Bool),J Po→
 split Po (
  Q ⟨(.int .i64 5),none,[.ob 3 E,.ob 2 m],[],[]⟩) (
  (0≤p∧p<((Pd.aJ E).length:Int))∧
  ∀(NB:Nat),
  split (((Pd.aJ E).getD p.toNat Ent.free).typ==0) (
   Q ⟨(.int .i64 121),none,[.ob 3 E,.ob 2 m],[],[]⟩) (
   ∃J1:Bool→Prop,(
    split (((Pd.aJ E).getD p.toNat Ent.free).typ==1) (
     J1 (decide (((Pd.aJ E).getD p.toNat Ent.free).refs>0))) (
     J1 false))∧∀(OW:Nat→Value)(P8:Bool),J1 P8→
   split P8 (
    Q ⟨(.int .i64 123),none,[.ob 3 E,.ob 2 m],[],[]⟩) (
    (0≤p∧p<((Pd.aJ E).length:Int))∧
    (Ent.ok (Ent.mk 0 0 0 0 false)=true∧Ent.owner (Ent.mk 0 0 0 0 false)<(Pd.n E:Int))∧
    ∀(E1:Pd),E1=(Pd.set E p.toNat (Ent.mk 0 0 0 0 false))→
    Pd.Ok E1→
    ∀(m1:Mem),m1=(m.zero true p)→
    Mem.Wf m1→
    ∃J2:Bool→Prop,(
     split (((Pd.aJ E).getD p.toNat Ent.free).typ !=1) (
      split (decide (0≤(((Pd.aJ E).getD p.toNat Ent.free).owner)∧(((Pd.aJ E).getD p.toNat Ent.free).owner)<E1.n) && (E1.ent (((Pd.aJ E).getD p.toNat Ent.free).owner).toNat).typ==1) (
       (0≤((Pd.aJ E).getD p.toNat Ent.free).owner∧((Pd.aJ E).getD p.toNat Ent.free).owner<((Pd.aJ E1).length:Int))∧
       J2 (decide (((Pd.aJ E1).getD (Int.toNat (((Pd.aJ E).getD p.toNat Ent.free).owner)) Ent.free).refs>0))) (
       J2 false)) (
      J2 false))∧∀(QD:Nat→Value)(RW:Bool),J2 RW→
    split RW (
     (0≤((Pd.aJ E).getD p.toNat Ent.free).owner∧((Pd.aJ E).getD p.toNat Ent.free).owner<((Pd.aJ E1).length:Int))∧
     (0≤((Pd.aJ E).getD p.toNat Ent.free).owner∧((Pd.aJ E).getD p.toNat Ent.free).owner<((Pd.aJ E1).length:Int))∧
     (Ent.ok (Ent.mk (((Pd.aJ E1).getD (Int.toNat (((Pd.aJ E).getD p.toNat Ent.free).owner)) Ent.free).typ) (((Pd.aJ E1).getD (Int.toNat (((Pd.aJ E).getD p.toNat Ent.free).owner)) Ent.free).owner) (i64.wrap ((((Pd.aJ E1).getD (Int.toNat (((Pd.aJ E).getD p.toNat Ent.free).owner)) Ent.free).refs) - 1)) (((Pd.aJ E1).getD (Int.toNat (((Pd.aJ E).getD p.toNat Ent.free).owner)) Ent.free).state) (((Pd.aJ E1).getD (Int.toNat (((Pd.aJ E).getD p.toNat Ent.free).owner)) Ent.free).aV))=true∧Ent.owner (Ent.mk (((Pd.aJ E1).getD (Int.toNat (((Pd.aJ E).getD p.toNat Ent.free).owner)) Ent.free).typ) (((Pd.aJ E1).getD (Int.toNat (((Pd.aJ E).getD p.toNat Ent.free).owner)) Ent.free).owner) (i64.wrap ((((Pd.aJ E1).getD (Int.toNat (((Pd.aJ E).getD p.toNat Ent.free).owner)) Ent.free).refs) - 1)) (((Pd.aJ E1).getD (Int.toNat (((Pd.aJ E).getD p.toNat Ent.free).owner)) Ent.free).state) (((Pd.aJ E1).getD (Int.toNat (((Pd.aJ E).getD p.toNat Ent.free).owner)) Ent.free).aV))<(Pd.n E1:Int))∧
     ∀(E2:Pd),E2=(Pd.set E1 (Int.toNat (((Pd.aJ E).getD p.toNat Ent.free).owner)) (Ent.mk (((Pd.aJ E1).getD (Int.toNat (((Pd.aJ E).getD p.toNat Ent.free).owner)) Ent.free).typ) (((Pd.aJ E1).getD (Int.toNat (((Pd.aJ E).getD p.toNat Ent.free).owner)) Ent.free).owner) (i64.wrap ((((Pd.aJ E1).getD (Int.toNat (((Pd.aJ E).getD p.toNat Ent.free).owner)) Ent.free).refs) - 1)) (((Pd.aJ E1).getD (Int.toNat (((Pd.aJ E).getD p.toNat Ent.free).owner)) Ent.free).state) (((Pd.aJ E1).getD (Int.toNat (((Pd.aJ E).getD p.toNat Ent.free).owner)) Ent.free).aV)))→
     Pd.Ok E2→
     Q ⟨(.int .i64 0),none,[.ob 3 E2,.ob 2 m1],[],[]⟩) (
     Q ⟨(.int .i64 0),none,[.ob 3 E1,.ob 2 m1],[],[]⟩))))
theorem Fw:Vc2 Un prog (aR [(81,eh),(80,j9),(119,kM)]) [] Tryz.f49 (.r' (.two (.two (.node [] (some ⟨[(17,(.one .bool))],[],upN 7 11,[]⟩) [] [] .leaf .leaf) .leaf) (.r' (.r' (.two (.two (.node [] (some ⟨[(35,(.one .bool))],[],upN 28 8,[]⟩) [] [] .leaf .leaf) .leaf) (.r' (.two (.node [] none [] [(3,[0])] .leaf .leaf) (.r' (.two (.two (.node [] (some ⟨[(71,(.one .bool))],[],upN 54 18,[]⟩) [] [] .leaf .leaf) (.two (.node [] none [] [(3,[0]),(5,[2]),(8,[0])] .leaf .leaf) .leaf)) .leaf))))))))) [] j8=(∀p r (E:Pd) rm (m:Mem),∀Q,(j8.body p r E rm m Q)→Fv p r E rm m Q):=by kernel_rfl
section
attribute [local grind=] DB.fu DB.dy DB.fK DB.more Pd.jW Mem.sD DB.nT Ent.wC
theorem Fu:LV Un prog 49 j8:=verify Tryz.func49 aa (tb:= [(81,eh),(80,j9),(119,kM)]) ⟨nf,vC,DP,trivial⟩ (by kernel_rfl) (Fw.mpr fun p r E rm m Q h=>by
 obtain⟨NK,h⟩:=h
 exact fun f1 f2=>cN ((decide ((p:Int)<0)) || (decide ((p:Int)≥(((Pd.aJ E).length:Nat):Int)))) (af (fun c1=>(by grind)) fun c1=>(by grind))<| aZ (fun c2=>ao h (aE (by grind)) (ab (uO3 (by grind)) (ab (uO2 (by grind)) rfl)) rfl) fun c2=>aj (by grind) fun s3 NB=>aG (fun c3=>ao h (aE (by grind)) (ab (uO3 (by grind)) (ab (uO2 (by grind)) rfl)) rfl) fun c3=>cN (((((Pd.aJ E).getD p.toNat Ent.free).typ:Int)==1) && (decide ((((Pd.aJ E).getD p.toNat Ent.free).refs:Int)>0))) (af (fun c4=>(by grind)) fun c4=>(by grind))<| cE (fun c5=>ao h (aE (by grind)) (ab (uO3 (by grind)) (ab (uO2 (by grind)) rfl)) rfl) fun c5=>aj ‹_› fun s4=>aj (by grind) fun s5 E1 Oc f6 m1 N5 f7=>cN (((((Pd.aJ E).getD p.toNat Ent.free).typ:Int) !=1) && ((decide (0≤(((Pd.aJ E).getD p.toNat Ent.free).owner)∧(((Pd.aJ E).getD p.toNat Ent.free).owner)<(E1.n:Int)) && (E1.ent (((Pd.aJ E).getD p.toNat Ent.free).owner).toNat).typ==1) && (decide ((((Pd.aJ E1).getD (Int.toNat (((Pd.aJ E).getD p.toNat Ent.free).owner)) Ent.free).refs:Int)>0)))) (af (fun c6=>af (fun c7=>aj (by grind) fun s8=>(by grind)) fun c7=>(by grind)) fun c6=>(by grind))<| cE (fun c8=>aj (by grind) fun s9=>aj ‹_› fun Td=>aj (by(have h5:=f6.ent (E.aJ.getD p.toNat Ent.free).owner.toNat (by grind));have h6:=Ent.dO h5.1;rw [Pd.cT (E:=E1) (by grind),aq (by omega)];exact⟨(by simpa [Int.sub_eq_add_neg]using DB.nT (k:= -1) h5.1 (by grind) (by grind)),h5.2⟩) fun Ov E2 P4 f12=>ao h (aE (by grind)) (ab (uO3 (by(rw [DB.fu,if_pos (by grind)];dsimp only [DB.fK];rw [Pd.fJ,if_pos (by grind),DB.more,Pd.fJ,Pd.jW,Pd.bk _ _ (by rw [Mem.sD];exact NK),← Oc,P4,Pd.cT (E:=E) (by grind),Pd.cT (E:=E1) (by grind)];(have h6:=Ent.dO (f6.ent (E.ent p.toNat).owner.toNat (by grind)).1);rw [aq (by omega)];rfl))) (ab (uO2 (by grind)) rfl)) rfl) fun c8=>ao h (aE (by grind)) (ab (uO3 (by grind)) (ab (uO2 (by grind)) rfl)) rfl)
end
def eV:Ctr Un:=⟨[.one (.obj 0 0),.one (.int .i64),.one (.int .i64)],[],[.ob 3 [(1,1,0)],.ob 2 []],[0,1],fun p q r E rm m K=>E.n=m.S∧K ⟨(.int .i64 ((E.on m).aT p q)),none,[.ob 3 (((E.on m).aS p q).pd),.ob 2 (((E.on m).aS p q).mem)],[],[]⟩⟩
def td(p:Int)(q:Int)(r:Nat→Nat)(E:Pd)(rm:Nat→Nat)(m:Mem)(Q:Ou Un→Prop):Prop:=
 Pd.Ok E→
 Mem.Wf m→
 ∃J:Bool→Prop,(
  split (decide (p<0)) (
   J true) (
   split (decide (p≥((Pd.aJ E).length:Int))) (
    J true) (
    split (decide (q<0)) (
     J true) (
     J (decide (q≥((Pd.aJ E).length:Int)))))))∧∀(PO:Nat→Value)(OU:Bool),J OU→
 split OU (
  Q ⟨(.int .i64 5),none,[.ob 3 E,.ob 2 m],[],[]⟩) (
  split (p==q) (
   Q ⟨(.int .i64 1),none,[.ob 3 E,.ob 2 m],[],[]⟩) (
   ∃J1:Bool→Prop,(
    (0≤p∧p<((Pd.aJ E).length:Int))∧
    split (((Pd.aJ E).getD p.toNat Ent.free).typ !=0) (
     J1 true) (
     (0≤q∧q<((Pd.aJ E).length:Int))∧
     J1 (((Pd.aJ E).getD q.toNat Ent.free).typ !=0)))∧∀(Oi:Nat→Value)(VQ:Bool),J1 VQ→
   split VQ (
    Q ⟨(.int .i64 120),none,[.ob 3 E,.ob 2 m],[],[]⟩) (
    split (decide ((Pd.aF E)≥64)) (
     Q ⟨(.int .i64 240),none,[.ob 3 E,.ob 2 m],[],[]⟩) (
     (0≤q∧q<((Pd.aJ E).length:Int))∧
     (Ent.ok (Ent.mk 3 p 0 0 false)=true∧Ent.owner (Ent.mk 3 p 0 0 false)<(Pd.n E:Int))∧
     ∀(E1:Pd),E1=(Pd.set E q.toNat (Ent.mk 3 p 0 0 false))→
     Pd.Ok E1→
     (0≤p∧p<((Pd.aJ E1).length:Int))∧
     (Ent.ok (Ent.mk 1 p 1 1 false)=true∧Ent.owner (Ent.mk 1 p 1 1 false)<(Pd.n E1:Int))∧
     ∀(E2:Pd),E2=(Pd.set E1 p.toNat (Ent.mk 1 p 1 1 false))→
     Pd.Ok E2→
     (0≤(u32.wrap q)∧(u32.wrap q)<4294967296)∧
     ∀(m1:Mem),m1=(m.write true p 0 (u32.wrap q))→
     Mem.Wf m1→
     (0≤(u32.wrap (Pd.aF E2))∧(u32.wrap (Pd.aF E2))<4294967296)∧
     ∀(m2:Mem),m2=(m1.write true p 1 (u32.wrap (Pd.aF E2)))→
     Mem.Wf m2→
     (0≤(0:Int)∧(0:Int)<4294967296)∧
     ∀(m3:Mem),m3=(m2.write true p 2 0)→
     Mem.Wf m3→
     (0≤(i64.wrap ((Pd.aF E2)+1))∧(i64.wrap ((Pd.aF E2)+1))≤64)∧
     ∀(E3:Pd),E3=(Pd.gk E2 (i64.wrap ((Pd.aF E2)+1)))→
     Pd.Ok E3→
     Q ⟨(.int .i64 0),none,[.ob 3 E3,.ob 2 m3],[],[]⟩))))
theorem te:Vc2 Un prog (aR [(81,eh),(47,bY)]) [] Tryz.f99 (.r' (.two (.two (.node [] (some ⟨[(30,(.one .bool))],[],upN 7 24,[]⟩) [] [] .leaf .leaf) .leaf) (.r' (.two (.two (.node [] (some ⟨[(53,(.one .bool))],[],upN 34 20,[]⟩) [] [] .leaf .leaf) .leaf) (.r' (.r' (.r' (.two (.node [] none [] [(3,[0])] .leaf .leaf) (.two (.node [] none [] [(3,[0]),(9,[0])] .leaf .leaf) (.two (.node [] none [] [(3,[0])] .leaf .leaf) .leaf)))))))))) [] eV=(∀p q r (E:Pd) rm (m:Mem),∀Q,(eV.body p q r E rm m Q)→td p q r E rm m Q):=by kernel_rfl
section
attribute [local grind=] DB.aS DB.aT DB.bM Pd.rV Pd.yv Pd.u5 Pd.I7 Mem.bI aq bj Ent.ok Pd.Bd DB.mem_set DB.Ev DB.cA
attribute [local grind→] Pd.Ok.aF
theorem tc:LV Un prog 99 eV:=verify Tryz.func99 aa (tb:= [(81,eh),(47,bY)]) ⟨nf,fQ,trivial⟩ (by kernel_rfl) (te.mpr fun p q r E rm m Q h=>by
 obtain⟨NK,h⟩:=h
 exact fun f1 f2=>cN ((decide ((p:Int)<0)) || ((decide ((p:Int)≥(((Pd.aJ E).length:Nat):Int))) || ((decide ((q:Int)<0)) || (decide ((q:Int)≥(((Pd.aJ E).length:Nat):Int)))))) (af (fun c1=>(by grind)) fun c1=>af (fun c2=>(by grind)) fun c2=>af (fun c3=>(by grind)) fun c3=>(by grind))<| aZ (fun c4=>ao h (aE (by grind)) (ab (uO3 (by grind)) (ab (uO2 (by grind)) rfl)) rfl) fun c4=>aG (fun c5=>ao h (aE (by grind)) (ab (uO3 (by grind)) (ab (uO2 (by grind)) rfl)) rfl) fun c5=>cN (((((Pd.aJ E).getD p.toNat Ent.free).typ:Int) !=0) || ((((Pd.aJ E).getD q.toNat Ent.free).typ:Int) !=0)) (aj (by grind) fun s3=>af (fun c6=>(by grind)) fun c6=>aj (by grind) fun s4=>(by grind))<| aZ (fun c7=>ao h (aE (by grind)) (ab (uO3 (by grind)) (ab (uO2 (by grind)) rfl)) rfl) fun c7=>ar (fun c8=>ao h (aE (by grind)) (ab (uO3 (by grind)) (ab (uO2 (by grind)) rfl)) rfl) fun c8=>aj (by grind) fun s5=>aj (by grind) fun s6 E1 Oc f7=>aj (by grind) fun s8=>aj (by grind) fun s9 E2 P4 f10=>aj (iU _) fun Ov m1 N5 f12=>aj (iU _) fun V9 m2 Pc f14=>aj (by omega) fun UA m3 Ol f16=>aj (by grind) fun U5 E3 UX f18=>ao h (aE (by grind)) (ab (uO3 (by(rw [DB.aS,if_pos (by grind)];dsimp only [DB.bM];rw [DB.set_comm _ (by grind),Pd.fJ,Pd.fJ,Pd.rV,Pd.yv,Pd.bk _ _ (by simp only [Mem.bI];exact NK),← Oc,← P4,UX,aq (by have:=f10.aF;omega),P4,Oc];rfl))) (ab (uO2 (by(rw [DB.aS,if_pos (by grind)];dsimp only [DB.bM,DB.gk,DB.bf];(have hb:E2.aF=E.aF:=by rw [P4,Oc];rfl);(have h7:=f1.aF);(have h8:=f1.er);rw [Ol,Pc,N5,bj (x:=E2.aF) (by rw [hb];omega),bj (x:=q) (by grind),hb];rfl))) rfl)) rfl)
end
def own(D:DB)(s:Int):List I64:=if D.fg s then D.Lp s D.S else []
end
end Go.Proofs.YtinhphjfnedhgaaGreatDoor
