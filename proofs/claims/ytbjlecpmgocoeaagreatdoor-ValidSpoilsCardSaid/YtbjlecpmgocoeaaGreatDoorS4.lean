/- ValidSpoils returns true for every input, and each argument reads behind the call as it read before; no condition but that the listed variables read as the row lists them. -/
import Derived.Test.YtbjlecpmgocoeaaGreatDoorS3
import Derived.KernelRfl
set_option linter.unusedVariables false
set_option linter.unusedSimpArgs false
section
set_option maxRecDepth 10000
set_option maxHeartbeats 1000000
namespace Go.Proofs.YtbjlecpmgocoeaaGreatDoor
open Go Go.RowKit V
open Go.IntKind (i64 u32 u64)
theorem lS:S1 Tryz.prog 40 22 (.int .u32 0) 4:=S1.of (by kernel_rfl) (by kernel_rfl) rfl
theorem o8:SN Tryz.prog 40 22 (.int .u32 0) 1 4:=lS.sn
theorem np {w:World}(x:Int)(k:Int)(hk: -31≤k∧k≤ -1):
 Calls Tryz.prog 152 #[(.int .u32 x),(.int .i64 k)] w fun e w'=>∃v,e= .returned v∧v= .int .u32 (kY x (-k))∧Pu w w':=by
 refine jC _ _ ?_
 have hs:=Ik hk
 have hp:=Ch.refl (fun _=>False) w
 rintro _ rfl
 refine jf (by(rw [hs];omega)) (jf (by(rw [IntKind.wrap_u64];omega)) ?_)
 exact⟨congrArg (Value.int .u32) (by rw [hs];exact rot_eq hk),hp⟩
theorem iA {w:World}(wv:Int)(n:Int)(hn:1≤n∧n≤31):
 Calls Tryz.prog 140 #[(.int .u32 wv),(.int .i64 n)] w fun e w'=>∃v,e= .returned v∧v= .int .u32 (kY wv n)∧Pu w w':=by
 refine uz _ _ ?_
 have e0:i64.wrap (0 - n)= -n:=by rw [ah (by omega)];omega
 have hp:=Ch.refl (fun _=>False) w
 refine Calls.mono (np _ _ (by rw [e0];omega)) ?_
 rintro e wv1 ⟨_,rfl,rfl,q_wv1⟩
 refine⟨_,rfl,?_⟩
 have hp:=Ch.pu hp q_wv1
 exact⟨congrArg (Value.int .u32) (by rw [e0,Int.neg_neg]),hp⟩
theorem fv {w:World}(wv:Int)(n:Int)(hn:1≤n∧n≤31):
 Calls Tryz.prog 141 #[(.int .u32 wv),(.int .u64 n)] w fun e w'=>∃v,e= .returned v∧v= .int .u32 (kY wv n)∧Pu w w':=by
 refine rL _ _ ?_
 have e0:u64.wrap (32 - n)=32 - n:=eO (by omega)
 have hp:=Ch.refl (fun _=>False) w
 refine jf (by omega) (jf (by omega) ?_)
 exact⟨congrArg (Value.int .u32) (by rw [e0];rfl),hp⟩
theorem Bc {w:World}(blocka:Int)(blockb:Int)(blockc:Int)(blockd:Int)(blocke:Int)(blockf:Int)(blockg:Int)(blockh:Int)(blocki:Int)(blockj:Int)(blockk:Int)(blockl:Int)(blockm:Int)(blockn:Int)(blocko:Int)(blockp:Int):
 Calls Tryz.prog 139 #[(.agg #[(.int .u32 blocka),(.int .u32 blockb),(.int .u32 blockc),(.int .u32 blockd),(.int .u32 blocke),(.int .u32 blockf),(.int .u32 blockg),(.int .u32 blockh),(.int .u32 blocki),(.int .u32 blockj),(.int .u32 blockk),(.int .u32 blockl),(.int .u32 blockm),(.int .u32 blockn),(.int .u32 blocko),(.int .u32 blockp)])] w fun e w'=>∃v,e= .returned v∧v= .agg (aT (ab [blocka,blockb,blockc,blockd,blocke,blockf,blockg,blockh,blocki,blockj,blockk,blockl,blockm,blockn,blocko,blockp] 48))∧Pu w w':=by
 refine oz _ _ _ _ _ _ _ _ _ _ _ _ _ _ _ _ ?_
 obtain⟨bb,hbb⟩:∃bb,bb= [blocka,blockb,blockc,blockd,blocke,blockf,blockg,blockh,blocki,blockj,blockk,blockl,blockm,blockn,blocko,blockp]:=⟨_,rfl⟩
 have hB:bb.length=16:=by rw [hbb];rfl
 have hp:=Ch.refl (fun _=>False) w
 refine mkd fun gv wv m_gv=>?_
 have b_gv:=m_gv.blk
 have hp:=Ch.made hp m_gv
 refine mkd fun gv1 wv1 m_gv1=>?_
 have lo_gv1:=m_gv1.lo hp
 have ne_gv_gv1:=m_gv1.ne b_gv
 have b_gv1:Blk wv1 gv1 (aT (List.replicate 64 0)) _:=m_gv1.blk.cast (eT _ _)
 have hp:=Ch.made hp m_gv1
 have b_gv:=Made.old m_gv1 b_gv
 refine mkd fun gv2 wv2 m_gv2=>?_
 have lo_gv2:=m_gv2.lo hp
 have ne_gv_gv2:=m_gv2.ne b_gv
 have ne_gv1_gv2:=m_gv2.ne b_gv1
 have b_gv2:Blk wv2 gv2 (aT (List.replicate 64 0)) _:=m_gv2.blk.cast (eT _ _)
 refine⟨bXU [] [] wv2.drew (fun _=>False),?_⟩
 rintro _ rfl _ rfl _ rfl
 rintro _ rfl _ rfl _ rfl
 have b_gv2:=Blk.drew b_gv2
 have b_gv:=Blk.drew (Made.old m_gv2 b_gv)
 have b_gv:Blk wv2.drew gv (aT [blocka,blockb,blockc,blockd,blocke,blockf,blockg,blockh,blocki,blockj,blockk,blockl,blockm,blockn,blocko,blockp]) _:=b_gv.cast (by rfl)
 refine mf lS b_gv2 (o:=0) rfl (by(simp;done)) (cN.I4 (Z:=fun _=>True) b_gv trivial rfl (by(simp;done)) (by(simp;done)) (by(simp;done))) (by(simp;done)) fun wv3 s_wv3=>?_
 have b_gv2:=s_wv3.blk
 refine bXU.grow s_wv3.ch ?_
 rintro _ rfl
 have hp:=Ch.call (Ch.drew (Ch.made hp m_gv2)) s_wv3.ch (by exact fun k e=>.inr (e▸lo_gv2))
 have b_gv:=Ch.blk s_wv3.ch b_gv (ne_gv_gv2)
 have b_gv1:=Ch.blk s_wv3.ch (Blk.drew (Made.old m_gv2 b_gv1)) (ne_gv1_gv2)
 refine⟨fun mz t1 W=>mz=(64 - t1).toNat∧(16≤t1∧t1≤64)∧Ch (fun _=>False) w W∧Blk W gv (aT ([blocka,blockb,blockc,blockd,blocke,blockf,blockg,blockh,blocki,blockj,blockk,blockl,blockm,blockn,blocko,blockp])) 180∧Blk W gv1 (aT (List.replicate 64 0)) 194∧Blk W gv2 (aT (ab bb (t1.toNat - 16))) 194,⟨_,rfl,(by omega),hp,b_gv,b_gv1,b_gv2.cast (congrArg aT (by subst hbb;rfl))⟩,?_⟩
 rintro _ _ t1 wv4 ⟨rfl,h0,hp,b_gv,b_gv1,b_gv2⟩
 refine aB (fun c1=>?_) (fun c1=>?_)
 ·refine⟨by(simp only [IntKind.wrap_i64];omega),?_⟩
  have b_gv2:=Blk.drew b_gv2
  refine⟨_,b_gv2.fP (i:=(i64.wrap (t1 - 15))) (by(rw [bR hB];simp only [IntKind.wrap_i64];omega)),⟨by(simp only [IntKind.wrap_i64];omega),⟨_,b_gv2.fP (i:=(i64.wrap (t1 - 2))) (by(rw [bR hB];simp only [IntKind.wrap_i64];omega)),?_⟩⟩⟩
  refine⟨bXU [4,17] [] wv4.drew.drew (fun _=>False),?_⟩
  have b_gv2:=Blk.drew b_gv2
  refine⟨by(simp only [IntKind.wrap_i64];omega),⟨.inr ⟨by decide,bX.ld b_gv2 (fun h=>h) _⟩,_,b_gv2.fP (i:=(i64.wrap (t1 - 16))) (by(rw [bR hB];simp only [IntKind.wrap_i64];omega)),⟨by(simp only [IntKind.wrap_i64];omega),⟨.inr ⟨by decide,bX.ld b_gv2 (fun h=>h) _⟩,_,b_gv2.fP (i:=(i64.wrap (t1 - 7))) (by(rw [bR hB];simp only [IntKind.wrap_i64];omega)),?_⟩⟩⟩⟩
  refine Calls.mono (iA _ _ (by omega)) ?_
  rintro e wv5 ⟨_,rfl,rfl,q_wv5⟩
  refine⟨_,rfl,?_⟩
  refine bXU.cF q_wv5 (by decide) ?_
  refine Calls.mono (iA _ _ (by omega)) ?_
  rintro e wv6 ⟨_,rfl,rfl,q_wv6⟩
  refine⟨_,rfl,?_⟩
  refine bXU.cF q_wv6 (by decide) ?_
  refine Calls.mono (iA _ _ (by omega)) ?_
  rintro e wv7 ⟨_,rfl,rfl,q_wv7⟩
  refine⟨_,rfl,?_⟩
  refine bXU.cF q_wv7 (by decide) ?_
  refine Calls.mono (iA _ _ (by omega)) ?_
  rintro e wv8 ⟨_,rfl,rfl,q_wv8⟩
  refine⟨_,rfl,?_⟩
  refine bXU.cF q_wv8 (by decide) ?_
  have b_gv2:=Pu.blk q_wv8 (Pu.blk q_wv7 (Pu.blk q_wv6 (Pu.blk q_wv5 b_gv2)))
  refine⟨by omega,je b_gv2 (by(rw [bR hB];omega)) fun wv9 s_wv9=>?_⟩
  have b_gv2:=s_wv9.blk
  refine bXU.grow s_wv9.ch ?_
  rintro _ rfl
  have hp:=Ch.call (Ch.pu (Ch.pu (Ch.pu (Ch.pu (Ch.drew (Ch.drew hp)) q_wv5) q_wv6) q_wv7) q_wv8) s_wv9.ch (by exact fun k e=>.inr (e▸lo_gv2))
  have b_gv:=Ch.blk s_wv9.ch (Pu.blk q_wv8 (Pu.blk q_wv7 (Pu.blk q_wv6 (Pu.blk q_wv5 (Blk.drew (Blk.drew b_gv)))))) (ne_gv_gv2)
  have b_gv1:=Ch.blk s_wv9.ch (Pu.blk q_wv8 (Pu.blk q_wv7 (Pu.blk q_wv6 (Pu.blk q_wv5 (Blk.drew (Blk.drew b_gv1)))))) (ne_gv1_gv2)
  exact⟨_,by rw [IntKind.wrap_i64];omega,rfl,by rw [IntKind.wrap_i64];omega,hp,b_gv,b_gv1,b_gv2.cast (congrArg aT (by exact nP (by omega)))⟩
 ·refine⟨aT (ab bb (t1.toNat - 16)),b_gv2.mV (by(simp [bR hB];done)),⟨by rw [dY];(simp [bR hB];done),pB,ki b_gv1 (by(simp [bR hB];done)) fun wv5 s_wv5=>?_⟩⟩
  have b_gv1:=s_wv5.blk
  refine⟨aT (ab bb (t1.toNat - 16)),b_gv1.mV (by(simp [bR hB];done)),?_⟩
  have hp:=Ch.call hp s_wv5.ch (by exact fun k e=>.inr (e▸lo_gv1))
  exact⟨congrArg (fun l=>Value.agg (aT l)) (by have:t1=64:=(by omega);subst this;rw [← hbb];rfl),hp⟩
theorem Hk {K:List Int} {w:World}(hk:fT w 1 K)(statea:Int)(stateb:Int)(statec:Int)(stated:Int)(statee:Int)(statef:Int)(stateg:Int)(stateh:Int)(blocka:Int)(blockb:Int)(blockc:Int)(blockd:Int)(blocke:Int)(blockf:Int)(blockg:Int)(blockh:Int)(blocki:Int)(blockj:Int)(blockk:Int)(blockl:Int)(blockm:Int)(blockn:Int)(blocko:Int)(blockp:Int):
 Calls Tryz.prog 117 #[(.agg #[(.int .u32 statea),(.int .u32 stateb),(.int .u32 statec),(.int .u32 stated),(.int .u32 statee),(.int .u32 statef),(.int .u32 stateg),(.int .u32 stateh)]),(.agg #[(.int .u32 blocka),(.int .u32 blockb),(.int .u32 blockc),(.int .u32 blockd),(.int .u32 blocke),(.int .u32 blockf),(.int .u32 blockg),(.int .u32 blockh),(.int .u32 blocki),(.int .u32 blockj),(.int .u32 blockk),(.int .u32 blockl),(.int .u32 blockm),(.int .u32 blockn),(.int .u32 blocko),(.int .u32 blockp)])] w fun e w'=>∃v,e= .returned v∧v= .agg #[(.int .u32 ((cV K (S8.mk statea stateb statec stated statee statef stateg stateh) [blocka,blockb,blockc,blockd,blocke,blockf,blockg,blockh,blocki,blockj,blockk,blockl,blockm,blockn,blocko,blockp]).a)),(.int .u32 ((cV K (S8.mk statea stateb statec stated statee statef stateg stateh) [blocka,blockb,blockc,blockd,blocke,blockf,blockg,blockh,blocki,blockj,blockk,blockl,blockm,blockn,blocko,blockp]).b)),(.int .u32 ((cV K (S8.mk statea stateb statec stated statee statef stateg stateh) [blocka,blockb,blockc,blockd,blocke,blockf,blockg,blockh,blocki,blockj,blockk,blockl,blockm,blockn,blocko,blockp]).c)),(.int .u32 ((cV K (S8.mk statea stateb statec stated statee statef stateg stateh) [blocka,blockb,blockc,blockd,blocke,blockf,blockg,blockh,blocki,blockj,blockk,blockl,blockm,blockn,blocko,blockp]).d)),(.int .u32 ((cV K (S8.mk statea stateb statec stated statee statef stateg stateh) [blocka,blockb,blockc,blockd,blocke,blockf,blockg,blockh,blocki,blockj,blockk,blockl,blockm,blockn,blocko,blockp]).e)),(.int .u32 ((cV K (S8.mk statea stateb statec stated statee statef stateg stateh) [blocka,blockb,blockc,blockd,blocke,blockf,blockg,blockh,blocki,blockj,blockk,blockl,blockm,blockn,blocko,blockp]).f)),(.int .u32 ((cV K (S8.mk statea stateb statec stated statee statef stateg stateh) [blocka,blockb,blockc,blockd,blocke,blockf,blockg,blockh,blocki,blockj,blockk,blockl,blockm,blockn,blocko,blockp]).g)),(.int .u32 ((cV K (S8.mk statea stateb statec stated statee statef stateg stateh) [blocka,blockb,blockc,blockd,blocke,blockf,blockg,blockh,blocki,blockj,blockk,blockl,blockm,blockn,blocko,blockp]).h))]∧Pu w w':=by
 refine uC _ _ _ _ _ _ _ _ _ _ _ _ _ _ _ _ _ _ _ _ _ _ _ _ ?_
 obtain⟨bb,hbb⟩:∃bb,bb= [blocka,blockb,blockc,blockd,blocke,blockf,blockg,blockh,blocki,blockj,blockk,blockl,blockm,blockn,blocko,blockp]:=⟨_,rfl⟩
 have hB:bb.length=16:=by rw [hbb];rfl
 obtain⟨ss,hss⟩:∃ss,ss=(S8.mk statea stateb statec stated statee statef stateg stateh):=⟨_,rfl⟩
 have hp:=Ch.refl (fun _=>False) w
 have lt_hk:=hk.lt
 refine mkd fun gv wv m_gv=>?_
 have b_gv:=m_gv.blk
 refine mkd fun gv1 wv1 m_gv1=>?_
 have b_gv1:=m_gv1.blk
 have hp:=Ch.made (Ch.made hp m_gv) m_gv1
 have b_gv:=Made.old m_gv1 b_gv
 refine mkd fun gv2 wv2 m_gv2=>?_
 have lo_gv2:=m_gv2.lo hp
 have ne_gv_gv2:=m_gv2.ne b_gv
 have ne_gv1_gv2:=m_gv2.ne b_gv1
 have b_gv2:=m_gv2.blk
 have b_gv:=Made.old m_gv2 b_gv
 refine⟨_,_,_,_,_,_,_,_,⟨b_gv.at rfl,b_gv.at rfl,b_gv.at rfl,b_gv.at rfl,b_gv.at rfl,b_gv.at rfl,b_gv.at rfl,b_gv.at rfl⟩,?_⟩
 have hp:=Ch.made hp m_gv2
 have b_gv1:=Made.old m_gv2 b_gv1
 refine mkd fun gv3 wv3 m_gv3=>?_
 have lo_gv3:=m_gv3.lo hp
 have ne_gv_gv3:=m_gv3.ne b_gv
 have ne_gv1_gv3:=m_gv3.ne b_gv1
 have ne_gv2_gv3:=m_gv3.ne b_gv2
 have b_gv3:=m_gv3.blk
 refine cq b_gv3 rfl fun wv4 s_wv4=>?_
 have b_gv3:=s_wv4.blk
 have b_gv1:=Ch.blk s_wv4.ch (Made.old m_gv3 b_gv1) (ne_gv1_gv3)
 refine⟨_,_,_,_,_,_,_,_,_,_,_,_,_,_,_,_,⟨b_gv1.at rfl,b_gv1.at rfl,b_gv1.at rfl,b_gv1.at rfl,b_gv1.at rfl,b_gv1.at rfl,b_gv1.at rfl,b_gv1.at rfl,b_gv1.at rfl,b_gv1.at rfl,b_gv1.at rfl,b_gv1.at rfl,b_gv1.at rfl,b_gv1.at rfl,b_gv1.at rfl,b_gv1.at rfl⟩,?_⟩
 refine Calls.mono (Bc _ _ _ _ _ _ _ _ _ _ _ _ _ _ _ _) ?_
 rintro e wv5 ⟨_,rfl,rfl,q_wv5⟩
 refine⟨_,rfl,?_⟩
 have hp:=Ch.pu (Ch.call (Ch.made hp m_gv3) s_wv4.ch (by exact fun k e=>.inr (e▸lo_gv3))) q_wv5
 have hk:=(((((hk.pu m_gv.pu).pu m_gv1.pu).pu m_gv2.pu).pu m_gv3.pu).ch s_wv4.ch (fun k hx e=>(fun hx=>absurd (lt_hk _ hx) (Nat.not_lt.2 lo_gv3)) (e▸hx))).pu q_wv5
 have b_gv:=Pu.blk q_wv5 (Ch.blk s_wv4.ch (Made.old m_gv3 b_gv) (ne_gv_gv3))
 have b_gv1:=Pu.blk q_wv5 b_gv1
 have b_gv2:=Pu.blk q_wv5 (Ch.blk s_wv4.ch (Made.old m_gv3 b_gv2) (ne_gv2_gv3))
 have b_gv3:=Pu.blk q_wv5 b_gv3
 refine⟨fun mz x16 W=>mz=(64 - x16).toNat∧(0≤x16∧x16≤64)∧Ch (fun _=>False) w W∧fT W 1 K∧Blk W gv #[(.int .u32 statea),(.int .u32 stateb),(.int .u32 statec),(.int .u32 stated),(.int .u32 statee),(.int .u32 statef),(.int .u32 stateg),(.int .u32 stateh)] 128∧Blk W gv1 #[(.int .u32 blocka),(.int .u32 blockb),(.int .u32 blockc),(.int .u32 blockd),(.int .u32 blocke),(.int .u32 blockf),(.int .u32 blockg),(.int .u32 blockh),(.int .u32 blocki),(.int .u32 blockj),(.int .u32 blockk),(.int .u32 blockl),(.int .u32 blockm),(.int .u32 blockn),(.int .u32 blocko),(.int .u32 blockp)] 180∧Blk W gv2 #[(.int .u32 0),(.int .u32 0),(.int .u32 0),(.int .u32 0),(.int .u32 0),(.int .u32 0),(.int .u32 0),(.int .u32 0)] 128∧Blk W gv3 #[(.int .u32 ((ar K (ab bb 48) ss x16.toNat).a)),(.int .u32 ((ar K (ab bb 48) ss x16.toNat).b)),(.int .u32 ((ar K (ab bb 48) ss x16.toNat).c)),(.int .u32 ((ar K (ab bb 48) ss x16.toNat).d)),(.int .u32 ((ar K (ab bb 48) ss x16.toNat).e)),(.int .u32 ((ar K (ab bb 48) ss x16.toNat).f)),(.int .u32 ((ar K (ab bb 48) ss x16.toNat).g)),(.int .u32 ((ar K (ab bb 48) ss x16.toNat).h))] 128,⟨_,rfl,(by omega),hp,hk,b_gv,b_gv1,b_gv2,b_gv3.cast (wq (congrArg (Value.int .u32) (by subst hss;rfl)) (congrArg (Value.int .u32) (by subst hss;rfl)) (congrArg (Value.int .u32) (by subst hss;rfl)) (congrArg (Value.int .u32) (by subst hss;rfl)) (congrArg (Value.int .u32) (by subst hss;rfl)) (congrArg (Value.int .u32) (by subst hss;rfl)) (congrArg (Value.int .u32) (by subst hss;rfl)) (congrArg (Value.int .u32) (by subst hss;rfl)))⟩,?_⟩
 rintro _ _ x16 wv6 ⟨rfl,h0,hp,hk,b_gv,b_gv1,b_gv2,b_gv3⟩
 refine aB (fun c1=>?_) (fun c1=>?_)
 ·refine⟨by omega,⟨_,vj (l:=(ab [blocka,blockb,blockc,blockd,blocke,blockf,blockg,blockh,blocki,blockj,blockk,blockl,blockm,blockn,blocko,blockp] 48)) (i:=x16) (by(rw [bR rfl];omega)),⟨by decide,?_⟩⟩⟩
  have b_gv3:=Blk.drew b_gv3
  refine⟨_,b_gv3.at rfl,⟨by decide,⟨_,b_gv3.at rfl,?_⟩⟩⟩
  refine⟨bXU [1,13,18,24] [] wv6.drew.drew (fun _=>False),?_⟩
  have b_gv3:=Blk.drew b_gv3
  have hk:=(hk.pu (Pu.aI _)).pu (Pu.aI _)
  obtain⟨_,drow_hk⟩:=hk.blk
  refine⟨by decide,⟨.inr ⟨by decide,bX.ld b_gv3 (fun h=>h) _⟩,_,b_gv3.at rfl,⟨by decide,⟨.inr ⟨by decide,bX.ld b_gv3 (fun h=>h) _⟩,_,b_gv3.at rfl,⟨by decide,⟨.inr ⟨by decide,bX.ld b_gv3 (fun h=>h) _⟩,_,b_gv3.at rfl,⟨by omega,⟨.inr ⟨by decide,bX.ld drow_hk (fun h=>h) _⟩,_,drow_hk.fP (i:=x16) (by(have h9:=hk.len;omega)),?_⟩⟩⟩⟩⟩⟩⟩⟩
  refine Calls.mono (iA _ _ (by omega)) ?_
  rintro e wv7 ⟨_,rfl,rfl,q_wv7⟩
  refine⟨_,rfl,?_⟩
  refine bXU.cF q_wv7 (by decide) ?_
  refine Calls.mono (iA _ _ (by omega)) ?_
  rintro e wv8 ⟨_,rfl,rfl,q_wv8⟩
  refine⟨_,rfl,?_⟩
  refine bXU.cF q_wv8 (by decide) ?_
  refine Calls.mono (iA _ _ (by omega)) ?_
  rintro e wv9 ⟨_,rfl,rfl,q_wv9⟩
  refine⟨_,rfl,?_⟩
  refine bXU.cF q_wv9 (by decide) ?_
  rintro _ rfl
  refine⟨bXU [10,14,18,20] [] wv9.drew (fun _=>False),?_⟩
  have b_gv3:=Blk.drew (Pu.blk q_wv9 (Pu.blk q_wv8 (Pu.blk q_wv7 b_gv3)))
  refine⟨by decide,⟨.inr ⟨by decide,bX.ld b_gv3 (fun h=>h) _⟩,_,b_gv3.at rfl,⟨by decide,⟨.inr ⟨by decide,bX.ld b_gv3 (fun h=>h) _⟩,_,b_gv3.at rfl,⟨by decide,⟨.inr ⟨by decide,bX.ld b_gv3 (fun h=>h) _⟩,_,b_gv3.at rfl,⟨by decide,⟨.inr ⟨by decide,bX.ld b_gv3 (fun h=>h) _⟩,_,b_gv3.at rfl,?_⟩⟩⟩⟩⟩⟩⟩⟩
  refine Calls.mono (iA _ _ (by omega)) ?_
  rintro e wv10 ⟨_,rfl,rfl,q_wv10⟩
  refine⟨_,rfl,?_⟩
  refine bXU.cF q_wv10 (by decide) ?_
  refine Calls.mono (iA _ _ (by omega)) ?_
  rintro e wv11 ⟨_,rfl,rfl,q_wv11⟩
  refine⟨_,rfl,?_⟩
  refine bXU.cF q_wv11 (by decide) ?_
  refine Calls.mono (iA _ _ (by omega)) ?_
  rintro e wv12 ⟨_,rfl,rfl,q_wv12⟩
  refine⟨_,rfl,?_⟩
  refine bXU.cF q_wv12 (by decide) ?_
  rintro _ rfl
  have b_gv3:=Pu.blk q_wv12 (Pu.blk q_wv11 (Pu.blk q_wv10 b_gv3))
  refine⟨by decide,⟨_,b_gv3.at rfl,⟨by decide,⟨_,b_gv3.at rfl,⟨by decide,⟨_,b_gv3.at rfl,⟨by decide,⟨_,b_gv3.at rfl,⟨by decide,⟨_,b_gv3.at rfl,⟨by decide,⟨_,b_gv3.at rfl,⟨by decide,⟨_,b_gv3.at rfl,cq b_gv3 rfl fun wv13 s_wv13=>?_⟩⟩⟩⟩⟩⟩⟩⟩⟩⟩⟩⟩⟩⟩
  have b_gv3:=s_wv13.blk
  have hp:=Ch.call (Ch.pu (Ch.pu (Ch.pu (Ch.drew (Ch.pu (Ch.pu (Ch.pu (Ch.drew (Ch.drew hp)) q_wv7) q_wv8) q_wv9)) q_wv10) q_wv11) q_wv12) s_wv13.ch (by exact fun k e=>.inr (e▸lo_gv3))
  have hk:=(((((((hk.pu q_wv7).pu q_wv8).pu q_wv9).pu (Pu.aI _)).pu q_wv10).pu q_wv11).pu q_wv12).ch s_wv13.ch (fun k hx e=>(fun hx=>absurd (lt_hk _ hx) (Nat.not_lt.2 lo_gv3)) (e▸hx))
  have b_gv:=Ch.blk s_wv13.ch (Pu.blk q_wv12 (Pu.blk q_wv11 (Pu.blk q_wv10 (Blk.drew (Pu.blk q_wv9 (Pu.blk q_wv8 (Pu.blk q_wv7 (Blk.drew (Blk.drew b_gv))))))))) (ne_gv_gv3)
  have b_gv1:=Ch.blk s_wv13.ch (Pu.blk q_wv12 (Pu.blk q_wv11 (Pu.blk q_wv10 (Blk.drew (Pu.blk q_wv9 (Pu.blk q_wv8 (Pu.blk q_wv7 (Blk.drew (Blk.drew b_gv1))))))))) (ne_gv1_gv3)
  have b_gv2:=Ch.blk s_wv13.ch (Pu.blk q_wv12 (Pu.blk q_wv11 (Pu.blk q_wv10 (Blk.drew (Pu.blk q_wv9 (Pu.blk q_wv8 (Pu.blk q_wv7 (Blk.drew (Blk.drew b_gv2))))))))) (ne_gv2_gv3)
  exact⟨_,by rw [IntKind.wrap_i64];omega,rfl,by rw [IntKind.wrap_i64];omega,hp,hk,b_gv,b_gv1,b_gv2,b_gv3.cast (wq (congrArg (Value.int .u32) (by rw [bM (by omega),hbb];rfl)) (congrArg (Value.int .u32) (by rw [bM (by omega),hbb];rfl)) (congrArg (Value.int .u32) (by rw [bM (by omega),hbb];rfl)) (congrArg (Value.int .u32) (by rw [bM (by omega),hbb];rfl)) (congrArg (Value.int .u32) (by rw [bM (by omega),hbb];rfl)) (congrArg (Value.int .u32) (by rw [bM (by omega),hbb];rfl)) (congrArg (Value.int .u32) (by rw [bM (by omega),hbb];rfl)) (congrArg (Value.int .u32) (by rw [bM (by omega),hbb];rfl)))⟩
 ·have e64:x16.toNat=64:=by omega
  rw [e64]at b_gv3
  refine⟨fun mz x97 W=>Ch (fun _=>False) w W∧fT W 1 K∧(∃T,Blk W gv #[(.int .u32 statea),(.int .u32 stateb),(.int .u32 statec),(.int .u32 stated),(.int .u32 statee),(.int .u32 statef),(.int .u32 stateg),(.int .u32 stateh)] T)∧(∃T,Blk W gv1 #[(.int .u32 blocka),(.int .u32 blockb),(.int .u32 blockc),(.int .u32 blockd),(.int .u32 blocke),(.int .u32 blockf),(.int .u32 blockg),(.int .u32 blockh),(.int .u32 blocki),(.int .u32 blockj),(.int .u32 blockk),(.int .u32 blockl),(.int .u32 blockm),(.int .u32 blockn),(.int .u32 blocko),(.int .u32 blockp)] T)∧(∃T,Blk W gv2 #[(.int .u32 0),(.int .u32 0),(.int .u32 0),(.int .u32 0),(.int .u32 0),(.int .u32 0),(.int .u32 0),(.int .u32 0)] T)∧((mz=8∧x97=0∧(∃T,Blk W gv3 #[(.int .u32 ((ar K (ab bb 48) ss 64).a)),(.int .u32 ((ar K (ab bb 48) ss 64).b)),(.int .u32 ((ar K (ab bb 48) ss 64).c)),(.int .u32 ((ar K (ab bb 48) ss 64).d)),(.int .u32 ((ar K (ab bb 48) ss 64).e)),(.int .u32 ((ar K (ab bb 48) ss 64).f)),(.int .u32 ((ar K (ab bb 48) ss 64).g)),(.int .u32 ((ar K (ab bb 48) ss 64).h))] T))∨(mz=7∧x97=1∧(∃T,Blk W gv3 #[(.int .u32 (aC (ar K (ab bb 48) ss 64).a statea)),(.int .u32 ((ar K (ab bb 48) ss 64).b)),(.int .u32 ((ar K (ab bb 48) ss 64).c)),(.int .u32 ((ar K (ab bb 48) ss 64).d)),(.int .u32 ((ar K (ab bb 48) ss 64).e)),(.int .u32 ((ar K (ab bb 48) ss 64).f)),(.int .u32 ((ar K (ab bb 48) ss 64).g)),(.int .u32 ((ar K (ab bb 48) ss 64).h))] T))∨(mz=6∧x97=2∧(∃T,Blk W gv3 #[(.int .u32 (aC (ar K (ab bb 48) ss 64).a statea)),(.int .u32 (aC (ar K (ab bb 48) ss 64).b stateb)),(.int .u32 ((ar K (ab bb 48) ss 64).c)),(.int .u32 ((ar K (ab bb 48) ss 64).d)),(.int .u32 ((ar K (ab bb 48) ss 64).e)),(.int .u32 ((ar K (ab bb 48) ss 64).f)),(.int .u32 ((ar K (ab bb 48) ss 64).g)),(.int .u32 ((ar K (ab bb 48) ss 64).h))] T))∨(mz=5∧x97=3∧(∃T,Blk W gv3 #[(.int .u32 (aC (ar K (ab bb 48) ss 64).a statea)),(.int .u32 (aC (ar K (ab bb 48) ss 64).b stateb)),(.int .u32 (aC (ar K (ab bb 48) ss 64).c statec)),(.int .u32 ((ar K (ab bb 48) ss 64).d)),(.int .u32 ((ar K (ab bb 48) ss 64).e)),(.int .u32 ((ar K (ab bb 48) ss 64).f)),(.int .u32 ((ar K (ab bb 48) ss 64).g)),(.int .u32 ((ar K (ab bb 48) ss 64).h))] T))∨(mz=4∧x97=4∧(∃T,Blk W gv3 #[(.int .u32 (aC (ar K (ab bb 48) ss 64).a statea)),(.int .u32 (aC (ar K (ab bb 48) ss 64).b stateb)),(.int .u32 (aC (ar K (ab bb 48) ss 64).c statec)),(.int .u32 (aC (ar K (ab bb 48) ss 64).d stated)),(.int .u32 ((ar K (ab bb 48) ss 64).e)),(.int .u32 ((ar K (ab bb 48) ss 64).f)),(.int .u32 ((ar K (ab bb 48) ss 64).g)),(.int .u32 ((ar K (ab bb 48) ss 64).h))] T))∨(mz=3∧x97=5∧(∃T,Blk W gv3 #[(.int .u32 (aC (ar K (ab bb 48) ss 64).a statea)),(.int .u32 (aC (ar K (ab bb 48) ss 64).b stateb)),(.int .u32 (aC (ar K (ab bb 48) ss 64).c statec)),(.int .u32 (aC (ar K (ab bb 48) ss 64).d stated)),(.int .u32 (aC (ar K (ab bb 48) ss 64).e statee)),(.int .u32 ((ar K (ab bb 48) ss 64).f)),(.int .u32 ((ar K (ab bb 48) ss 64).g)),(.int .u32 ((ar K (ab bb 48) ss 64).h))] T))∨(mz=2∧x97=6∧(∃T,Blk W gv3 #[(.int .u32 (aC (ar K (ab bb 48) ss 64).a statea)),(.int .u32 (aC (ar K (ab bb 48) ss 64).b stateb)),(.int .u32 (aC (ar K (ab bb 48) ss 64).c statec)),(.int .u32 (aC (ar K (ab bb 48) ss 64).d stated)),(.int .u32 (aC (ar K (ab bb 48) ss 64).e statee)),(.int .u32 (aC (ar K (ab bb 48) ss 64).f statef)),(.int .u32 ((ar K (ab bb 48) ss 64).g)),(.int .u32 ((ar K (ab bb 48) ss 64).h))] T))∨(mz=1∧x97=7∧(∃T,Blk W gv3 #[(.int .u32 (aC (ar K (ab bb 48) ss 64).a statea)),(.int .u32 (aC (ar K (ab bb 48) ss 64).b stateb)),(.int .u32 (aC (ar K (ab bb 48) ss 64).c statec)),(.int .u32 (aC (ar K (ab bb 48) ss 64).d stated)),(.int .u32 (aC (ar K (ab bb 48) ss 64).e statee)),(.int .u32 (aC (ar K (ab bb 48) ss 64).f statef)),(.int .u32 (aC (ar K (ab bb 48) ss 64).g stateg)),(.int .u32 ((ar K (ab bb 48) ss 64).h))] T))∨(mz=0∧x97=8∧(∃T,Blk W gv3 #[(.int .u32 (aC (ar K (ab bb 48) ss 64).a statea)),(.int .u32 (aC (ar K (ab bb 48) ss 64).b stateb)),(.int .u32 (aC (ar K (ab bb 48) ss 64).c statec)),(.int .u32 (aC (ar K (ab bb 48) ss 64).d stated)),(.int .u32 (aC (ar K (ab bb 48) ss 64).e statee)),(.int .u32 (aC (ar K (ab bb 48) ss 64).f statef)),(.int .u32 (aC (ar K (ab bb 48) ss 64).g stateg)),(.int .u32 (aC (ar K (ab bb 48) ss 64).h stateh))] T))),⟨_,hp,hk,⟨_,b_gv⟩,⟨_,b_gv1⟩,⟨_,b_gv2⟩,.inl ⟨rfl,rfl,⟨_,b_gv3⟩⟩⟩,?_⟩
  rintro _ _ x97 wv7 ⟨hp,hk,⟨_,b_gv⟩,⟨_,b_gv1⟩,⟨_,b_gv2⟩,hU⟩
  rcases hU with⟨rfl,rfl,⟨_,b_gv3⟩⟩ | ⟨rfl,rfl,⟨_,b_gv3⟩⟩ | ⟨rfl,rfl,⟨_,b_gv3⟩⟩ | ⟨rfl,rfl,⟨_,b_gv3⟩⟩ | ⟨rfl,rfl,⟨_,b_gv3⟩⟩ | ⟨rfl,rfl,⟨_,b_gv3⟩⟩ | ⟨rfl,rfl,⟨_,b_gv3⟩⟩ | ⟨rfl,rfl,⟨_,b_gv3⟩⟩ | ⟨rfl,rfl,⟨_,b_gv3⟩⟩
  ·refine bk ?_
   refine⟨bXU [] [2,5] wv7.drew (fun _=>False),?_⟩
   have b_gv3:=Blk.drew b_gv3
   have b_gv:=Blk.drew b_gv
   refine⟨by decide,⟨.inl (by decide),_,b_gv3.at rfl,⟨by decide,⟨.inl (by decide),_,b_gv.at rfl,⟨by decide,aM b_gv3 (by simp) fun wv8 s_wv8=>?_⟩⟩⟩⟩⟩
   have b_gv3:Blk wv8 gv3 #[_,(.int .u32 ((ar K (ab bb 48) ss 64).b)),(.int .u32 ((ar K (ab bb 48) ss 64).c)),(.int .u32 ((ar K (ab bb 48) ss 64).d)),(.int .u32 ((ar K (ab bb 48) ss 64).e)),(.int .u32 ((ar K (ab bb 48) ss 64).f)),(.int .u32 ((ar K (ab bb 48) ss 64).g)),(.int .u32 ((ar K (ab bb 48) ss 64).h))] _:=s_wv8.blk
   refine bXU.grow s_wv8.ch ?_
   have hp:=Ch.call (Ch.drew hp) s_wv8.ch (by exact fun k e=>.inr (e▸lo_gv3))
   have hk:=(hk.pu (Pu.aI _)).ch s_wv8.ch (fun k hx e=>(fun hx=>absurd (lt_hk _ hx) (Nat.not_lt.2 lo_gv3)) (e▸hx))
   have b_gv:=Ch.blk s_wv8.ch b_gv (ne_gv_gv3)
   have b_gv1:=Ch.blk s_wv8.ch (Blk.drew b_gv1) (ne_gv1_gv3)
   have b_gv2:=Ch.blk s_wv8.ch (Blk.drew b_gv2) (ne_gv2_gv3)
   exact⟨7,by decide,hp,hk,⟨_,b_gv⟩,⟨_,b_gv1⟩,⟨_,b_gv2⟩,.inr (.inl ⟨rfl,rfl,⟨_,b_gv3⟩⟩)⟩
  ·refine bk ?_
   refine⟨bXU [] [2,5] wv7.drew (fun _=>False),?_⟩
   have b_gv3:=Blk.drew b_gv3
   have b_gv:=Blk.drew b_gv
   refine⟨by decide,⟨.inl (by decide),_,b_gv3.at rfl,⟨by decide,⟨.inl (by decide),_,b_gv.at rfl,⟨by decide,aM b_gv3 (by simp) fun wv8 s_wv8=>?_⟩⟩⟩⟩⟩
   have b_gv3:Blk wv8 gv3 #[(.int .u32 (aC (ar K (ab bb 48) ss 64).a statea)),_,(.int .u32 ((ar K (ab bb 48) ss 64).c)),(.int .u32 ((ar K (ab bb 48) ss 64).d)),(.int .u32 ((ar K (ab bb 48) ss 64).e)),(.int .u32 ((ar K (ab bb 48) ss 64).f)),(.int .u32 ((ar K (ab bb 48) ss 64).g)),(.int .u32 ((ar K (ab bb 48) ss 64).h))] _:=s_wv8.blk
   refine bXU.grow s_wv8.ch ?_
   have hp:=Ch.call (Ch.drew hp) s_wv8.ch (by exact fun k e=>.inr (e▸lo_gv3))
   have hk:=(hk.pu (Pu.aI _)).ch s_wv8.ch (fun k hx e=>(fun hx=>absurd (lt_hk _ hx) (Nat.not_lt.2 lo_gv3)) (e▸hx))
   have b_gv:=Ch.blk s_wv8.ch b_gv (ne_gv_gv3)
   have b_gv1:=Ch.blk s_wv8.ch (Blk.drew b_gv1) (ne_gv1_gv3)
   have b_gv2:=Ch.blk s_wv8.ch (Blk.drew b_gv2) (ne_gv2_gv3)
   exact⟨6,by decide,hp,hk,⟨_,b_gv⟩,⟨_,b_gv1⟩,⟨_,b_gv2⟩,.inr (.inr (.inl ⟨rfl,rfl,⟨_,b_gv3⟩⟩))⟩
  ·refine bk ?_
   refine⟨bXU [] [2,5] wv7.drew (fun _=>False),?_⟩
   have b_gv3:=Blk.drew b_gv3
   have b_gv:=Blk.drew b_gv
   refine⟨by decide,⟨.inl (by decide),_,b_gv3.at rfl,⟨by decide,⟨.inl (by decide),_,b_gv.at rfl,⟨by decide,aM b_gv3 (by simp) fun wv8 s_wv8=>?_⟩⟩⟩⟩⟩
   have b_gv3:Blk wv8 gv3 #[(.int .u32 (aC (ar K (ab bb 48) ss 64).a statea)),(.int .u32 (aC (ar K (ab bb 48) ss 64).b stateb)),_,(.int .u32 ((ar K (ab bb 48) ss 64).d)),(.int .u32 ((ar K (ab bb 48) ss 64).e)),(.int .u32 ((ar K (ab bb 48) ss 64).f)),(.int .u32 ((ar K (ab bb 48) ss 64).g)),(.int .u32 ((ar K (ab bb 48) ss 64).h))] _:=s_wv8.blk
   refine bXU.grow s_wv8.ch ?_
   have hp:=Ch.call (Ch.drew hp) s_wv8.ch (by exact fun k e=>.inr (e▸lo_gv3))
   have hk:=(hk.pu (Pu.aI _)).ch s_wv8.ch (fun k hx e=>(fun hx=>absurd (lt_hk _ hx) (Nat.not_lt.2 lo_gv3)) (e▸hx))
   have b_gv:=Ch.blk s_wv8.ch b_gv (ne_gv_gv3)
   have b_gv1:=Ch.blk s_wv8.ch (Blk.drew b_gv1) (ne_gv1_gv3)
   have b_gv2:=Ch.blk s_wv8.ch (Blk.drew b_gv2) (ne_gv2_gv3)
   exact⟨5,by decide,hp,hk,⟨_,b_gv⟩,⟨_,b_gv1⟩,⟨_,b_gv2⟩,.inr (.inr (.inr (.inl ⟨rfl,rfl,⟨_,b_gv3⟩⟩)))⟩
  ·refine bk ?_
   refine⟨bXU [] [2,5] wv7.drew (fun _=>False),?_⟩
   have b_gv3:=Blk.drew b_gv3
   have b_gv:=Blk.drew b_gv
   refine⟨by decide,⟨.inl (by decide),_,b_gv3.at rfl,⟨by decide,⟨.inl (by decide),_,b_gv.at rfl,⟨by decide,aM b_gv3 (by simp) fun wv8 s_wv8=>?_⟩⟩⟩⟩⟩
   have b_gv3:Blk wv8 gv3 #[(.int .u32 (aC (ar K (ab bb 48) ss 64).a statea)),(.int .u32 (aC (ar K (ab bb 48) ss 64).b stateb)),(.int .u32 (aC (ar K (ab bb 48) ss 64).c statec)),_,(.int .u32 ((ar K (ab bb 48) ss 64).e)),(.int .u32 ((ar K (ab bb 48) ss 64).f)),(.int .u32 ((ar K (ab bb 48) ss 64).g)),(.int .u32 ((ar K (ab bb 48) ss 64).h))] _:=s_wv8.blk
   refine bXU.grow s_wv8.ch ?_
   have hp:=Ch.call (Ch.drew hp) s_wv8.ch (by exact fun k e=>.inr (e▸lo_gv3))
   have hk:=(hk.pu (Pu.aI _)).ch s_wv8.ch (fun k hx e=>(fun hx=>absurd (lt_hk _ hx) (Nat.not_lt.2 lo_gv3)) (e▸hx))
   have b_gv:=Ch.blk s_wv8.ch b_gv (ne_gv_gv3)
   have b_gv1:=Ch.blk s_wv8.ch (Blk.drew b_gv1) (ne_gv1_gv3)
   have b_gv2:=Ch.blk s_wv8.ch (Blk.drew b_gv2) (ne_gv2_gv3)
   exact⟨4,by decide,hp,hk,⟨_,b_gv⟩,⟨_,b_gv1⟩,⟨_,b_gv2⟩,.inr (.inr (.inr (.inr (.inl ⟨rfl,rfl,⟨_,b_gv3⟩⟩))))⟩
  ·refine bk ?_
   refine⟨bXU [] [2,5] wv7.drew (fun _=>False),?_⟩
   have b_gv3:=Blk.drew b_gv3
   have b_gv:=Blk.drew b_gv
   refine⟨by decide,⟨.inl (by decide),_,b_gv3.at rfl,⟨by decide,⟨.inl (by decide),_,b_gv.at rfl,⟨by decide,aM b_gv3 (by simp) fun wv8 s_wv8=>?_⟩⟩⟩⟩⟩
   have b_gv3:Blk wv8 gv3 #[(.int .u32 (aC (ar K (ab bb 48) ss 64).a statea)),(.int .u32 (aC (ar K (ab bb 48) ss 64).b stateb)),(.int .u32 (aC (ar K (ab bb 48) ss 64).c statec)),(.int .u32 (aC (ar K (ab bb 48) ss 64).d stated)),_,(.int .u32 ((ar K (ab bb 48) ss 64).f)),(.int .u32 ((ar K (ab bb 48) ss 64).g)),(.int .u32 ((ar K (ab bb 48) ss 64).h))] _:=s_wv8.blk
   refine bXU.grow s_wv8.ch ?_
   have hp:=Ch.call (Ch.drew hp) s_wv8.ch (by exact fun k e=>.inr (e▸lo_gv3))
   have hk:=(hk.pu (Pu.aI _)).ch s_wv8.ch (fun k hx e=>(fun hx=>absurd (lt_hk _ hx) (Nat.not_lt.2 lo_gv3)) (e▸hx))
   have b_gv:=Ch.blk s_wv8.ch b_gv (ne_gv_gv3)
   have b_gv1:=Ch.blk s_wv8.ch (Blk.drew b_gv1) (ne_gv1_gv3)
   have b_gv2:=Ch.blk s_wv8.ch (Blk.drew b_gv2) (ne_gv2_gv3)
   exact⟨3,by decide,hp,hk,⟨_,b_gv⟩,⟨_,b_gv1⟩,⟨_,b_gv2⟩,.inr (.inr (.inr (.inr (.inr (.inl ⟨rfl,rfl,⟨_,b_gv3⟩⟩)))))⟩
  ·refine bk ?_
   refine⟨bXU [] [2,5] wv7.drew (fun _=>False),?_⟩
   have b_gv3:=Blk.drew b_gv3
   have b_gv:=Blk.drew b_gv
   refine⟨by decide,⟨.inl (by decide),_,b_gv3.at rfl,⟨by decide,⟨.inl (by decide),_,b_gv.at rfl,⟨by decide,aM b_gv3 (by simp) fun wv8 s_wv8=>?_⟩⟩⟩⟩⟩
   have b_gv3:Blk wv8 gv3 #[(.int .u32 (aC (ar K (ab bb 48) ss 64).a statea)),(.int .u32 (aC (ar K (ab bb 48) ss 64).b stateb)),(.int .u32 (aC (ar K (ab bb 48) ss 64).c statec)),(.int .u32 (aC (ar K (ab bb 48) ss 64).d stated)),(.int .u32 (aC (ar K (ab bb 48) ss 64).e statee)),_,(.int .u32 ((ar K (ab bb 48) ss 64).g)),(.int .u32 ((ar K (ab bb 48) ss 64).h))] _:=s_wv8.blk
   refine bXU.grow s_wv8.ch ?_
   have hp:=Ch.call (Ch.drew hp) s_wv8.ch (by exact fun k e=>.inr (e▸lo_gv3))
   have hk:=(hk.pu (Pu.aI _)).ch s_wv8.ch (fun k hx e=>(fun hx=>absurd (lt_hk _ hx) (Nat.not_lt.2 lo_gv3)) (e▸hx))
   have b_gv:=Ch.blk s_wv8.ch b_gv (ne_gv_gv3)
   have b_gv1:=Ch.blk s_wv8.ch (Blk.drew b_gv1) (ne_gv1_gv3)
   have b_gv2:=Ch.blk s_wv8.ch (Blk.drew b_gv2) (ne_gv2_gv3)
   exact⟨2,by decide,hp,hk,⟨_,b_gv⟩,⟨_,b_gv1⟩,⟨_,b_gv2⟩,.inr (.inr (.inr (.inr (.inr (.inr (.inl ⟨rfl,rfl,⟨_,b_gv3⟩⟩))))))⟩
  ·refine bk ?_
   refine⟨bXU [] [2,5] wv7.drew (fun _=>False),?_⟩
   have b_gv3:=Blk.drew b_gv3
   have b_gv:=Blk.drew b_gv
   refine⟨by decide,⟨.inl (by decide),_,b_gv3.at rfl,⟨by decide,⟨.inl (by decide),_,b_gv.at rfl,⟨by decide,aM b_gv3 (by simp) fun wv8 s_wv8=>?_⟩⟩⟩⟩⟩
   have b_gv3:Blk wv8 gv3 #[(.int .u32 (aC (ar K (ab bb 48) ss 64).a statea)),(.int .u32 (aC (ar K (ab bb 48) ss 64).b stateb)),(.int .u32 (aC (ar K (ab bb 48) ss 64).c statec)),(.int .u32 (aC (ar K (ab bb 48) ss 64).d stated)),(.int .u32 (aC (ar K (ab bb 48) ss 64).e statee)),(.int .u32 (aC (ar K (ab bb 48) ss 64).f statef)),_,(.int .u32 ((ar K (ab bb 48) ss 64).h))] _:=s_wv8.blk
   refine bXU.grow s_wv8.ch ?_
   have hp:=Ch.call (Ch.drew hp) s_wv8.ch (by exact fun k e=>.inr (e▸lo_gv3))
   have hk:=(hk.pu (Pu.aI _)).ch s_wv8.ch (fun k hx e=>(fun hx=>absurd (lt_hk _ hx) (Nat.not_lt.2 lo_gv3)) (e▸hx))
   have b_gv:=Ch.blk s_wv8.ch b_gv (ne_gv_gv3)
   have b_gv1:=Ch.blk s_wv8.ch (Blk.drew b_gv1) (ne_gv1_gv3)
   have b_gv2:=Ch.blk s_wv8.ch (Blk.drew b_gv2) (ne_gv2_gv3)
   exact⟨1,by decide,hp,hk,⟨_,b_gv⟩,⟨_,b_gv1⟩,⟨_,b_gv2⟩,.inr (.inr (.inr (.inr (.inr (.inr (.inr (.inl ⟨rfl,rfl,⟨_,b_gv3⟩⟩)))))))⟩
  ·refine bk ?_
   refine⟨bXU [] [2,5] wv7.drew (fun _=>False),?_⟩
   have b_gv3:=Blk.drew b_gv3
   have b_gv:=Blk.drew b_gv
   refine⟨by decide,⟨.inl (by decide),_,b_gv3.at rfl,⟨by decide,⟨.inl (by decide),_,b_gv.at rfl,⟨by decide,aM b_gv3 (by simp) fun wv8 s_wv8=>?_⟩⟩⟩⟩⟩
   have b_gv3:Blk wv8 gv3 #[(.int .u32 (aC (ar K (ab bb 48) ss 64).a statea)),(.int .u32 (aC (ar K (ab bb 48) ss 64).b stateb)),(.int .u32 (aC (ar K (ab bb 48) ss 64).c statec)),(.int .u32 (aC (ar K (ab bb 48) ss 64).d stated)),(.int .u32 (aC (ar K (ab bb 48) ss 64).e statee)),(.int .u32 (aC (ar K (ab bb 48) ss 64).f statef)),(.int .u32 (aC (ar K (ab bb 48) ss 64).g stateg)),_] _:=s_wv8.blk
   refine bXU.grow s_wv8.ch ?_
   have hp:=Ch.call (Ch.drew hp) s_wv8.ch (by exact fun k e=>.inr (e▸lo_gv3))
   have hk:=(hk.pu (Pu.aI _)).ch s_wv8.ch (fun k hx e=>(fun hx=>absurd (lt_hk _ hx) (Nat.not_lt.2 lo_gv3)) (e▸hx))
   have b_gv:=Ch.blk s_wv8.ch b_gv (ne_gv_gv3)
   have b_gv1:=Ch.blk s_wv8.ch (Blk.drew b_gv1) (ne_gv1_gv3)
   have b_gv2:=Ch.blk s_wv8.ch (Blk.drew b_gv2) (ne_gv2_gv3)
   exact⟨0,by decide,hp,hk,⟨_,b_gv⟩,⟨_,b_gv1⟩,⟨_,b_gv2⟩,.inr (.inr (.inr (.inr (.inr (.inr (.inr (.inr (⟨rfl,rfl,⟨_,b_gv3⟩⟩))))))))⟩
  ·refine eQ ⟨_,_,_,_,_,_,_,_,⟨b_gv3.at rfl,b_gv3.at rfl,b_gv3.at rfl,b_gv3.at rfl,b_gv3.at rfl,b_gv3.at rfl,b_gv3.at rfl,b_gv3.at rfl⟩,cq b_gv2 rfl fun wv8 s_wv8=>?_⟩
   have b_gv2:=s_wv8.blk
   refine⟨_,_,_,_,_,_,_,_,⟨b_gv2.at rfl,b_gv2.at rfl,b_gv2.at rfl,b_gv2.at rfl,b_gv2.at rfl,b_gv2.at rfl,b_gv2.at rfl,b_gv2.at rfl⟩,?_⟩
   have hp:=Ch.call hp s_wv8.ch (by exact fun k e=>.inr (e▸lo_gv2))
   exact⟨congrArg Value.agg (wq (congrArg (Value.int .u32) (by rw [← hbb,← hss];subst hss;rfl)) (congrArg (Value.int .u32) (by rw [← hbb,← hss];subst hss;rfl)) (congrArg (Value.int .u32) (by rw [← hbb,← hss];subst hss;rfl)) (congrArg (Value.int .u32) (by rw [← hbb,← hss];subst hss;rfl)) (congrArg (Value.int .u32) (by rw [← hbb,← hss];subst hss;rfl)) (congrArg (Value.int .u32) (by rw [← hbb,← hss];subst hss;rfl)) (congrArg (Value.int .u32) (by rw [← hbb,← hss];subst hss;rfl)) (congrArg (Value.int .u32) (by rw [← hbb,← hss];subst hss;rfl))),hp⟩
theorem Dn {K:List Int} {w:World}(hk:fT w 2 K)(statea:Int)(stateb:Int)(statec:Int)(stated:Int)(statee:Int)(statef:Int)(stateg:Int)(stateh:Int)(blocka:Int)(blockb:Int)(blockc:Int)(blockd:Int)(blocke:Int)(blockf:Int)(blockg:Int)(blockh:Int)(blocki:Int)(blockj:Int)(blockk:Int)(blockl:Int)(blockm:Int)(blockn:Int)(blocko:Int)(blockp:Int):
 Calls Tryz.prog 118 #[(.agg #[(.int .u32 statea),(.int .u32 stateb),(.int .u32 statec),(.int .u32 stated),(.int .u32 statee),(.int .u32 statef),(.int .u32 stateg),(.int .u32 stateh)]),(.agg #[(.int .u32 blocka),(.int .u32 blockb),(.int .u32 blockc),(.int .u32 blockd),(.int .u32 blocke),(.int .u32 blockf),(.int .u32 blockg),(.int .u32 blockh),(.int .u32 blocki),(.int .u32 blockj),(.int .u32 blockk),(.int .u32 blockl),(.int .u32 blockm),(.int .u32 blockn),(.int .u32 blocko),(.int .u32 blockp)])] w fun e w'=>∃v,e= .returned v∧v= .agg #[(.int .u32 ((cV K (S8.mk statea stateb statec stated statee statef stateg stateh) [blocka,blockb,blockc,blockd,blocke,blockf,blockg,blockh,blocki,blockj,blockk,blockl,blockm,blockn,blocko,blockp]).a)),(.int .u32 ((cV K (S8.mk statea stateb statec stated statee statef stateg stateh) [blocka,blockb,blockc,blockd,blocke,blockf,blockg,blockh,blocki,blockj,blockk,blockl,blockm,blockn,blocko,blockp]).b)),(.int .u32 ((cV K (S8.mk statea stateb statec stated statee statef stateg stateh) [blocka,blockb,blockc,blockd,blocke,blockf,blockg,blockh,blocki,blockj,blockk,blockl,blockm,blockn,blocko,blockp]).c)),(.int .u32 ((cV K (S8.mk statea stateb statec stated statee statef stateg stateh) [blocka,blockb,blockc,blockd,blocke,blockf,blockg,blockh,blocki,blockj,blockk,blockl,blockm,blockn,blocko,blockp]).d)),(.int .u32 ((cV K (S8.mk statea stateb statec stated statee statef stateg stateh) [blocka,blockb,blockc,blockd,blocke,blockf,blockg,blockh,blocki,blockj,blockk,blockl,blockm,blockn,blocko,blockp]).e)),(.int .u32 ((cV K (S8.mk statea stateb statec stated statee statef stateg stateh) [blocka,blockb,blockc,blockd,blocke,blockf,blockg,blockh,blocki,blockj,blockk,blockl,blockm,blockn,blocko,blockp]).f)),(.int .u32 ((cV K (S8.mk statea stateb statec stated statee statef stateg stateh) [blocka,blockb,blockc,blockd,blocke,blockf,blockg,blockh,blocki,blockj,blockk,blockl,blockm,blockn,blocko,blockp]).g)),(.int .u32 ((cV K (S8.mk statea stateb statec stated statee statef stateg stateh) [blocka,blockb,blockc,blockd,blocke,blockf,blockg,blockh,blocki,blockj,blockk,blockl,blockm,blockn,blocko,blockp]).h))]∧Pu w w':=by
 refine qT _ _ _ _ _ _ _ _ _ _ _ _ _ _ _ _ _ _ _ _ _ _ _ _ ?_
 obtain⟨bb,hbb⟩:∃bb,bb= [blocka,blockb,blockc,blockd,blocke,blockf,blockg,blockh,blocki,blockj,blockk,blockl,blockm,blockn,blocko,blockp]:=⟨_,rfl⟩
 have hB:bb.length=16:=by rw [hbb];rfl
 obtain⟨ss,hss⟩:∃ss,ss=(S8.mk statea stateb statec stated statee statef stateg stateh):=⟨_,rfl⟩
 have hp:=Ch.refl (fun _=>False) w
 have lt_hk:=hk.lt
 refine mkd fun gv wv m_gv=>?_
 have b_gv:=m_gv.blk
 refine mkd fun gv1 wv1 m_gv1=>?_
 have b_gv1:=m_gv1.blk
 have hp:=Ch.made (Ch.made hp m_gv) m_gv1
 have b_gv:=Made.old m_gv1 b_gv
 refine mkd fun gv2 wv2 m_gv2=>?_
 have lo_gv2:=m_gv2.lo hp
 have ne_gv_gv2:=m_gv2.ne b_gv
 have ne_gv1_gv2:=m_gv2.ne b_gv1
 have b_gv2:=m_gv2.blk
 have hp:=Ch.made hp m_gv2
 have b_gv:=Made.old m_gv2 b_gv
 have b_gv1:=Made.old m_gv2 b_gv1
 refine mkd fun gv3 wv3 m_gv3=>?_
 have lo_gv3:=m_gv3.lo hp
 have ne_gv_gv3:=m_gv3.ne b_gv
 have ne_gv1_gv3:=m_gv3.ne b_gv1
 have ne_gv2_gv3:=m_gv3.ne b_gv2
 have b_gv3:Blk wv3 gv3 (aT (List.replicate 64 0)) _:=m_gv3.blk.cast (eT _ _)
 rintro _ rfl
 have hp:=Ch.made hp m_gv3
 have hk:=(((hk.pu m_gv.pu).pu m_gv1.pu).pu m_gv2.pu).pu m_gv3.pu
 have b_gv:=Made.old m_gv3 b_gv
 have b_gv1:=Made.old m_gv3 b_gv1
 have b_gv2:=Made.old m_gv3 b_gv2
 refine⟨fun mz t1 W=>mz=(64 - t1).toNat∧(0≤t1∧t1≤64)∧Ch (fun _=>False) w W∧fT W 2 K∧Blk W gv #[(.int .u32 statea),(.int .u32 stateb),(.int .u32 statec),(.int .u32 stated),(.int .u32 statee),(.int .u32 statef),(.int .u32 stateg),(.int .u32 stateh)] 128∧Blk W gv1 #[(.int .u32 blocka),(.int .u32 blockb),(.int .u32 blockc),(.int .u32 blockd),(.int .u32 blocke),(.int .u32 blockf),(.int .u32 blockg),(.int .u32 blockh),(.int .u32 blocki),(.int .u32 blockj),(.int .u32 blockk),(.int .u32 blockl),(.int .u32 blockm),(.int .u32 blockn),(.int .u32 blocko),(.int .u32 blockp)] 180∧Blk W gv2 #[(.int .u32 0),(.int .u32 0),(.int .u32 0),(.int .u32 0),(.int .u32 0),(.int .u32 0),(.int .u32 0),(.int .u32 0)] 128∧Blk W gv3 (aT (eS bb t1)) 194,⟨_,rfl,(by omega),hp,hk,b_gv,b_gv1,b_gv2,b_gv3.cast (congrArg aT (by simp [eS]))⟩,?_⟩
 rintro _ _ t1 wv4 ⟨rfl,h0,hp,hk,b_gv,b_gv1,b_gv2,b_gv3⟩
 refine aB (fun c1=>?_) (fun c1=>?_)
 ·refine aB (fun c2=>?_) (fun c2=>?_)
  ·refine⟨by omega,?_⟩
   have b_gv1:Blk wv4 gv1 (aT [blocka,blockb,blockc,blockd,blocke,blockf,blockg,blockh,blocki,blockj,blockk,blockl,blockm,blockn,blocko,blockp]) _:=b_gv1.cast (by rfl)
   refine⟨_,b_gv1.fP (i:=t1) (by(simp;omega)),⟨by omega,je b_gv3 (by(rw [fj hB (by omega)];omega)) fun wv5 s_wv5=>?_⟩⟩
   have b_gv3:=s_wv5.blk
   rintro _ rfl
   have hp:=Ch.call hp s_wv5.ch (by exact fun k e=>.inr (e▸lo_gv3))
   have hk:=hk.ch s_wv5.ch (fun k hx e=>(fun hx=>absurd (lt_hk _ hx) (Nat.not_lt.2 lo_gv3)) (e▸hx))
   have b_gv:=Ch.blk s_wv5.ch b_gv (ne_gv_gv3)
   have b_gv1:=Ch.blk s_wv5.ch b_gv1 (ne_gv1_gv3)
   have b_gv2:=Ch.blk s_wv5.ch b_gv2 (ne_gv2_gv3)
   exact⟨_,by rw [IntKind.wrap_i64];omega,rfl,by rw [IntKind.wrap_i64];omega,hp,hk,b_gv,b_gv1,b_gv2,b_gv3.cast (congrArg aT (by(rw [← hbb];exact yD hB (by omega))))⟩
  ·refine⟨by(simp only [IntKind.wrap_i64];omega),⟨_,b_gv3.fP (i:=(i64.wrap (t1 - 15))) (by(rw [fj hB (by omega)];simp only [IntKind.wrap_i64];omega)),⟨by(simp only [IntKind.wrap_i64];omega),⟨_,b_gv3.fP (i:=(i64.wrap (t1 - 2))) (by(rw [fj hB (by omega)];simp only [IntKind.wrap_i64];omega)),?_⟩⟩⟩⟩
   refine⟨bXU [12,26] [] wv4.drew (fun _=>False),?_⟩
   have b_gv3:=Blk.drew b_gv3
   refine⟨by(simp only [IntKind.wrap_i64];omega),⟨.inr ⟨by decide,bX.ld b_gv3 (fun h=>h) _⟩,_,b_gv3.fP (i:=(i64.wrap (t1 - 7))) (by(rw [fj hB (by omega)];simp only [IntKind.wrap_i64];omega)),⟨by(simp only [IntKind.wrap_i64];omega),⟨.inr ⟨by decide,bX.ld b_gv3 (fun h=>h) _⟩,_,b_gv3.fP (i:=(i64.wrap (t1 - 16))) (by(rw [fj hB (by omega)];simp only [IntKind.wrap_i64];omega)),?_⟩⟩⟩⟩
   refine Calls.mono (fv _ _ (by omega)) ?_
   rintro e wv5 ⟨_,rfl,rfl,q_wv5⟩
   refine⟨_,rfl,?_⟩
   refine bXU.cF q_wv5 (by decide) ?_
   refine Calls.mono (fv _ _ (by omega)) ?_
   rintro e wv6 ⟨_,rfl,rfl,q_wv6⟩
   refine⟨_,rfl,?_⟩
   refine bXU.cF q_wv6 (by decide) ?_
   refine Calls.mono (fv _ _ (by omega)) ?_
   rintro e wv7 ⟨_,rfl,rfl,q_wv7⟩
   refine⟨_,rfl,?_⟩
   refine bXU.cF q_wv7 (by decide) ?_
   refine Calls.mono (fv _ _ (by omega)) ?_
   rintro e wv8 ⟨_,rfl,rfl,q_wv8⟩
   refine⟨_,rfl,?_⟩
   refine bXU.cF q_wv8 (by decide) ?_
   have b_gv3:=Pu.blk q_wv8 (Pu.blk q_wv7 (Pu.blk q_wv6 (Pu.blk q_wv5 b_gv3)))
   refine⟨by omega,je b_gv3 (by(rw [fj hB (by omega)];omega)) fun wv9 s_wv9=>?_⟩
   have b_gv3:=s_wv9.blk
   refine bXU.grow s_wv9.ch ?_
   rintro _ rfl
   have hp:=Ch.call (Ch.pu (Ch.pu (Ch.pu (Ch.pu (Ch.drew hp) q_wv5) q_wv6) q_wv7) q_wv8) s_wv9.ch (by exact fun k e=>.inr (e▸lo_gv3))
   have hk:=(((((hk.pu (Pu.aI _)).pu q_wv5).pu q_wv6).pu q_wv7).pu q_wv8).ch s_wv9.ch (fun k hx e=>(fun hx=>absurd (lt_hk _ hx) (Nat.not_lt.2 lo_gv3)) (e▸hx))
   have b_gv:=Ch.blk s_wv9.ch (Pu.blk q_wv8 (Pu.blk q_wv7 (Pu.blk q_wv6 (Pu.blk q_wv5 (Blk.drew b_gv))))) (ne_gv_gv3)
   have b_gv1:=Ch.blk s_wv9.ch (Pu.blk q_wv8 (Pu.blk q_wv7 (Pu.blk q_wv6 (Pu.blk q_wv5 (Blk.drew b_gv1))))) (ne_gv1_gv3)
   have b_gv2:=Ch.blk s_wv9.ch (Pu.blk q_wv8 (Pu.blk q_wv7 (Pu.blk q_wv6 (Pu.blk q_wv5 (Blk.drew b_gv2))))) (ne_gv2_gv3)
   exact⟨_,by rw [IntKind.wrap_i64];omega,rfl,by rw [IntKind.wrap_i64];omega,hp,hk,b_gv,b_gv1,b_gv2,b_gv3.cast (congrArg aT (by(rw [vf (by omega),← yC];rfl)))⟩
 ·rw [yE c1 h0.2]at b_gv3
  refine⟨_,_,_,_,_,_,_,_,⟨b_gv.at rfl,b_gv.at rfl,b_gv.at rfl,b_gv.at rfl,b_gv.at rfl,b_gv.at rfl,b_gv.at rfl,b_gv.at rfl⟩,?_⟩
  refine mkd fun gv5 wv5 m_gv5=>?_
  have lo_gv5:=m_gv5.lo hp
  have ne_gv_gv5:=m_gv5.ne b_gv
  have ne_gv1_gv5:=m_gv5.ne b_gv1
  have ne_gv2_gv5:=m_gv5.ne b_gv2
  have ne_gv3_gv5:=m_gv5.ne b_gv3
  have b_gv5:=m_gv5.blk
  refine cq b_gv5 rfl fun wv6 s_wv6=>?_
  have b_gv5:=s_wv6.blk
  rintro _ rfl
  have hp:=Ch.call (Ch.made hp m_gv5) s_wv6.ch (by exact fun k e=>.inr (e▸lo_gv5))
  have hk:=(hk.pu m_gv5.pu).ch s_wv6.ch (fun k hx e=>(fun hx=>absurd (lt_hk _ hx) (Nat.not_lt.2 lo_gv5)) (e▸hx))
  have b_gv:=Ch.blk s_wv6.ch (Made.old m_gv5 b_gv) (ne_gv_gv5)
  have b_gv1:=Ch.blk s_wv6.ch (Made.old m_gv5 b_gv1) (ne_gv1_gv5)
  have b_gv2:=Ch.blk s_wv6.ch (Made.old m_gv5 b_gv2) (ne_gv2_gv5)
  have b_gv3:=Ch.blk s_wv6.ch (Made.old m_gv5 b_gv3) (ne_gv3_gv5)
  refine⟨fun mz t3 W=>mz=(64 - t3).toNat∧(0≤t3∧t3≤64)∧Ch (fun _=>False) w W∧fT W 2 K∧Blk W gv #[(.int .u32 statea),(.int .u32 stateb),(.int .u32 statec),(.int .u32 stated),(.int .u32 statee),(.int .u32 statef),(.int .u32 stateg),(.int .u32 stateh)] 128∧Blk W gv1 #[(.int .u32 blocka),(.int .u32 blockb),(.int .u32 blockc),(.int .u32 blockd),(.int .u32 blocke),(.int .u32 blockf),(.int .u32 blockg),(.int .u32 blockh),(.int .u32 blocki),(.int .u32 blockj),(.int .u32 blockk),(.int .u32 blockl),(.int .u32 blockm),(.int .u32 blockn),(.int .u32 blocko),(.int .u32 blockp)] 180∧Blk W gv2 #[(.int .u32 0),(.int .u32 0),(.int .u32 0),(.int .u32 0),(.int .u32 0),(.int .u32 0),(.int .u32 0),(.int .u32 0)] 128∧Blk W gv3 (aT (ab bb 48)) 194∧Blk W gv5 #[(.int .u32 ((ar K (ab bb 48) ss t3.toNat).a)),(.int .u32 ((ar K (ab bb 48) ss t3.toNat).b)),(.int .u32 ((ar K (ab bb 48) ss t3.toNat).c)),(.int .u32 ((ar K (ab bb 48) ss t3.toNat).d)),(.int .u32 ((ar K (ab bb 48) ss t3.toNat).e)),(.int .u32 ((ar K (ab bb 48) ss t3.toNat).f)),(.int .u32 ((ar K (ab bb 48) ss t3.toNat).g)),(.int .u32 ((ar K (ab bb 48) ss t3.toNat).h))] 128,⟨_,rfl,(by omega),hp,hk,b_gv,b_gv1,b_gv2,b_gv3,b_gv5.cast (wq (congrArg (Value.int .u32) (by subst hss;rfl)) (congrArg (Value.int .u32) (by subst hss;rfl)) (congrArg (Value.int .u32) (by subst hss;rfl)) (congrArg (Value.int .u32) (by subst hss;rfl)) (congrArg (Value.int .u32) (by subst hss;rfl)) (congrArg (Value.int .u32) (by subst hss;rfl)) (congrArg (Value.int .u32) (by subst hss;rfl)) (congrArg (Value.int .u32) (by subst hss;rfl)))⟩,?_⟩
  rintro _ _ t3 wv7 ⟨rfl,h0,hp,hk,b_gv,b_gv1,b_gv2,b_gv3,b_gv5⟩
  refine aB (fun c3=>?_) (fun c3=>?_)
  ·refine⟨by decide,⟨_,b_gv5.at rfl,⟨by decide,⟨_,b_gv5.at rfl,?_⟩⟩⟩⟩
   refine⟨bXU [1,13,18,24,28] [] wv7.drew (fun _=>False),?_⟩
   have b_gv5:=Blk.drew b_gv5
   have hk:=hk.pu (Pu.aI _)
   obtain⟨_,drow_hk⟩:=hk.blk
   have b_gv3:=Blk.drew b_gv3
   refine⟨by decide,⟨.inr ⟨by decide,bX.ld b_gv5 (fun h=>h) _⟩,_,b_gv5.at rfl,⟨by decide,⟨.inr ⟨by decide,bX.ld b_gv5 (fun h=>h) _⟩,_,b_gv5.at rfl,⟨by decide,⟨.inr ⟨by decide,bX.ld b_gv5 (fun h=>h) _⟩,_,b_gv5.at rfl,⟨by omega,⟨.inr ⟨by decide,bX.ld drow_hk (fun h=>h) _⟩,_,drow_hk.fP (i:=t3) (by(have h9:=hk.len;omega)),⟨by omega,⟨.inr ⟨by decide,bX.ld b_gv3 (fun h=>h) _⟩,_,b_gv3.fP (i:=t3) (by(rw [bR hB];omega)),?_⟩⟩⟩⟩⟩⟩⟩⟩⟩⟩
   refine Calls.mono (fv _ _ (by omega)) ?_
   rintro e wv8 ⟨_,rfl,rfl,q_wv8⟩
   refine⟨_,rfl,?_⟩
   refine bXU.cF q_wv8 (by decide) ?_
   refine Calls.mono (fv _ _ (by omega)) ?_
   rintro e wv9 ⟨_,rfl,rfl,q_wv9⟩
   refine⟨_,rfl,?_⟩
   refine bXU.cF q_wv9 (by decide) ?_
   refine Calls.mono (fv _ _ (by omega)) ?_
   rintro e wv10 ⟨_,rfl,rfl,q_wv10⟩
   refine⟨_,rfl,?_⟩
   refine bXU.cF q_wv10 (by decide) ?_
   rintro _ rfl
   refine⟨bXU [10,14,18,20] [] wv10.drew (fun _=>False),?_⟩
   have b_gv5:=Blk.drew (Pu.blk q_wv10 (Pu.blk q_wv9 (Pu.blk q_wv8 b_gv5)))
   refine⟨by decide,⟨.inr ⟨by decide,bX.ld b_gv5 (fun h=>h) _⟩,_,b_gv5.at rfl,⟨by decide,⟨.inr ⟨by decide,bX.ld b_gv5 (fun h=>h) _⟩,_,b_gv5.at rfl,⟨by decide,⟨.inr ⟨by decide,bX.ld b_gv5 (fun h=>h) _⟩,_,b_gv5.at rfl,⟨by decide,⟨.inr ⟨by decide,bX.ld b_gv5 (fun h=>h) _⟩,_,b_gv5.at rfl,?_⟩⟩⟩⟩⟩⟩⟩⟩
   refine Calls.mono (fv _ _ (by omega)) ?_
   rintro e wv11 ⟨_,rfl,rfl,q_wv11⟩
   refine⟨_,rfl,?_⟩
   refine bXU.cF q_wv11 (by decide) ?_
   refine Calls.mono (fv _ _ (by omega)) ?_
   rintro e wv12 ⟨_,rfl,rfl,q_wv12⟩
   refine⟨_,rfl,?_⟩
   refine bXU.cF q_wv12 (by decide) ?_
   refine Calls.mono (fv _ _ (by omega)) ?_
   rintro e wv13 ⟨_,rfl,rfl,q_wv13⟩
   refine⟨_,rfl,?_⟩
   refine bXU.cF q_wv13 (by decide) ?_
   rintro _ rfl
   have b_gv5:=Pu.blk q_wv13 (Pu.blk q_wv12 (Pu.blk q_wv11 b_gv5))
   refine⟨by decide,⟨_,b_gv5.at rfl,⟨by decide,⟨_,b_gv5.at rfl,⟨by decide,⟨_,b_gv5.at rfl,⟨by decide,⟨_,b_gv5.at rfl,⟨by decide,⟨_,b_gv5.at rfl,⟨by decide,⟨_,b_gv5.at rfl,⟨by decide,⟨_,b_gv5.at rfl,cq b_gv5 rfl fun wv14 s_wv14=>?_⟩⟩⟩⟩⟩⟩⟩⟩⟩⟩⟩⟩⟩⟩
   have b_gv5:=s_wv14.blk
   rintro _ rfl
   have hp:=Ch.call (Ch.pu (Ch.pu (Ch.pu (Ch.drew (Ch.pu (Ch.pu (Ch.pu (Ch.drew hp) q_wv8) q_wv9) q_wv10)) q_wv11) q_wv12) q_wv13) s_wv14.ch (by exact fun k e=>.inr (e▸lo_gv5))
   have hk:=(((((((hk.pu q_wv8).pu q_wv9).pu q_wv10).pu (Pu.aI _)).pu q_wv11).pu q_wv12).pu q_wv13).ch s_wv14.ch (fun k hx e=>(fun hx=>absurd (lt_hk _ hx) (Nat.not_lt.2 lo_gv5)) (e▸hx))
   have b_gv:=Ch.blk s_wv14.ch (Pu.blk q_wv13 (Pu.blk q_wv12 (Pu.blk q_wv11 (Blk.drew (Pu.blk q_wv10 (Pu.blk q_wv9 (Pu.blk q_wv8 (Blk.drew b_gv)))))))) (ne_gv_gv5)
   have b_gv1:=Ch.blk s_wv14.ch (Pu.blk q_wv13 (Pu.blk q_wv12 (Pu.blk q_wv11 (Blk.drew (Pu.blk q_wv10 (Pu.blk q_wv9 (Pu.blk q_wv8 (Blk.drew b_gv1)))))))) (ne_gv1_gv5)
   have b_gv2:=Ch.blk s_wv14.ch (Pu.blk q_wv13 (Pu.blk q_wv12 (Pu.blk q_wv11 (Blk.drew (Pu.blk q_wv10 (Pu.blk q_wv9 (Pu.blk q_wv8 (Blk.drew b_gv2)))))))) (ne_gv2_gv5)
   have b_gv3:=Ch.blk s_wv14.ch (Pu.blk q_wv13 (Pu.blk q_wv12 (Pu.blk q_wv11 (Blk.drew (Pu.blk q_wv10 (Pu.blk q_wv9 (Pu.blk q_wv8 b_gv3))))))) (ne_gv3_gv5)
   exact⟨_,by rw [IntKind.wrap_i64];omega,rfl,by rw [IntKind.wrap_i64];omega,hp,hk,b_gv,b_gv1,b_gv2,b_gv3,b_gv5.cast (wq (congrArg (Value.int .u32) (by rw [bM (by omega),hbb];rfl)) (congrArg (Value.int .u32) (by rw [bM (by omega),hbb];rfl)) (congrArg (Value.int .u32) (by rw [bM (by omega),hbb];rfl)) (congrArg (Value.int .u32) (by rw [bM (by omega),hbb];rfl)) (congrArg (Value.int .u32) (by rw [bM (by omega),hbb];rfl)) (congrArg (Value.int .u32) (by rw [bM (by omega),hbb];rfl)) (congrArg (Value.int .u32) (by rw [bM (by omega),hbb];rfl)) (congrArg (Value.int .u32) (by rw [bM (by omega),hbb];rfl)))⟩
  ·have e64:t3.toNat=64:=by omega
   rw [e64]at b_gv5
   rintro _ rfl
   refine⟨fun mz i1 W=>Ch (fun _=>False) w W∧fT W 2 K∧(∃T,Blk W gv #[(.int .u32 statea),(.int .u32 stateb),(.int .u32 statec),(.int .u32 stated),(.int .u32 statee),(.int .u32 statef),(.int .u32 stateg),(.int .u32 stateh)] T)∧(∃T,Blk W gv1 #[(.int .u32 blocka),(.int .u32 blockb),(.int .u32 blockc),(.int .u32 blockd),(.int .u32 blocke),(.int .u32 blockf),(.int .u32 blockg),(.int .u32 blockh),(.int .u32 blocki),(.int .u32 blockj),(.int .u32 blockk),(.int .u32 blockl),(.int .u32 blockm),(.int .u32 blockn),(.int .u32 blocko),(.int .u32 blockp)] T)∧(∃T,Blk W gv2 #[(.int .u32 0),(.int .u32 0),(.int .u32 0),(.int .u32 0),(.int .u32 0),(.int .u32 0),(.int .u32 0),(.int .u32 0)] T)∧(∃T,Blk W gv3 (aT (ab bb 48)) T)∧((mz=8∧i1=0∧(∃T,Blk W gv5 #[(.int .u32 ((ar K (ab bb 48) ss 64).a)),(.int .u32 ((ar K (ab bb 48) ss 64).b)),(.int .u32 ((ar K (ab bb 48) ss 64).c)),(.int .u32 ((ar K (ab bb 48) ss 64).d)),(.int .u32 ((ar K (ab bb 48) ss 64).e)),(.int .u32 ((ar K (ab bb 48) ss 64).f)),(.int .u32 ((ar K (ab bb 48) ss 64).g)),(.int .u32 ((ar K (ab bb 48) ss 64).h))] T))∨(mz=7∧i1=1∧(∃T,Blk W gv5 #[(.int .u32 (aC (ar K (ab bb 48) ss 64).a statea)),(.int .u32 ((ar K (ab bb 48) ss 64).b)),(.int .u32 ((ar K (ab bb 48) ss 64).c)),(.int .u32 ((ar K (ab bb 48) ss 64).d)),(.int .u32 ((ar K (ab bb 48) ss 64).e)),(.int .u32 ((ar K (ab bb 48) ss 64).f)),(.int .u32 ((ar K (ab bb 48) ss 64).g)),(.int .u32 ((ar K (ab bb 48) ss 64).h))] T))∨(mz=6∧i1=2∧(∃T,Blk W gv5 #[(.int .u32 (aC (ar K (ab bb 48) ss 64).a statea)),(.int .u32 (aC (ar K (ab bb 48) ss 64).b stateb)),(.int .u32 ((ar K (ab bb 48) ss 64).c)),(.int .u32 ((ar K (ab bb 48) ss 64).d)),(.int .u32 ((ar K (ab bb 48) ss 64).e)),(.int .u32 ((ar K (ab bb 48) ss 64).f)),(.int .u32 ((ar K (ab bb 48) ss 64).g)),(.int .u32 ((ar K (ab bb 48) ss 64).h))] T))∨(mz=5∧i1=3∧(∃T,Blk W gv5 #[(.int .u32 (aC (ar K (ab bb 48) ss 64).a statea)),(.int .u32 (aC (ar K (ab bb 48) ss 64).b stateb)),(.int .u32 (aC (ar K (ab bb 48) ss 64).c statec)),(.int .u32 ((ar K (ab bb 48) ss 64).d)),(.int .u32 ((ar K (ab bb 48) ss 64).e)),(.int .u32 ((ar K (ab bb 48) ss 64).f)),(.int .u32 ((ar K (ab bb 48) ss 64).g)),(.int .u32 ((ar K (ab bb 48) ss 64).h))] T))∨(mz=4∧i1=4∧(∃T,Blk W gv5 #[(.int .u32 (aC (ar K (ab bb 48) ss 64).a statea)),(.int .u32 (aC (ar K (ab bb 48) ss 64).b stateb)),(.int .u32 (aC (ar K (ab bb 48) ss 64).c statec)),(.int .u32 (aC (ar K (ab bb 48) ss 64).d stated)),(.int .u32 ((ar K (ab bb 48) ss 64).e)),(.int .u32 ((ar K (ab bb 48) ss 64).f)),(.int .u32 ((ar K (ab bb 48) ss 64).g)),(.int .u32 ((ar K (ab bb 48) ss 64).h))] T))∨(mz=3∧i1=5∧(∃T,Blk W gv5 #[(.int .u32 (aC (ar K (ab bb 48) ss 64).a statea)),(.int .u32 (aC (ar K (ab bb 48) ss 64).b stateb)),(.int .u32 (aC (ar K (ab bb 48) ss 64).c statec)),(.int .u32 (aC (ar K (ab bb 48) ss 64).d stated)),(.int .u32 (aC (ar K (ab bb 48) ss 64).e statee)),(.int .u32 ((ar K (ab bb 48) ss 64).f)),(.int .u32 ((ar K (ab bb 48) ss 64).g)),(.int .u32 ((ar K (ab bb 48) ss 64).h))] T))∨(mz=2∧i1=6∧(∃T,Blk W gv5 #[(.int .u32 (aC (ar K (ab bb 48) ss 64).a statea)),(.int .u32 (aC (ar K (ab bb 48) ss 64).b stateb)),(.int .u32 (aC (ar K (ab bb 48) ss 64).c statec)),(.int .u32 (aC (ar K (ab bb 48) ss 64).d stated)),(.int .u32 (aC (ar K (ab bb 48) ss 64).e statee)),(.int .u32 (aC (ar K (ab bb 48) ss 64).f statef)),(.int .u32 ((ar K (ab bb 48) ss 64).g)),(.int .u32 ((ar K (ab bb 48) ss 64).h))] T))∨(mz=1∧i1=7∧(∃T,Blk W gv5 #[(.int .u32 (aC (ar K (ab bb 48) ss 64).a statea)),(.int .u32 (aC (ar K (ab bb 48) ss 64).b stateb)),(.int .u32 (aC (ar K (ab bb 48) ss 64).c statec)),(.int .u32 (aC (ar K (ab bb 48) ss 64).d stated)),(.int .u32 (aC (ar K (ab bb 48) ss 64).e statee)),(.int .u32 (aC (ar K (ab bb 48) ss 64).f statef)),(.int .u32 (aC (ar K (ab bb 48) ss 64).g stateg)),(.int .u32 ((ar K (ab bb 48) ss 64).h))] T))∨(mz=0∧i1=8∧(∃T,Blk W gv5 #[(.int .u32 (aC (ar K (ab bb 48) ss 64).a statea)),(.int .u32 (aC (ar K (ab bb 48) ss 64).b stateb)),(.int .u32 (aC (ar K (ab bb 48) ss 64).c statec)),(.int .u32 (aC (ar K (ab bb 48) ss 64).d stated)),(.int .u32 (aC (ar K (ab bb 48) ss 64).e statee)),(.int .u32 (aC (ar K (ab bb 48) ss 64).f statef)),(.int .u32 (aC (ar K (ab bb 48) ss 64).g stateg)),(.int .u32 (aC (ar K (ab bb 48) ss 64).h stateh))] T))),⟨_,hp,hk,⟨_,b_gv⟩,⟨_,b_gv1⟩,⟨_,b_gv2⟩,⟨_,b_gv3⟩,.inl ⟨rfl,rfl,⟨_,b_gv5⟩⟩⟩,?_⟩
   rintro _ _ i1 wv8 ⟨hp,hk,⟨_,b_gv⟩,⟨_,b_gv1⟩,⟨_,b_gv2⟩,⟨_,b_gv3⟩,hU⟩
   rcases hU with⟨rfl,rfl,⟨_,b_gv5⟩⟩ | ⟨rfl,rfl,⟨_,b_gv5⟩⟩ | ⟨rfl,rfl,⟨_,b_gv5⟩⟩ | ⟨rfl,rfl,⟨_,b_gv5⟩⟩ | ⟨rfl,rfl,⟨_,b_gv5⟩⟩ | ⟨rfl,rfl,⟨_,b_gv5⟩⟩ | ⟨rfl,rfl,⟨_,b_gv5⟩⟩ | ⟨rfl,rfl,⟨_,b_gv5⟩⟩ | ⟨rfl,rfl,⟨_,b_gv5⟩⟩
   ·refine bk ?_
    refine⟨bXU [] [3,6] wv8.drew (fun _=>False),?_⟩
    have b_gv5:=Blk.drew b_gv5
    have b_gv:=Blk.drew b_gv
    refine⟨by decide,⟨.inl (by decide),_,b_gv5.at rfl,⟨by decide,⟨.inl (by decide),_,b_gv.at rfl,⟨by decide,aM b_gv5 (by simp) fun wv9 s_wv9=>?_⟩⟩⟩⟩⟩
    have b_gv5:Blk wv9 gv5 #[_,(.int .u32 ((ar K (ab bb 48) ss 64).b)),(.int .u32 ((ar K (ab bb 48) ss 64).c)),(.int .u32 ((ar K (ab bb 48) ss 64).d)),(.int .u32 ((ar K (ab bb 48) ss 64).e)),(.int .u32 ((ar K (ab bb 48) ss 64).f)),(.int .u32 ((ar K (ab bb 48) ss 64).g)),(.int .u32 ((ar K (ab bb 48) ss 64).h))] _:=s_wv9.blk
    refine bXU.grow s_wv9.ch ?_
    rintro _ rfl
    have hp:=Ch.call (Ch.drew hp) s_wv9.ch (by exact fun k e=>.inr (e▸lo_gv5))
    have hk:=(hk.pu (Pu.aI _)).ch s_wv9.ch (fun k hx e=>(fun hx=>absurd (lt_hk _ hx) (Nat.not_lt.2 lo_gv5)) (e▸hx))
    have b_gv:=Ch.blk s_wv9.ch b_gv (ne_gv_gv5)
    have b_gv1:=Ch.blk s_wv9.ch (Blk.drew b_gv1) (ne_gv1_gv5)
    have b_gv2:=Ch.blk s_wv9.ch (Blk.drew b_gv2) (ne_gv2_gv5)
    have b_gv3:=Ch.blk s_wv9.ch (Blk.drew b_gv3) (ne_gv3_gv5)
    exact⟨7,by decide,hp,hk,⟨_,b_gv⟩,⟨_,b_gv1⟩,⟨_,b_gv2⟩,⟨_,b_gv3⟩,.inr (.inl ⟨rfl,rfl,⟨_,b_gv5⟩⟩)⟩
   ·refine bk ?_
    refine⟨bXU [] [3,6] wv8.drew (fun _=>False),?_⟩
    have b_gv5:=Blk.drew b_gv5
    have b_gv:=Blk.drew b_gv
    refine⟨by decide,⟨.inl (by decide),_,b_gv5.at rfl,⟨by decide,⟨.inl (by decide),_,b_gv.at rfl,⟨by decide,aM b_gv5 (by simp) fun wv9 s_wv9=>?_⟩⟩⟩⟩⟩
    have b_gv5:Blk wv9 gv5 #[(.int .u32 (aC (ar K (ab bb 48) ss 64).a statea)),_,(.int .u32 ((ar K (ab bb 48) ss 64).c)),(.int .u32 ((ar K (ab bb 48) ss 64).d)),(.int .u32 ((ar K (ab bb 48) ss 64).e)),(.int .u32 ((ar K (ab bb 48) ss 64).f)),(.int .u32 ((ar K (ab bb 48) ss 64).g)),(.int .u32 ((ar K (ab bb 48) ss 64).h))] _:=s_wv9.blk
    refine bXU.grow s_wv9.ch ?_
    rintro _ rfl
    have hp:=Ch.call (Ch.drew hp) s_wv9.ch (by exact fun k e=>.inr (e▸lo_gv5))
    have hk:=(hk.pu (Pu.aI _)).ch s_wv9.ch (fun k hx e=>(fun hx=>absurd (lt_hk _ hx) (Nat.not_lt.2 lo_gv5)) (e▸hx))
    have b_gv:=Ch.blk s_wv9.ch b_gv (ne_gv_gv5)
    have b_gv1:=Ch.blk s_wv9.ch (Blk.drew b_gv1) (ne_gv1_gv5)
    have b_gv2:=Ch.blk s_wv9.ch (Blk.drew b_gv2) (ne_gv2_gv5)
    have b_gv3:=Ch.blk s_wv9.ch (Blk.drew b_gv3) (ne_gv3_gv5)
    exact⟨6,by decide,hp,hk,⟨_,b_gv⟩,⟨_,b_gv1⟩,⟨_,b_gv2⟩,⟨_,b_gv3⟩,.inr (.inr (.inl ⟨rfl,rfl,⟨_,b_gv5⟩⟩))⟩
   ·refine bk ?_
    refine⟨bXU [] [3,6] wv8.drew (fun _=>False),?_⟩
    have b_gv5:=Blk.drew b_gv5
    have b_gv:=Blk.drew b_gv
    refine⟨by decide,⟨.inl (by decide),_,b_gv5.at rfl,⟨by decide,⟨.inl (by decide),_,b_gv.at rfl,⟨by decide,aM b_gv5 (by simp) fun wv9 s_wv9=>?_⟩⟩⟩⟩⟩
    have b_gv5:Blk wv9 gv5 #[(.int .u32 (aC (ar K (ab bb 48) ss 64).a statea)),(.int .u32 (aC (ar K (ab bb 48) ss 64).b stateb)),_,(.int .u32 ((ar K (ab bb 48) ss 64).d)),(.int .u32 ((ar K (ab bb 48) ss 64).e)),(.int .u32 ((ar K (ab bb 48) ss 64).f)),(.int .u32 ((ar K (ab bb 48) ss 64).g)),(.int .u32 ((ar K (ab bb 48) ss 64).h))] _:=s_wv9.blk
    refine bXU.grow s_wv9.ch ?_
    rintro _ rfl
    have hp:=Ch.call (Ch.drew hp) s_wv9.ch (by exact fun k e=>.inr (e▸lo_gv5))
    have hk:=(hk.pu (Pu.aI _)).ch s_wv9.ch (fun k hx e=>(fun hx=>absurd (lt_hk _ hx) (Nat.not_lt.2 lo_gv5)) (e▸hx))
    have b_gv:=Ch.blk s_wv9.ch b_gv (ne_gv_gv5)
    have b_gv1:=Ch.blk s_wv9.ch (Blk.drew b_gv1) (ne_gv1_gv5)
    have b_gv2:=Ch.blk s_wv9.ch (Blk.drew b_gv2) (ne_gv2_gv5)
    have b_gv3:=Ch.blk s_wv9.ch (Blk.drew b_gv3) (ne_gv3_gv5)
    exact⟨5,by decide,hp,hk,⟨_,b_gv⟩,⟨_,b_gv1⟩,⟨_,b_gv2⟩,⟨_,b_gv3⟩,.inr (.inr (.inr (.inl ⟨rfl,rfl,⟨_,b_gv5⟩⟩)))⟩
   ·refine bk ?_
    refine⟨bXU [] [3,6] wv8.drew (fun _=>False),?_⟩
    have b_gv5:=Blk.drew b_gv5
    have b_gv:=Blk.drew b_gv
    refine⟨by decide,⟨.inl (by decide),_,b_gv5.at rfl,⟨by decide,⟨.inl (by decide),_,b_gv.at rfl,⟨by decide,aM b_gv5 (by simp) fun wv9 s_wv9=>?_⟩⟩⟩⟩⟩
    have b_gv5:Blk wv9 gv5 #[(.int .u32 (aC (ar K (ab bb 48) ss 64).a statea)),(.int .u32 (aC (ar K (ab bb 48) ss 64).b stateb)),(.int .u32 (aC (ar K (ab bb 48) ss 64).c statec)),_,(.int .u32 ((ar K (ab bb 48) ss 64).e)),(.int .u32 ((ar K (ab bb 48) ss 64).f)),(.int .u32 ((ar K (ab bb 48) ss 64).g)),(.int .u32 ((ar K (ab bb 48) ss 64).h))] _:=s_wv9.blk
    refine bXU.grow s_wv9.ch ?_
    rintro _ rfl
    have hp:=Ch.call (Ch.drew hp) s_wv9.ch (by exact fun k e=>.inr (e▸lo_gv5))
    have hk:=(hk.pu (Pu.aI _)).ch s_wv9.ch (fun k hx e=>(fun hx=>absurd (lt_hk _ hx) (Nat.not_lt.2 lo_gv5)) (e▸hx))
    have b_gv:=Ch.blk s_wv9.ch b_gv (ne_gv_gv5)
    have b_gv1:=Ch.blk s_wv9.ch (Blk.drew b_gv1) (ne_gv1_gv5)
    have b_gv2:=Ch.blk s_wv9.ch (Blk.drew b_gv2) (ne_gv2_gv5)
    have b_gv3:=Ch.blk s_wv9.ch (Blk.drew b_gv3) (ne_gv3_gv5)
    exact⟨4,by decide,hp,hk,⟨_,b_gv⟩,⟨_,b_gv1⟩,⟨_,b_gv2⟩,⟨_,b_gv3⟩,.inr (.inr (.inr (.inr (.inl ⟨rfl,rfl,⟨_,b_gv5⟩⟩))))⟩
   ·refine bk ?_
    refine⟨bXU [] [3,6] wv8.drew (fun _=>False),?_⟩
    have b_gv5:=Blk.drew b_gv5
    have b_gv:=Blk.drew b_gv
    refine⟨by decide,⟨.inl (by decide),_,b_gv5.at rfl,⟨by decide,⟨.inl (by decide),_,b_gv.at rfl,⟨by decide,aM b_gv5 (by simp) fun wv9 s_wv9=>?_⟩⟩⟩⟩⟩
    have b_gv5:Blk wv9 gv5 #[(.int .u32 (aC (ar K (ab bb 48) ss 64).a statea)),(.int .u32 (aC (ar K (ab bb 48) ss 64).b stateb)),(.int .u32 (aC (ar K (ab bb 48) ss 64).c statec)),(.int .u32 (aC (ar K (ab bb 48) ss 64).d stated)),_,(.int .u32 ((ar K (ab bb 48) ss 64).f)),(.int .u32 ((ar K (ab bb 48) ss 64).g)),(.int .u32 ((ar K (ab bb 48) ss 64).h))] _:=s_wv9.blk
    refine bXU.grow s_wv9.ch ?_
    rintro _ rfl
    have hp:=Ch.call (Ch.drew hp) s_wv9.ch (by exact fun k e=>.inr (e▸lo_gv5))
    have hk:=(hk.pu (Pu.aI _)).ch s_wv9.ch (fun k hx e=>(fun hx=>absurd (lt_hk _ hx) (Nat.not_lt.2 lo_gv5)) (e▸hx))
    have b_gv:=Ch.blk s_wv9.ch b_gv (ne_gv_gv5)
    have b_gv1:=Ch.blk s_wv9.ch (Blk.drew b_gv1) (ne_gv1_gv5)
    have b_gv2:=Ch.blk s_wv9.ch (Blk.drew b_gv2) (ne_gv2_gv5)
    have b_gv3:=Ch.blk s_wv9.ch (Blk.drew b_gv3) (ne_gv3_gv5)
    exact⟨3,by decide,hp,hk,⟨_,b_gv⟩,⟨_,b_gv1⟩,⟨_,b_gv2⟩,⟨_,b_gv3⟩,.inr (.inr (.inr (.inr (.inr (.inl ⟨rfl,rfl,⟨_,b_gv5⟩⟩)))))⟩
   ·refine bk ?_
    refine⟨bXU [] [3,6] wv8.drew (fun _=>False),?_⟩
    have b_gv5:=Blk.drew b_gv5
    have b_gv:=Blk.drew b_gv
    refine⟨by decide,⟨.inl (by decide),_,b_gv5.at rfl,⟨by decide,⟨.inl (by decide),_,b_gv.at rfl,⟨by decide,aM b_gv5 (by simp) fun wv9 s_wv9=>?_⟩⟩⟩⟩⟩
    have b_gv5:Blk wv9 gv5 #[(.int .u32 (aC (ar K (ab bb 48) ss 64).a statea)),(.int .u32 (aC (ar K (ab bb 48) ss 64).b stateb)),(.int .u32 (aC (ar K (ab bb 48) ss 64).c statec)),(.int .u32 (aC (ar K (ab bb 48) ss 64).d stated)),(.int .u32 (aC (ar K (ab bb 48) ss 64).e statee)),_,(.int .u32 ((ar K (ab bb 48) ss 64).g)),(.int .u32 ((ar K (ab bb 48) ss 64).h))] _:=s_wv9.blk
    refine bXU.grow s_wv9.ch ?_
    rintro _ rfl
    have hp:=Ch.call (Ch.drew hp) s_wv9.ch (by exact fun k e=>.inr (e▸lo_gv5))
    have hk:=(hk.pu (Pu.aI _)).ch s_wv9.ch (fun k hx e=>(fun hx=>absurd (lt_hk _ hx) (Nat.not_lt.2 lo_gv5)) (e▸hx))
    have b_gv:=Ch.blk s_wv9.ch b_gv (ne_gv_gv5)
    have b_gv1:=Ch.blk s_wv9.ch (Blk.drew b_gv1) (ne_gv1_gv5)
    have b_gv2:=Ch.blk s_wv9.ch (Blk.drew b_gv2) (ne_gv2_gv5)
    have b_gv3:=Ch.blk s_wv9.ch (Blk.drew b_gv3) (ne_gv3_gv5)
    exact⟨2,by decide,hp,hk,⟨_,b_gv⟩,⟨_,b_gv1⟩,⟨_,b_gv2⟩,⟨_,b_gv3⟩,.inr (.inr (.inr (.inr (.inr (.inr (.inl ⟨rfl,rfl,⟨_,b_gv5⟩⟩))))))⟩
   ·refine bk ?_
    refine⟨bXU [] [3,6] wv8.drew (fun _=>False),?_⟩
    have b_gv5:=Blk.drew b_gv5
    have b_gv:=Blk.drew b_gv
    refine⟨by decide,⟨.inl (by decide),_,b_gv5.at rfl,⟨by decide,⟨.inl (by decide),_,b_gv.at rfl,⟨by decide,aM b_gv5 (by simp) fun wv9 s_wv9=>?_⟩⟩⟩⟩⟩
    have b_gv5:Blk wv9 gv5 #[(.int .u32 (aC (ar K (ab bb 48) ss 64).a statea)),(.int .u32 (aC (ar K (ab bb 48) ss 64).b stateb)),(.int .u32 (aC (ar K (ab bb 48) ss 64).c statec)),(.int .u32 (aC (ar K (ab bb 48) ss 64).d stated)),(.int .u32 (aC (ar K (ab bb 48) ss 64).e statee)),(.int .u32 (aC (ar K (ab bb 48) ss 64).f statef)),_,(.int .u32 ((ar K (ab bb 48) ss 64).h))] _:=s_wv9.blk
    refine bXU.grow s_wv9.ch ?_
    rintro _ rfl
    have hp:=Ch.call (Ch.drew hp) s_wv9.ch (by exact fun k e=>.inr (e▸lo_gv5))
    have hk:=(hk.pu (Pu.aI _)).ch s_wv9.ch (fun k hx e=>(fun hx=>absurd (lt_hk _ hx) (Nat.not_lt.2 lo_gv5)) (e▸hx))
    have b_gv:=Ch.blk s_wv9.ch b_gv (ne_gv_gv5)
    have b_gv1:=Ch.blk s_wv9.ch (Blk.drew b_gv1) (ne_gv1_gv5)
    have b_gv2:=Ch.blk s_wv9.ch (Blk.drew b_gv2) (ne_gv2_gv5)
    have b_gv3:=Ch.blk s_wv9.ch (Blk.drew b_gv3) (ne_gv3_gv5)
    exact⟨1,by decide,hp,hk,⟨_,b_gv⟩,⟨_,b_gv1⟩,⟨_,b_gv2⟩,⟨_,b_gv3⟩,.inr (.inr (.inr (.inr (.inr (.inr (.inr (.inl ⟨rfl,rfl,⟨_,b_gv5⟩⟩)))))))⟩
   ·refine bk ?_
    refine⟨bXU [] [3,6] wv8.drew (fun _=>False),?_⟩
    have b_gv5:=Blk.drew b_gv5
    have b_gv:=Blk.drew b_gv
    refine⟨by decide,⟨.inl (by decide),_,b_gv5.at rfl,⟨by decide,⟨.inl (by decide),_,b_gv.at rfl,⟨by decide,aM b_gv5 (by simp) fun wv9 s_wv9=>?_⟩⟩⟩⟩⟩
    have b_gv5:Blk wv9 gv5 #[(.int .u32 (aC (ar K (ab bb 48) ss 64).a statea)),(.int .u32 (aC (ar K (ab bb 48) ss 64).b stateb)),(.int .u32 (aC (ar K (ab bb 48) ss 64).c statec)),(.int .u32 (aC (ar K (ab bb 48) ss 64).d stated)),(.int .u32 (aC (ar K (ab bb 48) ss 64).e statee)),(.int .u32 (aC (ar K (ab bb 48) ss 64).f statef)),(.int .u32 (aC (ar K (ab bb 48) ss 64).g stateg)),_] _:=s_wv9.blk
    refine bXU.grow s_wv9.ch ?_
    rintro _ rfl
    have hp:=Ch.call (Ch.drew hp) s_wv9.ch (by exact fun k e=>.inr (e▸lo_gv5))
    have hk:=(hk.pu (Pu.aI _)).ch s_wv9.ch (fun k hx e=>(fun hx=>absurd (lt_hk _ hx) (Nat.not_lt.2 lo_gv5)) (e▸hx))
    have b_gv:=Ch.blk s_wv9.ch b_gv (ne_gv_gv5)
    have b_gv1:=Ch.blk s_wv9.ch (Blk.drew b_gv1) (ne_gv1_gv5)
    have b_gv2:=Ch.blk s_wv9.ch (Blk.drew b_gv2) (ne_gv2_gv5)
    have b_gv3:=Ch.blk s_wv9.ch (Blk.drew b_gv3) (ne_gv3_gv5)
    exact⟨0,by decide,hp,hk,⟨_,b_gv⟩,⟨_,b_gv1⟩,⟨_,b_gv2⟩,⟨_,b_gv3⟩,.inr (.inr (.inr (.inr (.inr (.inr (.inr (.inr (⟨rfl,rfl,⟨_,b_gv5⟩⟩))))))))⟩
   ·refine eQ ⟨_,_,_,_,_,_,_,_,⟨b_gv5.at rfl,b_gv5.at rfl,b_gv5.at rfl,b_gv5.at rfl,b_gv5.at rfl,b_gv5.at rfl,b_gv5.at rfl,b_gv5.at rfl⟩,cq b_gv2 rfl fun wv9 s_wv9=>?_⟩
    have b_gv2:=s_wv9.blk
    refine⟨_,_,_,_,_,_,_,_,⟨b_gv2.at rfl,b_gv2.at rfl,b_gv2.at rfl,b_gv2.at rfl,b_gv2.at rfl,b_gv2.at rfl,b_gv2.at rfl,b_gv2.at rfl⟩,?_⟩
    have hp:=Ch.call hp s_wv9.ch (by exact fun k e=>.inr (e▸lo_gv2))
    exact⟨congrArg Value.agg (wq (congrArg (Value.int .u32) (by rw [← hbb,← hss];subst hss;rfl)) (congrArg (Value.int .u32) (by rw [← hbb,← hss];subst hss;rfl)) (congrArg (Value.int .u32) (by rw [← hbb,← hss];subst hss;rfl)) (congrArg (Value.int .u32) (by rw [← hbb,← hss];subst hss;rfl)) (congrArg (Value.int .u32) (by rw [← hbb,← hss];subst hss;rfl)) (congrArg (Value.int .u32) (by rw [← hbb,← hss];subst hss;rfl)) (congrArg (Value.int .u32) (by rw [← hbb,← hss];subst hss;rfl)) (congrArg (Value.int .u32) (by rw [← hbb,← hss];subst hss;rfl))),hp⟩
theorem Dd {w:World}:
 Calls Tryz.prog 115 #[] w fun e w'=>∃v,e= .returned v∧v= .agg #[(.int .u32 S8.first.a),(.int .u32 S8.first.b),(.int .u32 S8.first.c),(.int .u32 S8.first.d),(.int .u32 S8.first.e),(.int .u32 S8.first.f),(.int .u32 S8.first.g),(.int .u32 S8.first.h)]∧Pu w w':=by
 refine uB ?_
 have hp:=Ch.refl (fun _=>False) w
 refine mkd fun gv wv m_gv=>?_
 have lo_gv:=m_gv.lo hp
 have b_gv:=m_gv.blk
 refine cq b_gv rfl fun wv1 s_wv1=>?_
 have b_gv:=s_wv1.blk
 refine⟨_,_,_,_,_,_,_,_,⟨b_gv.at rfl,b_gv.at rfl,b_gv.at rfl,b_gv.at rfl,b_gv.at rfl,b_gv.at rfl,b_gv.at rfl,b_gv.at rfl⟩,?_⟩
 have hp:=Ch.call (Ch.made hp m_gv) s_wv1.ch (by exact fun k e=>.inr (e▸lo_gv))
 exact⟨congrArg Value.agg (wq (congrArg (Value.int .u32) (by rfl)) (congrArg (Value.int .u32) (by rfl)) (congrArg (Value.int .u32) (by rfl)) (congrArg (Value.int .u32) (by rfl)) (congrArg (Value.int .u32) (by rfl)) (congrArg (Value.int .u32) (by rfl)) (congrArg (Value.int .u32) (by rfl)) (congrArg (Value.int .u32) (by rfl))),hp⟩
theorem Dm {w:World}:
 Calls Tryz.prog 116 #[] w fun e w'=>∃v,e= .returned v∧v= .agg #[(.int .u32 S8.first.a),(.int .u32 S8.first.b),(.int .u32 S8.first.c),(.int .u32 S8.first.d),(.int .u32 S8.first.e),(.int .u32 S8.first.f),(.int .u32 S8.first.g),(.int .u32 S8.first.h)]∧Pu w w':=by
 refine qS ?_
 have hp:=Ch.refl (fun _=>False) w
 refine mkd fun gv wv m_gv=>?_
 have lo_gv:=m_gv.lo hp
 have b_gv:=m_gv.blk
 refine cq b_gv rfl fun wv1 s_wv1=>?_
 have b_gv:=s_wv1.blk
 refine⟨_,_,_,_,_,_,_,_,⟨b_gv.at rfl,b_gv.at rfl,b_gv.at rfl,b_gv.at rfl,b_gv.at rfl,b_gv.at rfl,b_gv.at rfl,b_gv.at rfl⟩,?_⟩
 have hp:=Ch.call (Ch.made hp m_gv) s_wv1.ch (by exact fun k e=>.inr (e▸lo_gv))
 exact⟨congrArg Value.agg (wq (congrArg (Value.int .u32) (by rfl)) (congrArg (Value.int .u32) (by rfl)) (congrArg (Value.int .u32) (by rfl)) (congrArg (Value.int .u32) (by rfl)) (congrArg (Value.int .u32) (by rfl)) (congrArg (Value.int .u32) (by rfl)) (congrArg (Value.int .u32) (by rfl)) (congrArg (Value.int .u32) (by rfl))),hp⟩
end Go.Proofs.YtbjlecpmgocoeaaGreatDoor
end
section
namespace Go.Proofs.YtbjlecpmgocoeaaGreatDoor
open Go Go.RowKit V
open Go.IntKind (i64 u32 u64)
namespace Ent
theorem or0 {e:Ent}(h:e.ok=true):u32.wrap (BitVec.ofInt u32.bits (u32.wrap (BitVec.ofInt u32.bits (u32.wrap ((u32.wrap e.typ:Int)*2 ^ 0)) ||| BitVec.ofInt u32.bits (u32.wrap ((u32.wrap e.state:Int)*2 ^ 4))).toNat) ||| BitVec.ofInt u32.bits (u32.wrap ((u32.wrap e.owner:Int)*2 ^ 16))).toNat=e.typ+16*e.state+65536*e.owner:=by
 have h1:=cB h
 have h2:=gF h
 rw [bE (x:=e.typ) (by omega),bE (x:=e.state) (by omega),bE (x:=e.owner) (by omega),bE (x:=e.typ*2 ^ 0) (by omega),bE (x:=e.state*2 ^ 4) (by omega),bE (x:=e.owner*2 ^ 16) (by omega),pF (x:=e.typ*2 ^ 0) (by omega) (by omega),lX,
  show e.state*2 ^ 4=2 ^ 4*e.state by omega,fy 4 (by omega) (by omega) (by omega),pF (by omega) (by omega),lX,show e.owner*2 ^ 16=2 ^ 16*e.owner by omega,fy 16 (by omega) (by omega) (by omega)]
 omega
theorem or1 {x:Int}(h:∃a b:Int,x=a+512*b∧0≤a∧a<256∧0≤b∧b<8388608):u32.wrap (BitVec.ofInt u32.bits x ||| BitVec.ofInt u32.bits 256).toNat=x+256:=by
 obtain⟨a,b,rfl,h1,h2,h3,h4⟩:=h
 have e1:nor (2 ^ 8*1) a=2 ^ 8*1+a:=fy 8 (by omega) h1 h2
 have e2:nor (2 ^ 9*b) a=2 ^ 9*b+a:=fy 9 h3 h1 (by omega)
 have e3:nor (2 ^ 9*b) (256+a)=2 ^ 9*b+(256+a):=fy 9 h3 (by omega) (by omega)
 rw [pF (by omega) (by omega)]
 have assoc:∀x y z:Int,nor (nor x y) z=nor x (nor y z):=by
  intro x y z;unfold nor;simp [Nat.or_assoc]
 rw [show a+512*b=2 ^ 9*b+a by omega,← e2,assoc,lX a 256,show nor 256 a=256+a by simpa using e1,e3,e2]
 omega
theorem mask(k:Nat) {x:Int}(m:Int)(hm:m=2 ^ k - 1)(hk:k≤31)(hx:0≤x∧x<4294967296):i64.wrap (u32.wrap (BitVec.ofInt u32.bits x &&& BitVec.ofInt u32.bits m).toNat)=x % 2 ^ k:=by
 have h2:(2:Int) ^ k≤2 ^ 31:=by exact_mod_cast Nat.pow_le_pow_right (n:=2) (by omega) hk
 have h3:(0:Int)<2 ^ k:=Int.pow_pos (by omega)
 have h4:=Int.emod_nonneg x (Int.ne_of_gt h3)
 have h5:=Int.emod_lt_of_pos x h3
 subst hm
 rw [ur hx (by omega),sr k hx.1,ah (by omega)]
theorem Is(k:Nat) {x:Int}(m:Int)(hm:m=2 ^ k - 1)(hk:k≤31)(hx:0≤x∧x<4294967296):u32.wrap (BitVec.ofInt u32.bits x &&& BitVec.ofInt u32.bits m).toNat=x % 2 ^ k:=by
 have h2:(2:Int) ^ k≤2 ^ 31:=by exact_mod_cast Nat.pow_le_pow_right (n:=2) (by omega) hk
 have h3:(0:Int)<2 ^ k:=Int.pow_pos (by omega)
 subst hm
 rw [ur hx (by omega),sr k hx.1]
theorem kj {x:Int}(n:Nat)(hx:0≤x∧x<4294967296):0≤x.fdiv (2 ^ n)∧x.fdiv (2 ^ n)<4294967296:=by
 rw [nY]
 have h3:(0:Int)<2 ^ n:=Int.pow_pos (by omega)
 refine⟨Int.ediv_nonneg hx.1 (by omega),?_⟩
 have:=Int.ediv_le_self (2 ^ n) hx.1
 omega
theorem parts_eq {a b:Int}(ha:0≤a∧a<4294967296)(hb:0≤b∧b<4294967296):
 i64.wrap (u32.wrap (BitVec.ofInt u32.bits ((a:Int).fdiv (2 ^ 0)) &&& BitVec.ofInt u32.bits 7).toNat)=(parts a b).typ∧
 i64.wrap (u32.wrap (BitVec.ofInt u32.bits ((a:Int).fdiv (2 ^ 16)) &&& BitVec.ofInt u32.bits 63).toNat)=(parts a b).owner∧
 i64.wrap (u32.wrap (BitVec.ofInt u32.bits b &&& BitVec.ofInt u32.bits 63).toNat)=(parts a b).refs∧
 i64.wrap (u32.wrap (BitVec.ofInt u32.bits ((a:Int).fdiv (2 ^ 4)) &&& BitVec.ofInt u32.bits 3).toNat)=(parts a b).state∧
 ((u32.wrap (BitVec.ofInt u32.bits ((a:Int).fdiv (2 ^ 8)) &&& BitVec.ofInt u32.bits 1).toNat:Int)==1)=(parts a b).aD:=by
 refine⟨?_,?_,?_,?_,?_⟩
 ·rw [mask 3 7 (by decide) (by decide) (kj 0 ha),nY];simp [parts]
 ·rw [mask 6 63 (by decide) (by decide) (kj 16 ha),nY];simp [parts]
 ·rw [mask 6 63 (by decide) (by decide) hb];simp [parts]
 ·rw [mask 2 3 (by decide) (by decide) (kj 4 ha),nY];simp [parts]
 ·rw [Is 1 1 (by decide) (by decide) (kj 8 ha),nY];simp only [parts];rw [Bool.eq_iff_iff];simp
theorem eqW(a b c d:Int):bh #[.int .u32 a,.int .u32 b] #[.int .u32 c,.int .u32 d]=(decide (a=c) && decide (b=d)):=by
 simp [bh,eqL,kI];rfl
end Ent
end Go.Proofs.YtbjlecpmgocoeaaGreatDoor
end
section
set_option maxRecDepth 100000
set_option maxHeartbeats 1000000
namespace Go.Proofs.YtbjlecpmgocoeaaGreatDoor
open Go Go.RowKit V
open Go.IntKind (i64 u32 u64)
open Go.Proofs (Tryz.prog)
theorem Ent.eqC(a b c d a' b' c' d':Int)(e e':Bool):bh #[.int .i64 a,.int .i64 b,.int .i64 c,.int .i64 d,.bool e] #[.int .i64 a',.int .i64 b',.int .i64 c',.int .i64 d',.bool e']=decide (a=a'∧b=b'∧c=c'∧d=d'∧e=e'):=by
 simp [bh,eqL,kI];rw [Bool.eq_iff_iff];simp
theorem Ent.tZ {e:Ent}:(if e.ok then(0:Int)else 110)=0↔e.ok=true:=by cases e.ok<;>simp
def mI:Ctr Un:=⟨[.one (.int .i64)],[],[],[],fun n K=>K ⟨(.bool (decide (0≤n∧n≤63))),none,[],[],[]⟩⟩
def GC(n:Int)(Q:Ou Un→Prop):Prop:=
 ∃J:Bool→Prop,(
  split (decide (n≥0)) (
   J (decide (n≤63))) (
   J false))∧∀(_gv:Nat→Value)(x2:Bool),J x2→
 Q ⟨(.bool x2),none,[],[],[]⟩
theorem GD:Vc2 Un Tryz.prog (aV []) [] Tryz.f151 (.r' (.two (.node [] (some ⟨[(2,(.one .bool))],[],upN 2 7,[]⟩) [] [] .leaf .leaf) .leaf)) [] mI=(∀n,∀Q,(mI.body n Q)→GC n Q):=by kernel_rfl
theorem GB:LV Un Tryz.prog 151 mI:=verify Tryz.func151 aa (tb:= []) trivial (by kernel_rfl) (GD.mpr fun n Q h=>bH ((decide ((n:Int)≥0)) && (decide ((n:Int)≤63))) (ae (fun c1=>(by show _=_;rw [Bool.eq_iff_iff];simp_all<;>omega)) fun c1=>(by show _=_;rw [Bool.eq_iff_iff];simp_all<;>omega))<| bF h (by rw [Bool.eq_iff_iff];simp))
def ka:Ctr Un:=⟨[.agg [.int .i64,.int .i64,.int .i64,.int .i64,.bool]],[],[],[],fun ea eb ec ed ee K=>K ⟨(.int .i64 (if(Ent.mk ea eb ec ed ee).ok then 0 else 110)),none,[],[],[]⟩⟩
def E6(ea:Int)(eb:Int)(ec:Int)(ed:Int)(ee:Bool)(Q:Ou Un→Prop):Prop:=
 ∀(gv:Nat),
 ∀(gv1:Nat),
 ∃J:Bool→Prop,(
  split (decide (ea≥0)) (
   ∀ok:Bool,ok=(decide ((ea:Int)<7))→
   J ok) (
   ∀ok:Bool,ok=false→
   J ok))∧∀(_gv2:Nat→Value)(ok:Bool),J ok→
 ∃J1:Bool→Int→Int→Int→Int→Bool→Prop,(
  split (ea !=0) (
   ∃J2:Bool→Prop,(
    split ok (
     ∀ok1:Bool,ok1=(decide (0≤eb∧eb≤63))→
     J2 ok1) (
     ∀ok1:Bool,ok1=false→
     J2 ok1))∧∀(_gv3:Nat→Value)(ok1:Bool),J2 ok1→
   J1 ok1 ea eb 0 0 false) (
   J1 ok ea 0 0 0 false))∧∀(_gv3:Nat→Value)(ok1:Bool) y1a y1b y1c y1d (y1e:Bool),J1 ok1 y1a y1b y1c y1d y1e→
 ∀x30:Bool,x30=((ea:Int)==1)→
 split x30 (
  ∃J2:Bool→Prop,(
   split ok1 (
    split (decide (0≤ec∧ec≤63)) (
     split (decide (ed>0)) (
      ∀ok2:Bool,ok2=(decide ((ed:Int)<4))→
      J2 ok2) (
      ∀ok2:Bool,ok2=false→
      J2 ok2)) (
     ∀ok2:Bool,ok2=false→
     J2 ok2)) (
    ∀ok2:Bool,ok2=false→
    J2 ok2))∧∀(_gv4:Nat→Value)(ok2:Bool),J2 ok2→
  ∃J3:Bool→Prop,(
   split (!ok2) (
    J3 true) (
    J3 (!(bh #[(.int .i64 ea),(.int .i64 eb),(.int .i64 ec),(.int .i64 ed),(.bool ee)] #[(.int .i64 y1a),(.int .i64 y1b),(.int .i64 ec),(.int .i64 ed),(.bool y1e)]))))∧∀(_gv5:Nat→Value)(x65:Bool),J3 x65→
  split x65 (
   Q ⟨(.int .i64 110),none,[],[],[]⟩) (
   Q ⟨(.int .i64 0),none,[],[],[]⟩)) (
  ∀x54:Bool,x54=((ea:Int)==2)→
  split x54 (
   ∃J2:Bool→Prop,(
    split (!ok1) (
     J2 true) (
     J2 (!(bh #[(.int .i64 ea),(.int .i64 eb),(.int .i64 ec),(.int .i64 ed),(.bool ee)] #[(.int .i64 y1a),(.int .i64 y1b),(.int .i64 y1c),(.int .i64 y1d),(.bool ee)]))))∧∀(_gv4:Nat→Value)(x65:Bool),J2 x65→
   split x65 (
    Q ⟨(.int .i64 110),none,[],[],[]⟩) (
    Q ⟨(.int .i64 0),none,[],[],[]⟩)) (
   ∃J2:Bool→Prop,(
    split (!ok1) (
     J2 true) (
     J2 (!(bh #[(.int .i64 ea),(.int .i64 eb),(.int .i64 ec),(.int .i64 ed),(.bool ee)] #[(.int .i64 y1a),(.int .i64 y1b),(.int .i64 y1c),(.int .i64 y1d),(.bool y1e)]))))∧∀(_gv4:Nat→Value)(x65:Bool),J2 x65→
   split x65 (
    Q ⟨(.int .i64 110),none,[],[],[]⟩) (
    Q ⟨(.int .i64 0),none,[],[],[]⟩)))
theorem E7:Vc2 Un Tryz.prog (aV [(151,mI)]) [4,30,54] Tryz.f138 (.r' (.r' (.two (.node [] (some ⟨[(4,(.one .bool))],[],[4]++upN 8 8,[]⟩) [] [] .leaf .leaf) (.two (.r' (.node [] (some ⟨[(4,(.one .bool))],[],[4]++upN 19 9,[(1,(.blk [(.v (.int .i64)),(.v (.int .i64)),(.v (.int .i64)),(.v (.int .i64)),(.v .bool)]))]⟩) [] [] (.r' (.node [] (some ⟨[(4,(.one .bool))],[],[4]++upN 22 6,[]⟩) [] [] .leaf .leaf)) .leaf)) (.two (.r' (.two (.r' (.two (.two (.node [] none [] [(1,[0]),(3,[0])] .leaf .leaf) (.node [] (some ⟨[(4,(.one .bool))],[],[4]++upN 38 16,[]⟩) [] [] .leaf .leaf)) .leaf)) .leaf)) (.two (.two (.node [] (some ⟨[(65,(.one .bool))],[],upN 59 7,[]⟩) [] [] .leaf .leaf) .leaf) .leaf)))))) [] ka=(∀ea eb ec ed ee,∀Q,(ka.body ea eb ec ed ee Q)→E6 ea eb ec ed ee Q):=by kernel_rfl
section
attribute [local grind=] Ent.ok Ent.eqC
theorem E5:LV Un Tryz.prog 138 ka:=verify Tryz.func138 aa (tb:= [(151,mI)]) ⟨GB,trivial⟩ (by kernel_rfl) (E7.mpr fun ea eb ec ed ee Q h=>fun gv=>fun gv1=>bH ((decide ((ea:Int)≥0)) && (decide ((ea:Int)<7))) (ae (fun c1=>allEq<| (by grind)) fun c1=>allEq<| (by grind))<| ⟨fun ok1 y1a y1b y1c y1d y1e=>(ok1=(decide (0≤ea∧ea<7) && (ea==0 || decide (0≤eb∧eb≤63))))∧(y1a=ea∧y1b=(if ea=0 then 0 else eb)∧y1c=0∧y1d=0∧y1e=false),bt (fun c2=>bH (((decide ((ea:Int)≥0)) && (decide ((ea:Int)<7))) && (decide (0≤eb∧eb≤63))) (ae (fun c3=>allEq<| (by grind)) fun c3=>allEq<| (by grind))<| ⟨(by grind),(by grind)⟩) fun c2=>⟨(by grind),(by grind)⟩,fun _ ok1 y1a y1b y1c y1d y1e ⟨g1,g2⟩=>allEq<| aK (fun c4=>bH (ok1 && ((decide (0≤ec∧ec≤63)) && ((decide ((ed:Int)>0)) && (decide ((ed:Int)<4))))) (ae (fun c5=>ae (fun c6=>ae (fun c7=>allEq<| (by grind)) fun c7=>allEq<| (by grind)) fun c6=>allEq<| (by grind)) fun c5=>allEq<| (by grind))<| bH ((!(ok1 && ((decide (0≤ec∧ec≤63)) && ((decide ((ed:Int)>0)) && (decide ((ed:Int)<4)))))) || (!(bh #[(.int .i64 ea),(.int .i64 eb),(.int .i64 ec),(.int .i64 ed),(.bool ee)] #[(.int .i64 y1a),(.int .i64 y1b),(.int .i64 ec),(.int .i64 ed),(.bool y1e)]))) (ae (fun c8=>(by grind)) fun c8=>(by grind))<| aO (fun c9=>eH h (by grind)) fun c9=>eH h (by grind)) fun c4=>allEq<| aK (fun c10=>bH ((!ok1) || (!(bh #[(.int .i64 ea),(.int .i64 eb),(.int .i64 ec),(.int .i64 ed),(.bool ee)] #[(.int .i64 y1a),(.int .i64 y1b),(.int .i64 y1c),(.int .i64 y1d),(.bool ee)]))) (ae (fun c11=>(by grind)) fun c11=>(by grind))<| aO (fun c12=>eH h (by grind)) fun c12=>eH h (by grind)) fun c10=>bH ((!ok1) || (!(bh #[(.int .i64 ea),(.int .i64 eb),(.int .i64 ec),(.int .i64 ed),(.bool ee)] #[(.int .i64 y1a),(.int .i64 y1b),(.int .i64 y1c),(.int .i64 y1d),(.bool y1e)]))) (ae (fun c13=>(by grind)) fun c13=>(by grind))<| aO (fun c14=>eH h (by grind)) fun c14=>eH h (by grind)⟩)
end
def gU:Ctr Un:=⟨[.agg [.int .i64,.int .i64,.int .i64,.int .i64,.bool]],[],[],[],fun ea eb ec ed ee K=>K ⟨(.int .i64 (if(Ent.mk ea eb ec ed ee).ok then 0 else 110)),none,[],[],[]⟩⟩
def zB(ea:Int)(eb:Int)(ec:Int)(ed:Int)(ee:Bool)(Q:Ou Un→Prop):Prop:=
 ∀(gv:Nat),
 ∃J:Bool→Prop,(
  split (decide (ea<0)) (
   J true) (
   split (decide (ea>6)) (
    J true) (
    split (decide (eb<0)) (
     J true) (
     split (decide (eb>63)) (
      J true) (
      split (decide (ec<0)) (
       J true) (
       J (decide (ec>63))))))))∧∀(_gv1:Nat→Value)(x30:Bool),J x30→
 split x30 (
  Q ⟨(.int .i64 110),none,[],[],[]⟩) (
  ∃J1:Bool→Prop,(
   split (ea==0) (
    split (eb !=0) (
     J1 true) (
     split (ea !=1) (
      split (ec !=0) (
       J1 true) (
       split (ed !=0) (
        J1 true) (
        split (ea !=2) (
         J1 ee) (
         J1 false)))) (
      split (ea !=2) (
       J1 ee) (
       J1 false)))) (
    split (ea !=1) (
     split (ec !=0) (
      J1 true) (
      split (ed !=0) (
       J1 true) (
       split (ea !=2) (
        J1 ee) (
        J1 false)))) (
     split (ea !=2) (
      J1 ee) (
      J1 false))))∧∀(_gv2:Nat→Value)(x62:Bool),J1 x62→
  split x62 (
   Q ⟨(.int .i64 110),none,[],[],[]⟩) (
   ∃J2:Bool→Prop,(
    split (ea==1) (
     split (decide (ed<1)) (
      J2 true) (
      J2 (decide (ed>3)))) (
     J2 false))∧∀(_gv3:Nat→Value)(x75:Bool),J2 x75→
   split x75 (
    Q ⟨(.int .i64 110),none,[],[],[]⟩) (
    Q ⟨(.int .i64 0),none,[],[],[]⟩)))
theorem zC:Vc2 Un Tryz.prog (aV []) [] Tryz.f142 (.r' (.two (.two (.node [] (some ⟨[(30,(.one .bool))],[],upN 3 28,[]⟩) [] [] .leaf .leaf) .leaf) (.two (.two (.node [] (some ⟨[(62,(.one .bool))],[],upN 31 32,[]⟩) [] [] .leaf .leaf) .leaf) (.two (.two (.node [] (some ⟨[(75,(.one .bool))],[],upN 63 13,[]⟩) [] [] .leaf .leaf) .leaf) .leaf)))) [] gU=(∀ea eb ec ed ee,∀Q,(gU.body ea eb ec ed ee Q)→zB ea eb ec ed ee Q):=by kernel_rfl
section
attribute [local grind=] Ent.ok
theorem zA:LV Un Tryz.prog 142 gU:=verify Tryz.func142 aa (tb:= []) trivial (by kernel_rfl) (zC.mpr fun ea eb ec ed ee Q h=>fun gv=>bH ((decide ((ea:Int)<0)) || ((decide ((ea:Int)>6)) || ((decide ((eb:Int)<0)) || ((decide ((eb:Int)>63)) || ((decide ((ec:Int)<0)) || (decide ((ec:Int)>63))))))) (ae (fun c1=>(by grind)) fun c1=>ae (fun c2=>(by grind)) fun c2=>ae (fun c3=>(by grind)) fun c3=>ae (fun c4=>(by grind)) fun c4=>ae (fun c5=>(by grind)) fun c5=>(by grind))<| aO (fun c6=>eH h (by grind)) fun c6=>bH (if((ea:Int)==0)=true then(((eb:Int) !=0) || (if((ea:Int) !=1)=true then(((ec:Int) !=0) || (((ed:Int) !=0) || (((ea:Int) !=2) && ee)))else(((ea:Int) !=2) && ee)))else(if((ea:Int) !=1)=true then(((ec:Int) !=0) || (((ed:Int) !=0) || (((ea:Int) !=2) && ee)))else(((ea:Int) !=2) && ee))) (ae (fun c7=>ae (fun c8=>(by grind)) fun c8=>ae (fun c9=>ae (fun c10=>(by grind)) fun c10=>ae (fun c11=>(by grind)) fun c11=>ae (fun c12=>(by grind)) fun c12=>(by grind)) fun c9=>ae (fun c13=>(by grind)) fun c13=>(by grind)) fun c7=>ae (fun c14=>ae (fun c15=>(by grind)) fun c15=>ae (fun c16=>(by grind)) fun c16=>ae (fun c17=>(by grind)) fun c17=>(by grind)) fun c14=>ae (fun c18=>(by grind)) fun c18=>(by grind))<| ae (fun c19=>eH h (by grind)) fun c19=>bH (((ea:Int)==1) && ((decide ((ed:Int)<1)) || (decide ((ed:Int)>3)))) (ae (fun c20=>ae (fun c21=>(by grind)) fun c21=>(by grind)) fun c20=>(by grind))<| bL (fun c22=>eH h (by grind)) fun c22=>eH h (by grind))
end
def iY:Ctr Un:=⟨[.agg [.int .i64,.int .i64,.int .i64,.int .i64,.bool]],[],[],[],fun ea eb ec ed ee K=>∀(x:Int)(y:Int)(z:Int),((x=(if(Ent.mk ea eb ec ed ee).ok then(Ent.mk ea eb ec ed ee).w0 else 0)∧y=(if(Ent.mk ea eb ec ed ee).ok then(Ent.mk ea eb ec ed ee).w1 else 0)∧z=(if(Ent.mk ea eb ec ed ee).ok then 0 else 110)))→K ⟨(.tuple #[(.agg #[(.int .u32 x),(.int .u32 y)]),(.int .i64 z)]),(some (.t [none,none])),[],[],[]⟩⟩
def CG(ea:Int)(eb:Int)(ec:Int)(ed:Int)(ee:Bool)(Q:Ou Un→Prop):Prop:=
 ∀(gv:Nat),
 ∀(gv1:Nat),
 split (((if(Ent.mk ea eb ec ed ee).ok then 0 else 110):Int) !=0) (
  Q ⟨(.tuple #[(.agg #[(.int .u32 0),(.int .u32 0)]),(.int .i64 110)]),(some (.t [none,none])),[],[],[]⟩) (
  ∀wv:Int,wv=(u32.wrap (BitVec.ofInt u32.bits (u32.wrap (BitVec.ofInt u32.bits (u32.wrap ((u32.wrap ea:Int)*2 ^ 0)) ||| BitVec.ofInt u32.bits (u32.wrap ((u32.wrap ed:Int)*2 ^ 4))).toNat) ||| BitVec.ofInt u32.bits (u32.wrap ((u32.wrap eb:Int)*2 ^ 16))).toNat)→
  split ee (
   ∀wv1:Int,wv1=(u32.wrap (BitVec.ofInt u32.bits wv ||| BitVec.ofInt u32.bits 256).toNat)→
   Q ⟨(.tuple #[(.agg #[(.int .u32 wv1),(.int .u32 (u32.wrap ec))]),(.int .i64 0)]),(some (.t [none,none])),[],[],[]⟩) (
   Q ⟨(.tuple #[(.agg #[(.int .u32 wv),(.int .u32 (u32.wrap ec))]),(.int .i64 0)]),(some (.t [none,none])),[],[],[]⟩))
theorem CH:Vc2 Un Tryz.prog (aV [(138,ka)]) [4] Tryz.f114 .leaf [] iY=(∀ea eb ec ed ee,∀Q,(iY.body ea eb ec ed ee Q)→CG ea eb ec ed ee Q):=by kernel_rfl
theorem tm:LV Un Tryz.prog 114 iY:=verify Tryz.func114 aa (tb:= [(138,ka)]) ⟨E5,trivial⟩ (by kernel_rfl) (CH.mpr fun ea eb ec ed ee Q h=>fun gv=>fun gv1=>bt (fun c1=>(h 0 0 110 (by grind))) fun c1=>allEq<| ae (fun c2=>allEq<| aG (h (u32.wrap (BitVec.ofInt u32.bits (u32.wrap (BitVec.ofInt u32.bits (u32.wrap (BitVec.ofInt u32.bits (u32.wrap ((u32.wrap ea:Int)*2 ^ 0)) ||| BitVec.ofInt u32.bits (u32.wrap ((u32.wrap ed:Int)*2 ^ 4))).toNat) ||| BitVec.ofInt u32.bits (u32.wrap ((u32.wrap eb:Int)*2 ^ 16))).toNat) ||| BitVec.ofInt u32.bits 256).toNat) (u32.wrap ec) 0 (by have hk:=Ent.tZ.1 c1;have h1:=Ent.cB hk;have h2:=Ent.gF hk;simp only at h1 h2;rw [if_pos hk,if_pos hk,if_pos hk];refine⟨?_,bE (x:=ec) (by omega),rfl⟩;have h3:=Ent.or0 hk;simp only at h3;rw [h3,Ent.or1 ⟨ea+16*ed,128*eb,by omega⟩];simp [Ent.w0,c2])) (congrArg (fun l=>Value.tuple (List.toArray l)) (af (congrArg (fun l=>Value.agg (List.toArray l)) (af rfl (af (congrArg (Value.int .u32) (by rfl)) rfl))) (af rfl rfl))) rfl rfl) fun c2=>aG (h (u32.wrap (BitVec.ofInt u32.bits (u32.wrap (BitVec.ofInt u32.bits (u32.wrap ((u32.wrap ea:Int)*2 ^ 0)) ||| BitVec.ofInt u32.bits (u32.wrap ((u32.wrap ed:Int)*2 ^ 4))).toNat) ||| BitVec.ofInt u32.bits (u32.wrap ((u32.wrap eb:Int)*2 ^ 16))).toNat) (u32.wrap ec) 0 (by have hk:=Ent.tZ.1 c1;have h1:=Ent.cB hk;have h2:=Ent.gF hk;simp only at h1 h2;rw [if_pos hk,if_pos hk,if_pos hk];refine⟨?_,bE (x:=ec) (by omega),rfl⟩;have h3:=Ent.or0 hk;simp only at h3;rw [h3];simp [Ent.w0,c2])) (congrArg (fun l=>Value.tuple (List.toArray l)) (af (congrArg (fun l=>Value.agg (List.toArray l)) (af rfl (af (congrArg (Value.int .u32) (by rfl)) rfl))) (af rfl rfl))) rfl rfl)
def fI:Ctr Un:=⟨[.agg [.int .i64,.int .i64,.int .i64,.int .i64,.bool]],[],[],[],fun ea eb ec ed ee K=>∀(x:Int)(y:Int)(z:Int),((x=(if(Ent.mk ea eb ec ed ee).ok then(Ent.mk ea eb ec ed ee).w0 else 0)∧y=(if(Ent.mk ea eb ec ed ee).ok then(Ent.mk ea eb ec ed ee).w1 else 0)∧z=(if(Ent.mk ea eb ec ed ee).ok then 0 else 110)))→K ⟨(.tuple #[(.agg #[(.int .u32 x),(.int .u32 y)]),(.int .i64 z)]),(some (.t [none,none])),[],[],[]⟩⟩
def xp(ea:Int)(eb:Int)(ec:Int)(ed:Int)(ee:Bool)(Q:Ou Un→Prop):Prop:=
 ∀(gv:Nat),
 ∀(gv1:Nat),
 split (((if(Ent.mk ea eb ec ed ee).ok then 0 else 110):Int) !=0) (
  Q ⟨(.tuple #[(.agg #[(.int .u32 0),(.int .u32 0)]),(.int .i64 (if(Ent.mk ea eb ec ed ee).ok then 0 else 110))]),(some (.t [none,none])),[],[],[]⟩) (
  ∀wv:Int,wv=(i64.wrap ((i64.wrap (ea+(i64.wrap (16*ed))))+(i64.wrap (65536*eb))))→
  split ee (
   ∀wv1:Int,wv1=(i64.wrap (wv+256))→
   Q ⟨(.tuple #[(.agg #[(.int .u32 (u32.wrap wv1)),(.int .u32 (u32.wrap ec))]),(.int .i64 0)]),(some (.t [none,none])),[],[],[]⟩) (
   Q ⟨(.tuple #[(.agg #[(.int .u32 (u32.wrap wv)),(.int .u32 (u32.wrap ec))]),(.int .i64 0)]),(some (.t [none,none])),[],[],[]⟩))
theorem xq:Vc2 Un Tryz.prog (aV [(142,gU)]) [5] Tryz.f119 .leaf [] fI=(∀ea eb ec ed ee,∀Q,(fI.body ea eb ec ed ee Q)→xp ea eb ec ed ee Q):=by kernel_rfl
theorem oc:LV Un Tryz.prog 119 fI:=verify Tryz.func119 aa (tb:= [(142,gU)]) ⟨zA,trivial⟩ (by kernel_rfl) (xq.mpr fun ea eb ec ed ee Q h=>fun gv=>fun gv1=>bt (fun c1=>(h 0 0 (if(Ent.mk ea eb ec ed ee).ok then 0 else 110) (by grind))) fun c1=>allEq<| ae (fun c2=>allEq<| aG (h (u32.wrap (i64.wrap ((i64.wrap ((i64.wrap (ea+(i64.wrap (16*ed))))+(i64.wrap (65536*eb))))+256))) (u32.wrap ec) 0 (by have hk:=Ent.tZ.1 c1;have h1:=Ent.cB hk;have h2:=Ent.gF hk;simp only at h1 h2;rw [if_pos hk,if_pos hk,if_pos hk];refine⟨?_,bE (x:=ec) (by omega),rfl⟩;simp only [IntKind.wrap_i64,IntKind.wrap_u32,Ent.w0,c2];simp;omega)) (congrArg (fun l=>Value.tuple (List.toArray l)) (af (congrArg (fun l=>Value.agg (List.toArray l)) (af (congrArg (Value.int .u32) (by rfl)) (af (congrArg (Value.int .u32) (by rfl)) rfl))) (af rfl rfl))) rfl rfl) fun c2=>aG (h (u32.wrap (i64.wrap ((i64.wrap (ea+(i64.wrap (16*ed))))+(i64.wrap (65536*eb))))) (u32.wrap ec) 0 (by have hk:=Ent.tZ.1 c1;have h1:=Ent.cB hk;have h2:=Ent.gF hk;simp only at h1 h2;rw [if_pos hk,if_pos hk,if_pos hk];refine⟨?_,bE (x:=ec) (by omega),rfl⟩;simp only [IntKind.wrap_i64,IntKind.wrap_u32,Ent.w0,c2];simp;omega)) (congrArg (fun l=>Value.tuple (List.toArray l)) (af (congrArg (fun l=>Value.agg (List.toArray l)) (af (congrArg (Value.int .u32) (by rfl)) (af (congrArg (Value.int .u32) (by rfl)) rfl))) (af rfl rfl))) rfl rfl)
theorem Ent.Av {a b x y z:Int}(h:x=(if(parts a b).ok then(parts a b).w0 else 0)∧y=(if(parts a b).ok then(parts a b).w1 else 0)∧z=(if(parts a b).ok then 0 else 110))(c:(z !=0)=true∨(!(bh #[.int .u32 x,.int .u32 y] #[.int .u32 a,.int .u32 b]))=true):dec a b=free∧cC a b=110:=by
 obtain⟨rfl,rfl,rfl⟩:=h
 rw [eqW]at c
 cases hk:(parts a b).ok<;>simp [hk]at c
 ·simp [dec,cC,hk]
 ·have h2:¬((parts a b).w0=a∧(parts a b).w1=b):=by rcases c with c | c<;>simp [c]
  simp [dec,cC,hk,h2]
theorem Ent.vX {a b x y z:Int}(h:x=(if(parts a b).ok then(parts a b).w0 else 0)∧y=(if(parts a b).ok then(parts a b).w1 else 0)∧z=(if(parts a b).ok then 0 else 110))(c:(z !=0)=false∧(!(bh #[.int .u32 x,.int .u32 y] #[.int .u32 a,.int .u32 b]))=false):dec a b=parts a b∧cC a b=0:=by
 obtain⟨rfl,rfl,rfl⟩:=h
 rw [eqW]at c
 cases hk:(parts a b).ok<;>simp [hk]at c
 simp [dec,cC,hk,c]
def nH:Ctr Un:=⟨[.agg [.int .u32,.int .u32]],[],[],[],fun wa wb K=>(0≤(wa:Int)∧(wa:Int)<4294967296)∧(0≤(wb:Int)∧(wb:Int)<4294967296)∧K ⟨(.tuple #[(.agg #[(.int .i64 ((Ent.dec wa wb).typ)),(.int .i64 ((Ent.dec wa wb).owner)),(.int .i64 ((Ent.dec wa wb).refs)),(.int .i64 ((Ent.dec wa wb).state)),(.bool ((Ent.dec wa wb).aD))]),(.int .i64 (Ent.cC wa wb))]),(some (.t [none,none])),[],[],[]⟩⟩
def CJ(wa:Int)(wb:Int)(Q:Ou Un→Prop):Prop:=
 ∀(gv:Nat),
 ∀(gv1:Nat),
 (0≤(0:Int)∧(0:Int)<(2:Int))∧
 ∀x11:Int,x11=(i64.wrap (u32.wrap (BitVec.ofInt u32.bits ((wa:Int).fdiv (2 ^ 0)) &&& BitVec.ofInt u32.bits 7).toNat))→
 (0≤(0:Int)∧(0:Int)<(2:Int))∧
 ∀x16:Int,x16=(i64.wrap (u32.wrap (BitVec.ofInt u32.bits ((wa:Int).fdiv (2 ^ 4)) &&& BitVec.ofInt u32.bits 3).toNat))→
 (0≤(0:Int)∧(0:Int)<(2:Int))∧
 ∀x21:Bool,x21=((u32.wrap (BitVec.ofInt u32.bits ((wa:Int).fdiv (2 ^ 8)) &&& BitVec.ofInt u32.bits 1).toNat:Int)==1)→
 (0≤(0:Int)∧(0:Int)<(2:Int))∧
 ∀x26:Int,x26=(i64.wrap (u32.wrap (BitVec.ofInt u32.bits ((wa:Int).fdiv (2 ^ 16)) &&& BitVec.ofInt u32.bits 63).toNat))→
 (0≤(1:Int)∧(1:Int)<(2:Int))∧
 ∀x30:Int,x30=(i64.wrap (u32.wrap (BitVec.ofInt u32.bits wb &&& BitVec.ofInt u32.bits 63).toNat))→
 ∀(gv2:Nat),
 ∀(x:Int)(y:Int)(z:Int),
 ((x=(if(Ent.mk x11 x26 x30 x16 x21).ok then(Ent.mk x11 x26 x30 x16 x21).w0 else 0)∧y=(if(Ent.mk x11 x26 x30 x16 x21).ok then(Ent.mk x11 x26 x30 x16 x21).w1 else 0)∧z=(if(Ent.mk x11 x26 x30 x16 x21).ok then 0 else 110)))→
 ∀(gv3:Nat),
 ∃J:Bool→Prop,(
  split (z !=0) (
   J true) (
   J (!(bh #[(.int .u32 x),(.int .u32 y)] #[(.int .u32 wa),(.int .u32 wb)]))))∧∀(_gv4:Nat→Value)(x43:Bool),J x43→
 split x43 (
  Q ⟨(.tuple #[(.agg #[(.int .i64 0),(.int .i64 0),(.int .i64 0),(.int .i64 0),(.bool false)]),(.int .i64 110)]),(some (.t [none,none])),[],[],[]⟩) (
  Q ⟨(.tuple #[(.agg #[(.int .i64 x11),(.int .i64 x26),(.int .i64 x30),(.int .i64 x16),(.bool x21)]),(.int .i64 0)]),(some (.t [none,none])),[],[],[]⟩)
theorem CK:Vc2 Un Tryz.prog (aV [(114,iY)]) [11,16,21,26,30] Tryz.f113 (.r' (.r' (.two (.r' (.two (.node [] (some ⟨[(43,(.one .bool))],[],upN 37 7,[]⟩) [] [] .leaf .leaf) .leaf)) .leaf))) [] nH=(∀wa wb,∀Q,(nH.body wa wb Q)→CJ wa wb Q):=by kernel_rfl
theorem CI:LV Un Tryz.prog 113 nH:=verify Tryz.func113 aa (tb:= [(114,iY)]) ⟨tm,trivial⟩ (by kernel_rfl) (CK.mpr fun wa wb Q h=>by
 obtain⟨e1,e2,e3,e4,e5⟩:=Ent.parts_eq h.1 h.2.1
 obtain⟨hp0,hp1,h⟩:=h
 exact fun gv=>fun gv1=>ai (by omega) fun s1=>fun x11 h_x11=>ai ‹_› fun s2=>fun x16 h_x16=>ai ‹_› fun s3=>fun x21 h_x21=>ai ‹_› fun s4=>fun x26 h_x26=>ai (by omega) fun s5=>fun x30 h_x30=>fun gv2=>fun x y z f6=>(by rw [e1]at h_x11;rw [e2]at h_x26;rw [e3]at h_x30;rw [e4]at h_x16;rw [e5]at h_x21;subst h_x11 h_x26 h_x30 h_x16 h_x21;exact fun gv3=>bH (((z:Int) !=0) || (!(bh #[(.int .u32 x),(.int .u32 y)] #[(.int .u32 wa),(.int .u32 wb)]))) (ae (fun c1=>(by grind)) fun c1=>(by grind))<| aO (fun c2=>(by have hd:=Ent.Av (a:=wa) (b:=wb) f6 c2;exact aG h (by rw [hd.1,hd.2]<;>rfl) rfl rfl)) fun c2=>(by have hd:=Ent.vX (a:=wa) (b:=wb) f6 c2;exact aG h (by rw [hd.1,hd.2]<;>rfl) rfl rfl)))
def fJ:Ctr Un:=⟨[.agg [.int .u32,.int .u32]],[],[],[],fun wa wb K=>((0≤(wa:Int)∧(wa:Int)<4294967296)∧(0≤(wb:Int)∧(wb:Int)<4294967296))∧K ⟨(.tuple #[(.agg #[(.int .i64 ((Ent.dec wa wb).typ)),(.int .i64 ((Ent.dec wa wb).owner)),(.int .i64 ((Ent.dec wa wb).refs)),(.int .i64 ((Ent.dec wa wb).state)),(.bool ((Ent.dec wa wb).aD))]),(.int .i64 (Ent.cC wa wb))]),(some (.t [none,none])),[],[],[]⟩⟩
def xt(wa:Int)(wb:Int)(Q:Ou Un→Prop):Prop:=
 ∀(gv:Nat),
 ∀(gv1:Nat),
 (0≤(0:Int)∧(0:Int)<(2:Int))∧
 ∀n:Int,n=(i64.wrap wa)→
 ∀x12:Int,x12=((n:Int).tmod 8)→
 ∀x15:Int,x15=((i64.wrap ((n:Int).tdiv 16):Int).tmod 4)→
 ∀x19:Bool,x19=(((i64.wrap ((n:Int).tdiv 256):Int).tmod 2:Int)==1)→
 ∀x22:Int,x22=((i64.wrap ((n:Int).tdiv 65536):Int).tmod 64)→
 (0≤(1:Int)∧(1:Int)<(2:Int))∧
 ∀x26:Int,x26=((i64.wrap wb:Int).tmod 64)→
 ∀(gv2:Nat),
 ∀(x:Int)(y:Int)(z:Int),
 ((x=(if(Ent.mk x12 x22 x26 x15 x19).ok then(Ent.mk x12 x22 x26 x15 x19).w0 else 0)∧y=(if(Ent.mk x12 x22 x26 x15 x19).ok then(Ent.mk x12 x22 x26 x15 x19).w1 else 0)∧z=(if(Ent.mk x12 x22 x26 x15 x19).ok then 0 else 110)))→
 ∀(gv3:Nat),
 ∃J:Bool→Prop,(
  split (z !=0) (
   J true) (
   J (!(bh #[(.int .u32 x),(.int .u32 y)] #[(.int .u32 wa),(.int .u32 wb)]))))∧∀(_gv4:Nat→Value)(x39:Bool),J x39→
 split x39 (
  Q ⟨(.tuple #[(.agg #[(.int .i64 0),(.int .i64 0),(.int .i64 0),(.int .i64 0),(.bool false)]),(.int .i64 110)]),(some (.t [none,none])),[],[],[]⟩) (
  Q ⟨(.tuple #[(.agg #[(.int .i64 x12),(.int .i64 x22),(.int .i64 x26),(.int .i64 x15),(.bool x19)]),(.int .i64 0)]),(some (.t [none,none])),[],[],[]⟩)
theorem xu:Vc2 Un Tryz.prog (aV [(119,fI)]) [4,12,15,19,22,26] Tryz.f120 (.r' (.r' (.r' (.r' (.two (.two (.node [] (some ⟨[(39,(.one .bool))],[],upN 33 7,[]⟩) [] [] .leaf .leaf) .leaf) .leaf))))) [] fJ=(∀wa wb,∀Q,(fJ.body wa wb Q)→xt wa wb Q):=by kernel_rfl
theorem xr:LV Un Tryz.prog 120 fJ:=verify Tryz.func120 aa (tb:= [(119,fI)]) ⟨oc,trivial⟩ (by kernel_rfl) (xu.mpr fun wa wb Q h=>by
 obtain⟨hp0,h⟩:=h
 exact fun gv=>fun gv1=>ai (by omega) fun s1=>fun n h_n=>fun x12 h_x12=>fun x15 h_x15=>fun x19 h_x19=>fun x22 h_x22=>ai (by omega) fun s2=>fun x26 h_x26=>fun gv2=>fun x y z f3=>(by(have dv:∀k:Int,0<k→i64.wrap (wa.tdiv k)=wa / k:=fun k hk=>by rw [Int.tdiv_eq_ediv_of_nonneg hp0.1.1];have:=Int.ediv_nonneg hp0.1.1 (Int.le_of_lt hk);have:=Int.ediv_le_self k hp0.1.1;exact ah (by omega));(have td:∀x k:Int,0≤x→x.tmod k=x % k:=fun x k hx=>Int.tmod_eq_emod_of_nonneg hx);(have e3:(i64.wrap wb).tmod 64=(Ent.parts wa wb).refs:=by rw [ah (by omega),td _ _ hp0.2.1];rfl);(rw [ah (by omega)]at h_n);rw [h_n]at h_x12 h_x15 h_x19 h_x22;(rw [dv _ (by omega),td _ _ (by omega)]at h_x15);(rw [dv _ (by omega),td _ _ (by omega)]at h_x22);rw [td _ _ hp0.1.1]at h_x12;rw [e3]at h_x26;(have h9:x19=(Ent.parts wa wb).aD:=by rw [h_x19,dv _ (by omega),td _ _ (by omega),Bool.eq_iff_iff];simp [Ent.parts]);clear h_x19;subst h_x12 h_x15 h9 h_x22 h_x26;exact fun gv3=>bH (((z:Int) !=0) || (!(bh #[(.int .u32 x),(.int .u32 y)] #[(.int .u32 wa),(.int .u32 wb)]))) (ae (fun c1=>(by grind)) fun c1=>(by grind))<| aO (fun c2=>(by have hd:=Ent.Av (a:=wa) (b:=wb) f3 c2;exact aG h (by rw [hd.1,hd.2]<;>rfl) rfl rfl)) fun c2=>(by have hd:=Ent.vX (a:=wa) (b:=wb) f3 c2;exact aG h (by rw [hd.1,hd.2]<;>rfl) rfl rfl)))
theorem puC {P:Program} {f:Nat} {args:Array Value} {w:World} {v:Value} {k:Option Kn}(h:∀X:Nat→Nat→Prop,Sat (U:=Un) [] X w→aA (U:=Un) [] fr0 []→Calls P f args w (aS (U:=Un) [] [] X w (fun o=>o=⟨v,k,[],[],[]⟩))):Calls P f args w fun e w'=>∃u,e= .returned u∧u=v∧Pu w w':=by
 refine(h (fun _ _=>False) ⟨fun i r h=>by simp [nth]at h,fun _ _ _ _ _ _ h=>h.elim⟩ (fun _ _ h=>by cases h)).mono ?_
 rintro e w' ⟨out,rs',X',rfl,rfl,_,hp⟩
 exact⟨_,rfl,rfl,hp.ch.mono fun k ⟨j,hj,_⟩=>by cases hj⟩
theorem F1 {w:World}(ea eb ec ed:Int)(ee:Bool):
 Calls Tryz.prog 114 #[(.agg #[(.int .i64 ea),(.int .i64 eb),(.int .i64 ec),(.int .i64 ed),(.bool ee)])] w fun e w'=>∃v,e= .returned v∧v= .tuple #[(.agg #[(.int .u32 (if(Ent.mk ea eb ec ed ee).ok then(Ent.mk ea eb ec ed ee).w0 else 0)),(.int .u32 (if(Ent.mk ea eb ec ed ee).ok then(Ent.mk ea eb ec ed ee).w1 else 0))]),(.int .i64 (if(Ent.mk ea eb ec ed ee).ok then 0 else 110))]∧Pu w w':=
 puC fun X=>tm ea eb ec ed ee (fun o=>o=_) (fun x y z h=>by obtain⟨rfl,rfl,rfl⟩:=h;rfl) X w
theorem Bi {w:World}(ea eb ec ed:Int)(ee:Bool):
 Calls Tryz.prog 119 #[(.agg #[(.int .i64 ea),(.int .i64 eb),(.int .i64 ec),(.int .i64 ed),(.bool ee)])] w fun e w'=>∃v,e= .returned v∧v= .tuple #[(.agg #[(.int .u32 (if(Ent.mk ea eb ec ed ee).ok then(Ent.mk ea eb ec ed ee).w0 else 0)),(.int .u32 (if(Ent.mk ea eb ec ed ee).ok then(Ent.mk ea eb ec ed ee).w1 else 0))]),(.int .i64 (if(Ent.mk ea eb ec ed ee).ok then 0 else 110))]∧Pu w w':=
 puC fun X=>oc ea eb ec ed ee (fun o=>o=_) (fun x y z h=>by obtain⟨rfl,rfl,rfl⟩:=h;rfl) X w
theorem At {w:World}(wa wb:Int)(ha:0≤wa∧wa<4294967296)(hb:0≤wb∧wb<4294967296):
 Calls Tryz.prog 113 #[(.agg #[(.int .u32 wa),(.int .u32 wb)])] w fun e w'=>∃v,e= .returned v∧v=(.tuple #[(.agg #[(.int .i64 ((Ent.dec wa wb).typ)),(.int .i64 ((Ent.dec wa wb).owner)),(.int .i64 ((Ent.dec wa wb).refs)),(.int .i64 ((Ent.dec wa wb).state)),(.bool ((Ent.dec wa wb).aD))]),(.int .i64 (Ent.cC wa wb))])∧Pu w w':=
 puC fun X=>CI wa wb (fun o=>o=_) ⟨ha,hb,rfl⟩ X w
end Go.Proofs.YtbjlecpmgocoeaaGreatDoor
end
section
set_option maxRecDepth 10000
set_option maxHeartbeats 1000000
namespace Go.Proofs.YtbjlecpmgocoeaaGreatDoor
open Go Go.RowKit V
open Go.IntKind (i64 u32 u64)
theorem y5 {w:World}(t:Int):
 Calls Tryz.prog 82 #[(.int .i64 t)] w fun e w'=>∃v,e= .returned v∧v= .bool (DB.turns t)∧Pu w w':=by
 refine uL _ ?_
 have hp:=Ch.refl (fun _=>False) w
 refine⟨fun x w'=>x=(((t:Int)==4) || (((t:Int)==5) || ((t:Int)==6)))∧Pu w w',?_,?_⟩
 ·refine ae (fun c1=>?_) (fun c1=>?_)
  ·exact⟨by simp only [c1,Bool.true_and,Bool.and_true,Bool.false_and,Bool.and_false,Bool.true_or,Bool.or_true,Bool.false_or,Bool.or_false,Bool.not_true,Bool.not_false,if_true,if_false,Bool.false_eq_true],Ch.refl _ _⟩
  ·refine ae (fun c2=>?_) (fun c2=>?_)
   ·exact⟨by simp only [c1,c2,Bool.true_and,Bool.and_true,Bool.false_and,Bool.and_false,Bool.true_or,Bool.or_true,Bool.false_or,Bool.or_false,Bool.not_true,Bool.not_false,if_true,if_false,Bool.false_eq_true],Ch.refl _ _⟩
   ·exact⟨by simp only [c1,c2,Bool.true_and,Bool.and_true,Bool.false_and,Bool.and_false,Bool.true_or,Bool.or_true,Bool.false_or,Bool.or_false,Bool.not_true,Bool.not_false,if_true,if_false,Bool.false_eq_true],Ch.refl _ _⟩
 rintro _ _ wv ⟨rfl,q_wv⟩
 have hp:=Ch.pu hp q_wv
 exact⟨congrArg Value.bool (by simp [DB.turns,Bool.or_assoc]),hp⟩
theorem ju {w:World}(aq:Int):
 Calls Tryz.prog 75 #[(.int .i64 aq)] w fun e w'=>∃v,e= .returned v∧v= .agg #[(.bool true),(.int .i64 aq)]∧Pu w w':=by
 refine rZ _ ?_
 have hp:=Ch.refl (fun _=>False) w
 refine mkd fun gv wv m_gv=>?_
 have lo_gv:=m_gv.lo hp
 have b_gv:=m_gv.blk
 refine bz b_gv (by simp) fun wv1 s_wv1=>?_
 have b_gv:Blk wv1 gv #[(.bool true),(.int .i64 aq)] _:=s_wv1.blk
 refine⟨_,_,⟨b_gv.at rfl,b_gv.at rfl⟩,?_⟩
 have hp:=Ch.call (Ch.made hp m_gv) s_wv1.ch (by exact fun k e=>.inr (e▸lo_gv))
 exact⟨rfl,hp⟩
theorem y7 {L:dy} {D:DB} {w:World}(h:DBP w L D):
 Calls Tryz.prog 18 #[(.pointer (some (Addr.mk L.g 0 none)))] w fun e w'=>∃v,e= .returned v∧v= .int .i64 (D.S:Int)∧w'=w:=by
 refine mM (some (Addr.mk L.g 0 none)) ?_
 obtain⟨_,dhd_h⟩:=h.hd
 refine ak _ rfl ⟨_,_,_,dhd_h.at rfl,?_⟩
 exact⟨congrArg (Value.int .i64) (by have:=h.S64;rw [ah (by rw [Int.tdiv_eq_ediv_of_nonneg (by omega)];unfold DB.S DB.n2 at *;omega)];rw [Int.tdiv_eq_ediv_of_nonneg (by omega)];unfold DB.S DB.n2;omega),rfl⟩
theorem ug {L:dy} {D:DB} {w:World}(h:DBP w L D)(aq:Int):
 Calls Tryz.prog 79 #[(.pointer (some (Addr.mk L.g 0 none))),(.int .i64 aq)] w fun e w'=>∃v,e= .returned v∧v= .bool (D.has aq)∧Pu w w':=by
 refine rn (some (Addr.mk L.g 0 none)) _ ?_
 have hp:=Ch.refl (fun _=>False) w
 have lt_h:=h.lt
 refine⟨fun x w'=>x=((decide ((aq:Int)≥0)) && (decide ((aq:Int)<(D.S:Int))))∧Pu w w',?_,?_⟩
 ·refine ae (fun c1=>?_) (fun c1=>?_)
  ·refine Calls.mono (y7 h) ?_
   rintro e w9 ⟨_,rfl,rfl,e9⟩
   obtain rfl:=e9.symm
   refine⟨_,rfl,?_⟩
   exact⟨by simp only [c1,Bool.true_and,Bool.and_true,Bool.false_and,Bool.and_false,Bool.true_or,Bool.or_true,Bool.false_or,Bool.or_false,Bool.not_true,Bool.not_false,if_true,if_false,Bool.false_eq_true],Ch.refl _ _⟩
  ·exact⟨by simp only [c1,Bool.true_and,Bool.and_true,Bool.false_and,Bool.and_false,Bool.true_or,Bool.or_true,Bool.false_or,Bool.or_false,Bool.not_true,Bool.not_false,if_true,if_false,Bool.false_eq_true],Ch.refl _ _⟩
 rintro _ _ wv ⟨rfl,q_wv⟩
 have hp:=Ch.pu hp q_wv
 exact⟨congrArg Value.bool (by rw [Bool.eq_iff_iff];simp [DB.has]),hp⟩
theorem dAt {L:dy} {D:DB} {w:World}(h:DBP w L D)(aq:Int)(hp:D.has aq=true):
 Calls Tryz.prog 80 #[.pointer (some (Addr.mk L.g 0 none)),.int .i64 aq] w fun e w'=>∃v,e= .returned v∧v= .agg #[.int .i64 (D.at_ aq).typ,.int .i64 (D.at_ aq).owner,.int .i64 (D.at_ aq).refs,.int .i64 (D.at_ aq).state,.bool (D.at_ aq).aD]∧Pu w w':=by
 refine CX _ _ ?_
 refine mkd fun gv wv m=>?_
 have h1:=h.pu m.pu
 obtain⟨T,hd⟩:=h1.hd
 obtain⟨T2,cs,hr,hsz,hw⟩:=h1.ws
 have hn:=DB.dF hp
 have ho:=DB.cH hp
 have h64:=h.S64
 have e0:i64.wrap (2*aq)=2*aq:=ah (by omega)
 have e1:(2*aq).toNat=2*aq.toNat:=by omega
 have e2:D.n2=2*D.S:=rfl
 refine ak _ rfl ⟨_,_,_,hd.at rfl,by rw [e0,e2];omega,?_⟩
 rintro _ rfl _ rfl _ rfl
 rw [e0,e1,e2]
 refine⟨by omega,ak (Addr.mk L.a (2*aq.toNat) none) (by rw [if_neg (by omega)];simp [Addr.add];omega) ?_⟩
 refine⟨_,_,⟨by rw [bx];exact hr.cell (hw _ hn).1,by rw [bx];exact hr.cell (hw _ hn).2⟩,?_⟩
 have hok:=(h.ok.ent _ hn).1
 refine Calls.mono (At _ _ (Ent.uZ hok) (Ent.uY hok)) ?_
 rw [(Ent.Au hok).1,(Ent.Au hok).2]
 rintro e w1 ⟨_,rfl,rfl,q1⟩
 refine⟨_,_,_,_,_,_,rfl,?_⟩
 refine mkd fun g1 w2 m1=>?_
 have b1:=m1.blk
 have b0:=m1.old (q1.blk m.blk)
 have ne:=m1.ne (q1.blk m.blk)
 refine bz b1 (by simp) fun w3 s3=>?_
 have b1':Blk w3 g1 #[.int .i64 (D.at_ aq).typ,.int .i64 (D.at_ aq).owner,.int .i64 (D.at_ aq).refs,.int .i64 (D.at_ aq).state,.bool (D.at_ aq).aD] _:=s3.blk
 refine⟨_,_,_,_,_,⟨b1'.at rfl,b1'.at rfl,b1'.at rfl,b1'.at rfl,b1'.at rfl⟩,?_⟩
 refine bz (s3.old b0 ne) (by simp) fun w4 s4=>?_
 have b0':Blk w4 gv #[.int .i64 (D.at_ aq).typ,.int .i64 (D.at_ aq).owner,.int .i64 (D.at_ aq).refs,.int .i64 (D.at_ aq).state,.bool (D.at_ aq).aD] _:=s4.blk
 refine⟨_,_,_,_,_,⟨b0'.at rfl,b0'.at rfl,b0'.at rfl,b0'.at rfl,b0'.at rfl⟩,?_⟩
 have hp0:Pu w wv:=m.pu
 have hp2:Pu w w2:=(hp0.trans q1).made m1
 exact⟨rfl,(hp2.stored s3 (.inr (m1.lo (hp0.trans q1)))).stored s4 (.inr (m.lo (Ch.refl (fun _=>False) w)))⟩
theorem v5 {L:dy} {D:DB} {w:World}(h:DBP w L D)(aq:Int)(ea eb ec ed:Int)(ee:Bool)(hp:D.has aq=true)(he:(Ent.mk ea eb ec ed ee).ok=true)(hown:eb<(D.S:Int)):
 Calls Tryz.prog 81 #[.pointer (some (Addr.mk L.g 0 none)),.int .i64 aq,.agg #[.int .i64 ea,.int .i64 eb,.int .i64 ec,.int .i64 ed,.bool ee]] w fun e w'=>∃v,e= .returned v∧v= .tuple #[]∧DBP w' L (D.set aq ⟨ea,eb,ec,ed,ee⟩)∧Ch L.X w w':=by
 refine zU _ _ _ _ _ _ _ ?_
 refine mkd fun gv wv m=>?_
 have b:=m.blk
 refine⟨_,_,_,_,_,⟨b.at rfl,b.at rfl,b.at rfl,b.at rfl,b.at rfl⟩,?_⟩
 refine Calls.mono (F1 _ _ _ _ _) ?_
 rw [if_pos he,if_pos he,if_pos he]
 rintro e w1 ⟨_,rfl,rfl,q1⟩
 refine⟨_,_,_,rfl,?_⟩
 refine mkd fun g1 w2 m1=>?_
 have p2:Pu w w2:=((show Pu w wv from m.pu).trans q1).made m1
 refine bz m1.blk (by simp) fun w3 s3=>?_
 have b1:Blk w3 g1 #[.int .u32 (Ent.mk ea eb ec ed ee).w0,.int .u32 (Ent.mk ea eb ec ed ee).w1] _:=s3.blk
 have p3:Pu w w3:=p2.stored s3 (.inr (m1.lo ((show Pu w wv from m.pu).trans q1)))
 have h3:=(h.pu p3).pu (Pu.aI w3)
 have b1:=b1.drew
 obtain⟨T,hd⟩:=h3.hd
 obtain⟨T2,cs,hr,hsz,hw⟩:=h3.ws
 have hn:=DB.dF hp
 have ho:=DB.cH hp
 have h64:=h.S64
 have e0:i64.wrap (2*aq)=2*aq:=ah (by omega)
 have e1:(2*aq).toNat=2*aq.toNat:=by omega
 have e2:D.n2=2*D.S:=rfl
 have hga:g1≠L.a:=fun e=>by have h5:=(h.lt L.a (.inr (.inl rfl)));have h6:=m1.lo ((show Pu w wv from m.pu).trans q1);omega
 refine⟨fun _ k=>k=L.g,ak _ rfl ⟨block_add _ _,_,_,_,hd.at rfl,by rw [e0,e2];omega,?_⟩⟩
 rintro _ rfl _ rfl _ rfl _ rfl _ rfl _ rfl
 rw [e0,e1,e2,if_neg (by omega),if_neg (by omega)]
 have hl:cN w3.drew (fun k=>k=g1) .u32 (some ((Addr.mk g1 0 none).add (0*1))) (2 - 0) (2 - 0) [(Ent.mk ea eb ec ed ee).w0,(Ent.mk ea eb ec ed ee).w1]:=
  cN.blk (m:=0) (Z:=fun k=>k=g1) b1 rfl (Nat.le_refl _) rfl (fun j x hx=>by
   match j with
   | 0=>simp at hx;subst hx;rfl
   | 1=>simp at hx;subst hx;rfl
   | j+2=>simp at hx)
 have hA:(Option.map (fun x:Addr=>x.add (2*aq.toNat *1)) (some (Addr.mk L.a 0 none)))=some (Addr.mk L.a (2*aq.toNat) none):=by simp [Addr.add];omega
 rw [hA]
 obtain⟨x,w4,hrun,hw4⟩:=oN (P:=Tryz.prog) (dT:=40) (sT:=40) (ty:=3) (o:=2*aq.toNat) (dn:=2*D.S - 2*aq.toNat) (dc:=2*D.S - 2*aq.toNat) De hr hl (by rw [hsz,e2];omega) (K:=fun w4=>bq w3.drew L.a (setAt cs (2*aq.toNat) [.int .u32 (Ent.mk ea eb ec ed ee).w0,.int .u32 (Ent.mk ea eb ec ed ee).w1]) T2 w4)
  (fun w4 hs=>by rw [show min (2 - 0) (2*D.S - 2*aq.toNat)=2 by omega]at hs;exact hs)
 refine⟨x,w4,hrun,hw4.kept.mono (fun k hk=>by have hk:k=L.g:=(by simpa [bP]using hk);rw [hk];exact fun e=>h.dis.1 e.symm),fun _ k=>k=L.g,fun _ k hk=>hk,rfl,h3.Hj hp he hown hr hw4,?_⟩
 exact(((p3.mono (by simp):Ch L.X w w3)).drew).stored hw4 (.inl (.inr (.inl rfl)))
theorem HL {L:dy} {D:DB} {w:World}(h:DBP w L D)(aq:Int):
 Calls Tryz.prog 49 #[(.pointer (some (Addr.mk L.g 0 none))),(.int .i64 aq)] w fun e w'=>∃v,e= .returned v∧v= .tuple #[(.agg #[(.int .i64 ((D.entry aq).typ)),(.int .i64 ((D.entry aq).owner)),(.int .i64 ((D.entry aq).refs)),(.int .i64 ((D.entry aq).state)),(.bool ((D.entry aq).aD))]),(.int .i64 (D.jZ aq))]∧Pu w w':=by
 refine uT (some (Addr.mk L.g 0 none)) _ ?_
 have hp:=Ch.refl (fun _=>False) w
 have lt_h:=h.lt
 refine mkd fun gv wv m_gv=>?_
 have lo_gv:=m_gv.lo hp
 have b_gv:=m_gv.blk
 have h:=h.pu m_gv.pu
 refine Calls.mono (ug h _) ?_
 rintro e wv1 ⟨_,rfl,rfl,q_wv1⟩
 refine⟨_,rfl,?_⟩
 refine bn (fun c1=>?_) (fun c1=>?_)
 ·have b_gv:=Pu.blk q_wv1 b_gv
  refine bz b_gv (by simp) fun wv2 s_wv2=>?_
  have b_gv:Blk wv2 gv #[(.int .i64 0),(.int .i64 0),(.int .i64 0),(.int .i64 0),(.bool false)] _:=s_wv2.blk
  refine⟨_,_,_,_,_,⟨b_gv.at rfl,b_gv.at rfl,b_gv.at rfl,b_gv.at rfl,b_gv.at rfl⟩,?_⟩
  have hp:=Ch.call (Ch.pu (Ch.made hp m_gv) q_wv1) s_wv2.ch (by exact fun k e=>.inr (e▸lo_gv))
  exact⟨by(simp [DB.entry,DB.jZ,c1];done),hp⟩
 ·have h:=h.pu q_wv1
  refine Calls.mono (dAt h _ ‹_›) ?_
  rintro e wv2 ⟨_,rfl,rfl,q_wv2⟩
  have b_gv:=Pu.blk q_wv2 (Pu.blk q_wv1 b_gv)
  refine⟨_,_,_,_,_,rfl,bz b_gv (by simp) fun wv3 s_wv3=>?_⟩
  have b_gv:Blk wv3 gv #[(.int .i64 ((D.at_ aq).typ)),(.int .i64 ((D.at_ aq).owner)),(.int .i64 ((D.at_ aq).refs)),(.int .i64 ((D.at_ aq).state)),(.bool ((D.at_ aq).aD))] _:=s_wv3.blk
  refine⟨_,_,_,_,_,⟨b_gv.at rfl,b_gv.at rfl,b_gv.at rfl,b_gv.at rfl,b_gv.at rfl⟩,?_⟩
  have hp:=Ch.call (Ch.pu (Ch.pu (Ch.made hp m_gv) q_wv1) q_wv2) s_wv3.ch (by exact fun k e=>.inr (e▸lo_gv))
  exact⟨by(simp [DB.entry,DB.jZ,c1];done),hp⟩
theorem qj {L:dy} {D:DB} {w:World}(h:DBP w L D)(aq:Int):
 Calls Tryz.prog 83 #[(.pointer (some (Addr.mk L.g 0 none))),(.int .i64 aq)] w fun e w'=>∃v,e= .returned v∧v= .bool (D.du aq)∧Pu w w':=by
 refine rl (some (Addr.mk L.g 0 none)) _ ?_
 have hp:=Ch.refl (fun _=>False) w
 have lt_h:=h.lt
 refine⟨fun x w'=>x=((D.has aq) && ((((D.at_ aq).typ):Int)==1))∧Pu w w',?_,?_⟩
 ·refine Calls.mono (ug h _) ?_
  rintro e wv ⟨_,rfl,rfl,q_wv⟩
  refine⟨_,rfl,?_⟩
  refine ae (fun c1=>?_) (fun c1=>?_)
  ·have h:=h.pu q_wv
   refine Calls.mono (dAt h _ ‹_›) ?_
   rintro e wv1 ⟨_,rfl,rfl,q_wv1⟩
   refine⟨_,_,_,_,_,rfl,?_⟩
   exact⟨by simp only [c1,Bool.true_and,Bool.and_true,Bool.false_and,Bool.and_false,Bool.true_or,Bool.or_true,Bool.false_or,Bool.or_false,Bool.not_true,Bool.not_false,if_true,if_false,Bool.false_eq_true],(Ch.pu q_wv q_wv1)⟩
  ·exact⟨by simp only [c1,Bool.true_and,Bool.and_true,Bool.false_and,Bool.and_false,Bool.true_or,Bool.or_true,Bool.false_or,Bool.or_false,Bool.not_true,Bool.not_false,if_true,if_false,Bool.false_eq_true],q_wv⟩
 rintro _ _ wv ⟨rfl,q_wv⟩
 have hp:=Ch.pu hp q_wv
 exact⟨congrArg Value.bool (by(simp [DB.du];done)),hp⟩
theorem G0 {L:dy} {D:DB} {w:World}(h:DBP w L D)(space:Int)(more:Int)(hp:D.has space=true)(he:({D.at_ space with refs:=(D.at_ space).refs+more}:Ent).ok=true):
 Calls Tryz.prog 84 #[(.pointer (some (Addr.mk L.g 0 none))),(.int .i64 space),(.int .i64 more)] w fun e w'=>∃v,e= .returned v∧v= .tuple #[]∧DBP w' L (D.more space more)∧Ch L.X w w':=by
 refine yb (some (Addr.mk L.g 0 none)) _ _ ?_
 have hi:i64.wrap ((D.at_ space).refs+more)=(D.at_ space).refs+more:=ah (by have:=Ent.cB he;simp only at this;omega)
 have ho:=(h.ok.ent _ (DB.dF hp)).2
 have hp:=Ch.refl L.X w
 have lt_h:=h.lt
 refine Calls.mono (dAt h _ ‹_›) ?_
 rintro e wv ⟨_,rfl,rfl,q_wv⟩
 refine⟨_,_,_,_,_,rfl,?_⟩
 have hp:=Ch.pu hp q_wv
 refine mkd fun gv wv1 m_gv=>?_
 have lo_gv:=m_gv.lo hp
 have b_gv:=m_gv.blk
 refine bz b_gv (by simp) fun wv2 s_wv2=>?_
 have b_gv:Blk wv2 gv #[(.int .i64 ((D.at_ space).typ)),(.int .i64 ((D.at_ space).owner)),(.int .i64 ((D.at_ space).refs)),(.int .i64 ((D.at_ space).state)),(.bool ((D.at_ space).aD))] _:=s_wv2.blk
 refine⟨_,b_gv.at rfl,aM b_gv (by simp) fun wv3 s_wv3=>?_⟩
 have b_gv:Blk wv3 gv #[(.int .i64 ((D.at_ space).typ)),(.int .i64 ((D.at_ space).owner)),_,(.int .i64 ((D.at_ space).state)),(.bool ((D.at_ space).aD))] _:=s_wv3.blk
 refine⟨_,_,_,_,_,⟨b_gv.at rfl,b_gv.at rfl,b_gv.at rfl,b_gv.at rfl,b_gv.at rfl⟩,?_⟩
 have h:=(((h.pu q_wv).pu m_gv.pu).ch s_wv2.ch (fun k hx e=>(fun hx=>absurd (lt_h _ hx) (Nat.not_lt.2 lo_gv)) (e▸hx))).ch s_wv3.ch (fun k hx e=>(fun hx=>absurd (lt_h _ hx) (Nat.not_lt.2 lo_gv)) (e▸hx))
 refine Calls.mono (v5 h _ _ _ _ _ _ ‹_› (by rw [hi];exact he) (by exact ho)) ?_
 rintro e wv4 ⟨_,rfl,rfl,h,q_wv4⟩
 refine⟨rfl,?_⟩
 have hp:=Ch.call (Ch.call (Ch.call (Ch.made hp m_gv) s_wv2.ch (by exact fun k e=>.inr (e▸lo_gv))) s_wv3.ch (by exact fun k e=>.inr (e▸lo_gv))) q_wv4 (by exact fun k hk=>.inl hk)
 exact⟨rfl,by rw [show D.more space more=D.set space ⟨((D.at_ space).typ),((D.at_ space).owner),(i64.wrap (((D.at_ space).refs)+more)),((D.at_ space).state),((D.at_ space).aD)⟩from by rw [hi];rfl];exact h,hp⟩
theorem IC {L:dy} {D:DB} {w:World}(h:DBP w L D)(aq:Int)(t:Int)(space:Int):
 Calls Tryz.prog 34 #[(.pointer (some (Addr.mk L.g 0 none))),(.int .i64 aq),(.int .i64 t),(.int .i64 space)] w fun e w'=>∃v,e= .returned v∧v= .int .i64 (D.cn aq t space)∧DBP w' L (D.take aq t space)∧Ch L.X w w':=by
 refine xY (some (Addr.mk L.g 0 none)) _ _ _ ?_
 have h_0:=h
 have hp:=Ch.refl L.X w
 have lt_h:=h.lt
 refine Calls.mono (ug h _) ?_
 rintro e wv ⟨_,rfl,rfl,q_wv⟩
 refine⟨_,rfl,?_⟩
 rintro _ rfl
 refine bn (fun c1=>?_) (fun c1=>?_)
 ·have h:=h.pu q_wv
  have hp:=Ch.pu hp q_wv
  exact⟨congrArg (Value.int .i64) (by(simp [DB.take,DB.eP,DB.cn,c1];done)),by rw [show D.take aq t space=D from by(simp [DB.take,DB.eP,DB.cn,c1];done)];exact h,hp⟩
 ·refine⟨fun x w'=>x=(((t:Int) !=2) && (!(DB.turns t)))∧Pu wv w',?_,?_⟩
  ·refine ae (fun c2=>?_) (fun c2=>?_)
   ·refine Calls.mono (y5 _) ?_
    rintro e wv1 ⟨_,rfl,rfl,q_wv1⟩
    refine⟨_,rfl,?_⟩
    rintro _ rfl
    exact⟨by simp only [c2,Bool.true_and,Bool.and_true,Bool.false_and,Bool.and_false,Bool.true_or,Bool.or_true,Bool.false_or,Bool.or_false,Bool.not_true,Bool.not_false,if_true,if_false,Bool.false_eq_true],q_wv1⟩
   ·rintro _ rfl
    exact⟨by simp only [c2,Bool.true_and,Bool.and_true,Bool.false_and,Bool.and_false,Bool.true_or,Bool.or_true,Bool.false_or,Bool.or_false,Bool.not_true,Bool.not_false,if_true,if_false,Bool.false_eq_true],Ch.refl _ _⟩
  rintro _ _ wv1 ⟨rfl,q_wv1⟩
  refine bL (fun c3=>?_) (fun c3=>?_)
  ·have h:=(h.pu q_wv).pu q_wv1
   have hp:=Ch.pu (Ch.pu hp q_wv) q_wv1
   exact⟨congrArg (Value.int .i64) (by(simp [DB.take,DB.eP,DB.cn,c1,c3];done)),by rw [show D.take aq t space=D from by(simp [DB.take,DB.eP,DB.cn,c1,c3];done)];exact h,hp⟩
  ·refine⟨fun x w'=>x=((!(D.du space)) || (decide ((((D.at_ space).refs):Int)≥63)))∧Pu wv1 w',?_,?_⟩
   ·have h:=(h.pu q_wv).pu q_wv1
    refine Calls.mono (qj h _) ?_
    rintro e wv2 ⟨_,rfl,rfl,q_wv2⟩
    refine⟨_,rfl,?_⟩
    refine ae (fun c4=>?_) (fun c4=>?_)
    ·rintro _ rfl
     exact⟨by simp only [c4,Bool.true_and,Bool.and_true,Bool.false_and,Bool.and_false,Bool.true_or,Bool.or_true,Bool.false_or,Bool.or_false,Bool.not_true,Bool.not_false,if_true,if_false,Bool.false_eq_true],q_wv2⟩
    ·have h:=h.pu q_wv2
     refine Calls.mono (dAt h _ (by grind [DB.take,DB.eP,DB.cn,DB.du])) ?_
     rintro e wv3 ⟨_,rfl,rfl,q_wv3⟩
     refine⟨_,_,_,_,_,rfl,?_⟩
     rintro _ rfl
     exact⟨by simp only [c4,Bool.true_and,Bool.and_true,Bool.false_and,Bool.and_false,Bool.true_or,Bool.or_true,Bool.false_or,Bool.or_false,Bool.not_true,Bool.not_false,if_true,if_false,Bool.false_eq_true],(Ch.pu q_wv2 q_wv3)⟩
   rintro _ _ wv2 ⟨rfl,q_wv2⟩
   refine aO (fun c5=>?_) (fun c5=>?_)
   ·have h:=((h.pu q_wv).pu q_wv1).pu q_wv2
    have hp:=Ch.pu (Ch.pu (Ch.pu hp q_wv) q_wv1) q_wv2
    exact⟨congrArg (Value.int .i64) (by grind [DB.take,DB.eP,DB.cn]),by rw [show D.take aq t space=D from by grind [DB.take,DB.eP,DB.cn]];exact h,hp⟩
   ·have h:=((h.pu q_wv).pu q_wv1).pu q_wv2
    refine Calls.mono (dAt h _ ‹_›) ?_
    rintro e wv3 ⟨_,rfl,rfl,q_wv3⟩
    refine⟨_,_,_,_,_,rfl,?_⟩
    rintro _ rfl
    refine bt (fun c6=>?_) (fun c6=>?_)
    ·have h:=h.pu q_wv3
     have hp:=Ch.pu (Ch.pu (Ch.pu (Ch.pu hp q_wv) q_wv1) q_wv2) q_wv3
     exact⟨congrArg (Value.int .i64) (by grind [DB.take,DB.eP,DB.cn]),by rw [show D.take aq t space=D from by grind [DB.take,DB.eP,DB.cn]];exact h,hp⟩
    ·have h:=h.pu q_wv3
     refine Calls.mono (v5 h _ _ _ _ _ _ ‹_› (by obtain⟨hs1,hs2⟩:=DB.eI (d:=D) (p:=space) (by grind);have:=DB.cH hs1;have:=h.S64;exact DB.Ds (by grind) (by omega)) (by obtain⟨hs1,hs2⟩:=DB.eI (d:=D) (p:=space) (by grind);exact(DB.cH hs1).2)) ?_
     rintro e wv4 ⟨_,rfl,rfl,h,q_wv4⟩
     refine⟨rfl,?_⟩
     refine Calls.mono (G0 h _ _ (by obtain⟨hs1,hs2⟩:=DB.eI (d:=D) (p:=space) (by grind);exact hs1) (by obtain⟨hs1,hs2⟩:=DB.eI (d:=D) (p:=space) (by grind);rw [DB.IM (d:=D) c1 hs1 (by omega)];have h3:=(h_0.ok.at_ hs1).1;have h4:=Ent.cB h3;exact DB.lW h3 hs2 (by grind))) ?_
     rintro e wv5 ⟨_,rfl,rfl,h,q_wv5⟩
     refine⟨rfl,?_⟩
     have hp:=Ch.call (Ch.call (Ch.pu (Ch.pu (Ch.pu (Ch.pu hp q_wv) q_wv1) q_wv2) q_wv3) q_wv4 (by exact fun k hk=>.inl hk)) q_wv5 (by exact fun k hk=>.inl hk)
     exact⟨congrArg (Value.int .i64) (by grind [DB.take,DB.eP,DB.cn]),by rw [show D.take aq t space=(D.set aq ⟨t,space,0,0,false⟩).more space 1 from by grind [DB.take,DB.eP,DB.cn]];exact h,hp⟩
theorem IB {L:dy} {D:DB} {w:World}(h:DBP w L D)(aq:Int)(t:Int):
 Calls Tryz.prog 36 #[(.pointer (some (Addr.mk L.g 0 none))),(.int .i64 aq),(.int .i64 t)] w fun e w'=>∃v,e= .returned v∧v= .int .i64 (D.dD aq t)∧DBP w' L (D.hH aq t)∧Ch L.X w w':=by
 refine xW (some (Addr.mk L.g 0 none)) _ _ ?_
 have hp:=Ch.refl L.X w
 have lt_h:=h.lt
 refine Calls.mono (ug h _) ?_
 rintro e wv ⟨_,rfl,rfl,q_wv⟩
 refine⟨_,rfl,?_⟩
 refine bn (fun c1=>?_) (fun c1=>?_)
 ·have h:=h.pu q_wv
  have hp:=Ch.pu hp q_wv
  exact⟨congrArg (Value.int .i64) (by(simp [DB.hH,DB.jL,DB.dD,DB.dE,DB.bd,Mem.bC,DB.cy,DB.cG,DB.mem_set,c1];done)),by rw [show D.hH aq t=D from by(simp [DB.hH,DB.jL,DB.dD,DB.dE,DB.bd,Mem.bC,DB.cy,DB.cG,DB.mem_set,c1];done)];exact h,hp⟩
 ·have h:=h.pu q_wv
  refine Calls.mono (dAt h _ ‹_›) ?_
  rintro e wv1 ⟨_,rfl,rfl,q_wv1⟩
  refine⟨_,_,_,_,_,rfl,?_⟩
  have hp:=Ch.pu (Ch.pu hp q_wv) q_wv1
  refine mkd fun gv wv2 m_gv=>?_
  have lo_gv:=m_gv.lo hp
  have b_gv:=m_gv.blk
  refine bz b_gv (by simp) fun wv3 s_wv3=>?_
  have b_gv:Blk wv3 gv #[(.int .i64 ((D.at_ aq).typ)),(.int .i64 ((D.at_ aq).owner)),(.int .i64 ((D.at_ aq).refs)),(.int .i64 ((D.at_ aq).state)),(.bool ((D.at_ aq).aD))] _:=s_wv3.blk
  refine⟨fun x w'=>x=((!(DB.turns ((D.at_ aq).typ))) || (!(DB.turns t)))∧Pu wv3 w',?_,?_⟩
  ·refine⟨_,b_gv.at rfl,?_⟩
   refine Calls.mono (y5 _) ?_
   rintro e wv4 ⟨_,rfl,rfl,q_wv4⟩
   refine⟨_,rfl,?_⟩
   refine ae (fun c2=>?_) (fun c2=>?_)
   ·exact⟨by simp only [c2,Bool.true_and,Bool.and_true,Bool.false_and,Bool.and_false,Bool.true_or,Bool.or_true,Bool.false_or,Bool.or_false,Bool.not_true,Bool.not_false,if_true,if_false,Bool.false_eq_true],q_wv4⟩
   ·refine Calls.mono (y5 _) ?_
    rintro e wv5 ⟨_,rfl,rfl,q_wv5⟩
    refine⟨_,rfl,?_⟩
    exact⟨by simp only [c2,Bool.true_and,Bool.and_true,Bool.false_and,Bool.and_false,Bool.true_or,Bool.or_true,Bool.false_or,Bool.or_false,Bool.not_true,Bool.not_false,if_true,if_false,Bool.false_eq_true],(Ch.pu q_wv4 q_wv5)⟩
  rintro _ _ wv4 ⟨rfl,q_wv4⟩
  refine aO (fun c3=>?_) (fun c3=>?_)
  ·have h:=(((h.pu q_wv1).pu m_gv.pu).ch s_wv3.ch (fun k hx e=>(fun hx=>absurd (lt_h _ hx) (Nat.not_lt.2 lo_gv)) (e▸hx))).pu q_wv4
   have hp:=Ch.pu (Ch.call (Ch.made hp m_gv) s_wv3.ch (by exact fun k e=>.inr (e▸lo_gv))) q_wv4
   exact⟨congrArg (Value.int .i64) (by grind [DB.hH,DB.jL,DB.dD,DB.dE,DB.bd,Mem.bC,DB.cy,DB.cG,DB.mem_set]),by rw [show D.hH aq t=D from by grind [DB.hH,DB.jL,DB.dD,DB.dE,DB.bd,Mem.bC,DB.cy,DB.cG,DB.mem_set]];exact h,hp⟩
  ·have b_gv:=Pu.blk q_wv4 b_gv
   refine aM b_gv (by simp) fun wv5 s_wv5=>?_
   have b_gv:Blk wv5 gv #[(.int .i64 t),(.int .i64 ((D.at_ aq).owner)),(.int .i64 ((D.at_ aq).refs)),(.int .i64 ((D.at_ aq).state)),(.bool ((D.at_ aq).aD))] _:=s_wv5.blk
   refine⟨_,_,_,_,_,⟨b_gv.at rfl,b_gv.at rfl,b_gv.at rfl,b_gv.at rfl,b_gv.at rfl⟩,?_⟩
   have h:=((((h.pu q_wv1).pu m_gv.pu).ch s_wv3.ch (fun k hx e=>(fun hx=>absurd (lt_h _ hx) (Nat.not_lt.2 lo_gv)) (e▸hx))).pu q_wv4).ch s_wv5.ch (fun k hx e=>(fun hx=>absurd (lt_h _ hx) (Nat.not_lt.2 lo_gv)) (e▸hx))
   refine Calls.mono (v5 h _ _ _ _ _ _ ‹_› (by exact DB.Dr (h.ok.at_ c1).1 (by grind) (by grind)) (by exact(h.ok.at_ c1).2.1)) ?_
   rintro e wv6 ⟨_,rfl,rfl,h,q_wv6⟩
   refine⟨rfl,?_⟩
   refine⟨bXU [3] [] wv6.drew L.M.X,?_⟩
   have h:=h.pu (Pu.aI _)
   obtain⟨_,dhd_h⟩:=h.hd
   refine ak _ rfl ⟨.inr ⟨by decide,bX.ld dhd_h (h.dis.2.1) _⟩,_,dhd_h.at rfl,?_⟩
   refine Calls.mono (ju _) ?_
   rintro e wv7 ⟨_,rfl,rfl,q_wv7⟩
   refine⟨_,_,rfl,?_⟩
   refine bXU.cF q_wv7 (by decide) ?_
   have h:=h.pu q_wv7
   refine Calls.mono (y0 h _ _) ?_
   rintro e wv8 ⟨_,rfl,rfl,h,q_wv8⟩
   refine⟨_,rfl,?_⟩
   refine bXU.more q_wv8 (by intro k hk;exact .inl hk) (by decide) ?_
   have hp:=Ch.call (Ch.pu (Ch.drew (Ch.call (Ch.call (Ch.pu (Ch.call (Ch.made hp m_gv) s_wv3.ch (by exact fun k e=>.inr (e▸lo_gv))) q_wv4) s_wv5.ch (by exact fun k e=>.inr (e▸lo_gv))) q_wv6 (by exact fun k hk=>.inl hk))) q_wv7) (q_wv8.mono L.inM) (by exact fun k hk=>.inl hk)
   exact⟨congrArg (Value.int .i64) (by(simp [DB.hH,DB.jL,DB.dD,DB.dE,DB.bd,Mem.bC,DB.cy,DB.cG,DB.mem_set,c1,c3];done)),by rw [show D.hH aq t=((D.set aq ⟨t,((D.at_ aq).owner),((D.at_ aq).refs),((D.at_ aq).state),((D.at_ aq).aD)⟩).aN ((D.set aq ⟨t,((D.at_ aq).owner),((D.at_ aq).refs),((D.at_ aq).state),((D.at_ aq).aD)⟩).mem.zero true aq))from by(simp [DB.hH,DB.jL,DB.dD,DB.dE,DB.bd,Mem.bC,DB.cy,DB.cG,DB.mem_set,c1,c3];done)];exact h,hp⟩
theorem BB {L:dy} {D:DB} {w:World}(h:DBP w L D)(space:Int)(s:Int):
 Calls Tryz.prog 40 #[(.pointer (some (Addr.mk L.g 0 none))),(.int .i64 space),(.int .i64 s)] w fun e w'=>∃v,e= .returned v∧v= .int .i64 (D.aZ space s)∧DBP w' L (D.setState space s)∧Ch L.X w w':=by
 refine oE (some (Addr.mk L.g 0 none)) _ _ ?_
 have hp:=Ch.refl L.X w
 have lt_h:=h.lt
 refine Calls.mono (ug h _) ?_
 rintro e wv ⟨_,rfl,rfl,q_wv⟩
 refine⟨_,rfl,?_⟩
 refine bn (fun c1=>?_) (fun c1=>?_)
 ·have h:=h.pu q_wv
  have hp:=Ch.pu hp q_wv
  exact⟨congrArg (Value.int .i64) (by(simp [DB.setState,DB.aZ,c1];done)),by rw [show D.setState space s=D from by(simp [DB.setState,DB.aZ,c1];done)];exact h,hp⟩
 ·have h:=h.pu q_wv
  refine Calls.mono (dAt h _ ‹_›) ?_
  rintro e wv1 ⟨_,rfl,rfl,q_wv1⟩
  refine⟨_,_,_,_,_,rfl,?_⟩
  have hp:=Ch.pu (Ch.pu hp q_wv) q_wv1
  refine mkd fun gv wv2 m_gv=>?_
  have lo_gv:=m_gv.lo hp
  have b_gv:=m_gv.blk
  refine bz b_gv (by simp) fun wv3 s_wv3=>?_
  have b_gv:Blk wv3 gv #[(.int .i64 ((D.at_ space).typ)),(.int .i64 ((D.at_ space).owner)),(.int .i64 ((D.at_ space).refs)),(.int .i64 ((D.at_ space).state)),(.bool ((D.at_ space).aD))] _:=s_wv3.blk
  refine⟨_,b_gv.at rfl,?_⟩
  rintro _ rfl
  refine bt (fun c2=>?_) (fun c2=>?_)
  ·have h:=((h.pu q_wv1).pu m_gv.pu).ch s_wv3.ch (fun k hx e=>(fun hx=>absurd (lt_h _ hx) (Nat.not_lt.2 lo_gv)) (e▸hx))
   have hp:=Ch.call (Ch.made hp m_gv) s_wv3.ch (by exact fun k e=>.inr (e▸lo_gv))
   exact⟨congrArg (Value.int .i64) (by(simp [DB.setState,DB.aZ,c1,c2];done)),by rw [show D.setState space s=D from by(simp [DB.setState,DB.aZ,c1,c2];done)];exact h,hp⟩
  ·refine⟨fun x w'=>x=(((s:Int) !=3) && (((((D.at_ space).state):Int) !=1) || ((s:Int) !=2)))∧Pu wv3 w',?_,?_⟩
   ·refine ae (fun c3=>?_) (fun c3=>?_)
    ·refine⟨_,b_gv.at rfl,?_⟩
     refine ae (fun c4=>?_) (fun c4=>?_)
     ·rintro _ rfl
      exact⟨by simp only [c3,c4,Bool.true_and,Bool.and_true,Bool.false_and,Bool.and_false,Bool.true_or,Bool.or_true,Bool.false_or,Bool.or_false,Bool.not_true,Bool.not_false,if_true,if_false,Bool.false_eq_true],Ch.refl _ _⟩
     ·rintro _ rfl
      exact⟨by simp only [c3,c4,Bool.true_and,Bool.and_true,Bool.false_and,Bool.and_false,Bool.true_or,Bool.or_true,Bool.false_or,Bool.or_false,Bool.not_true,Bool.not_false,if_true,if_false,Bool.false_eq_true],Ch.refl _ _⟩
    ·rintro _ rfl
     exact⟨by simp only [c3,Bool.true_and,Bool.and_true,Bool.false_and,Bool.and_false,Bool.true_or,Bool.or_true,Bool.false_or,Bool.or_false,Bool.not_true,Bool.not_false,if_true,if_false,Bool.false_eq_true],Ch.refl _ _⟩
   rintro _ _ wv4 ⟨rfl,q_wv4⟩
   refine bL (fun c5=>?_) (fun c5=>?_)
   ·have h:=(((h.pu q_wv1).pu m_gv.pu).ch s_wv3.ch (fun k hx e=>(fun hx=>absurd (lt_h _ hx) (Nat.not_lt.2 lo_gv)) (e▸hx))).pu q_wv4
    have hp:=Ch.pu (Ch.call (Ch.made hp m_gv) s_wv3.ch (by exact fun k e=>.inr (e▸lo_gv))) q_wv4
    exact⟨congrArg (Value.int .i64) (by(simp [DB.setState,DB.aZ,c1,c2,c5];done)),by rw [show D.setState space s=D from by(simp [DB.setState,DB.aZ,c1,c2,c5];done)];exact h,hp⟩
   ·have b_gv:=Pu.blk q_wv4 b_gv
    refine aM b_gv (by simp) fun wv5 s_wv5=>?_
    have b_gv:Blk wv5 gv #[(.int .i64 ((D.at_ space).typ)),(.int .i64 ((D.at_ space).owner)),(.int .i64 ((D.at_ space).refs)),(.int .i64 s),(.bool ((D.at_ space).aD))] _:=s_wv5.blk
    refine⟨_,_,_,_,_,⟨b_gv.at rfl,b_gv.at rfl,b_gv.at rfl,b_gv.at rfl,b_gv.at rfl⟩,?_⟩
    have h:=((((h.pu q_wv1).pu m_gv.pu).ch s_wv3.ch (fun k hx e=>(fun hx=>absurd (lt_h _ hx) (Nat.not_lt.2 lo_gv)) (e▸hx))).pu q_wv4).ch s_wv5.ch (fun k hx e=>(fun hx=>absurd (lt_h _ hx) (Nat.not_lt.2 lo_gv)) (e▸hx))
    refine Calls.mono (v5 h _ _ _ _ _ _ ‹_› (by exact DB.GQ (h.ok.at_ c1).1 (by grind) (by grind)) (by exact(h.ok.at_ c1).2.1)) ?_
    rintro e wv6 ⟨_,rfl,rfl,h,q_wv6⟩
    refine⟨rfl,?_⟩
    have hp:=Ch.call (Ch.call (Ch.pu (Ch.call (Ch.made hp m_gv) s_wv3.ch (by exact fun k e=>.inr (e▸lo_gv))) q_wv4) s_wv5.ch (by exact fun k e=>.inr (e▸lo_gv))) q_wv6 (by exact fun k hk=>.inl hk)
    exact⟨congrArg (Value.int .i64) (by grind [DB.setState,DB.aZ]),by rw [show D.setState space s=D.set space ⟨((D.at_ space).typ),((D.at_ space).owner),((D.at_ space).refs),s,((D.at_ space).aD)⟩from by grind [DB.setState,DB.aZ]];exact h,hp⟩
theorem vZ {L:dy} {D:DB} {w:World}(h:DBP w L D)(thread:Int)(on:Bool):
 Calls Tryz.prog 42 #[(.pointer (some (Addr.mk L.g 0 none))),(.int .i64 thread),(.bool on)] w fun e w'=>∃v,e= .returned v∧v= .int .i64 (D.bm thread)∧DBP w' L (D.aU thread on)∧Ch L.X w w':=by
 refine mL (some (Addr.mk L.g 0 none)) _ _ ?_
 have hp:=Ch.refl L.X w
 have lt_h:=h.lt
 refine Calls.mono (ug h _) ?_
 rintro e wv ⟨_,rfl,rfl,q_wv⟩
 refine⟨_,rfl,?_⟩
 refine bn (fun c1=>?_) (fun c1=>?_)
 ·have h:=h.pu q_wv
  have hp:=Ch.pu hp q_wv
  exact⟨congrArg (Value.int .i64) (by(simp [DB.aU,DB.bm,c1];done)),by rw [show D.aU thread on=D from by(simp [DB.aU,DB.bm,c1];done)];exact h,hp⟩
 ·have h:=h.pu q_wv
  refine Calls.mono (dAt h _ ‹_›) ?_
  rintro e wv1 ⟨_,rfl,rfl,q_wv1⟩
  refine⟨_,_,_,_,_,rfl,?_⟩
  have hp:=Ch.pu (Ch.pu hp q_wv) q_wv1
  refine mkd fun gv wv2 m_gv=>?_
  have lo_gv:=m_gv.lo hp
  have b_gv:=m_gv.blk
  refine bz b_gv (by simp) fun wv3 s_wv3=>?_
  have b_gv:Blk wv3 gv #[(.int .i64 ((D.at_ thread).typ)),(.int .i64 ((D.at_ thread).owner)),(.int .i64 ((D.at_ thread).refs)),(.int .i64 ((D.at_ thread).state)),(.bool ((D.at_ thread).aD))] _:=s_wv3.blk
  refine⟨_,b_gv.at rfl,?_⟩
  refine bt (fun c2=>?_) (fun c2=>?_)
  ·have h:=((h.pu q_wv1).pu m_gv.pu).ch s_wv3.ch (fun k hx e=>(fun hx=>absurd (lt_h _ hx) (Nat.not_lt.2 lo_gv)) (e▸hx))
   have hp:=Ch.call (Ch.made hp m_gv) s_wv3.ch (by exact fun k e=>.inr (e▸lo_gv))
   exact⟨congrArg (Value.int .i64) (by(simp [DB.aU,DB.bm,c1,c2];done)),by rw [show D.aU thread on=D from by(simp [DB.aU,DB.bm,c1,c2];done)];exact h,hp⟩
  ·refine aM b_gv (by simp) fun wv4 s_wv4=>?_
   have b_gv:Blk wv4 gv #[(.int .i64 ((D.at_ thread).typ)),(.int .i64 ((D.at_ thread).owner)),(.int .i64 ((D.at_ thread).refs)),(.int .i64 ((D.at_ thread).state)),(.bool on)] _:=s_wv4.blk
   refine⟨_,_,_,_,_,⟨b_gv.at rfl,b_gv.at rfl,b_gv.at rfl,b_gv.at rfl,b_gv.at rfl⟩,?_⟩
   have h:=(((h.pu q_wv1).pu m_gv.pu).ch s_wv3.ch (fun k hx e=>(fun hx=>absurd (lt_h _ hx) (Nat.not_lt.2 lo_gv)) (e▸hx))).ch s_wv4.ch (fun k hx e=>(fun hx=>absurd (lt_h _ hx) (Nat.not_lt.2 lo_gv)) (e▸hx))
   refine Calls.mono (v5 h _ _ _ _ _ _ ‹_› (by exact DB.pN (h.ok.at_ c1).1 (by grind)) (by exact(h.ok.at_ c1).2.1)) ?_
   rintro e wv5 ⟨_,rfl,rfl,h,q_wv5⟩
   refine⟨rfl,?_⟩
   have hp:=Ch.call (Ch.call (Ch.call (Ch.made hp m_gv) s_wv3.ch (by exact fun k e=>.inr (e▸lo_gv))) s_wv4.ch (by exact fun k e=>.inr (e▸lo_gv))) q_wv5 (by exact fun k hk=>.inl hk)
   exact⟨congrArg (Value.int .i64) (by(simp [DB.aU,DB.bm,c1,c2];done)),by rw [show D.aU thread on=D.set thread ⟨((D.at_ thread).typ),((D.at_ thread).owner),((D.at_ thread).refs),((D.at_ thread).state),on⟩from by(simp [DB.aU,DB.bm,c1,c2];done)];exact h,hp⟩
theorem IG {L:dy} {D:DB} {w:World}(h:DBP w L D)(aq:Int):
 Calls Tryz.prog 38 #[(.pointer (some (Addr.mk L.g 0 none))),(.int .i64 aq)] w fun e w'=>∃v,e= .returned v∧v= .int .i64 (D.cp aq)∧DBP w' L (D.eL aq)∧Ch L.X w w':=by
 refine yg (some (Addr.mk L.g 0 none)) _ ?_
 have h_0:=h
 have hp:=Ch.refl L.X w
 have lt_h:=h.lt
 refine Calls.mono (ug h _) ?_
 rintro e wv ⟨_,rfl,rfl,q_wv⟩
 refine⟨_,rfl,?_⟩
 refine bn (fun c1=>?_) (fun c1=>?_)
 ·have h:=h.pu q_wv
  have hp:=Ch.pu hp q_wv
  exact⟨congrArg (Value.int .i64) (by(simp [DB.eL,DB.eX,DB.cp,DB.dE,DB.bd,Mem.bC,DB.cy,DB.cG,DB.mem_set,DB.more,c1];done)),by rw [show D.eL aq=D from by(simp [DB.eL,DB.eX,DB.cp,DB.dE,DB.bd,Mem.bC,DB.cy,DB.cG,DB.mem_set,DB.more,c1];done)];exact h,hp⟩
 ·have h:=h.pu q_wv
  refine Calls.mono (dAt h _ ‹_›) ?_
  rintro e wv1 ⟨_,rfl,rfl,q_wv1⟩
  refine⟨_,_,_,_,_,rfl,?_⟩
  have hp:=Ch.pu (Ch.pu hp q_wv) q_wv1
  refine mkd fun gv wv2 m_gv=>?_
  have lo_gv:=m_gv.lo hp
  have b_gv:=m_gv.blk
  refine bz b_gv (by simp) fun wv3 s_wv3=>?_
  have b_gv:Blk wv3 gv #[(.int .i64 ((D.at_ aq).typ)),(.int .i64 ((D.at_ aq).owner)),(.int .i64 ((D.at_ aq).refs)),(.int .i64 ((D.at_ aq).state)),(.bool ((D.at_ aq).aD))] _:=s_wv3.blk
  refine⟨_,b_gv.at rfl,?_⟩
  rintro _ rfl
  refine aK (fun c2=>?_) (fun c2=>?_)
  ·have h:=((h.pu q_wv1).pu m_gv.pu).ch s_wv3.ch (fun k hx e=>(fun hx=>absurd (lt_h _ hx) (Nat.not_lt.2 lo_gv)) (e▸hx))
   have hp:=Ch.call (Ch.made hp m_gv) s_wv3.ch (by exact fun k e=>.inr (e▸lo_gv))
   exact⟨congrArg (Value.int .i64) (by(simp [DB.eL,DB.eX,DB.cp,DB.dE,DB.bd,Mem.bC,DB.cy,DB.cG,DB.mem_set,DB.more,c1,c2];done)),by rw [show D.eL aq=D from by(simp [DB.eL,DB.eX,DB.cp,DB.dE,DB.bd,Mem.bC,DB.cy,DB.cG,DB.mem_set,DB.more,c1,c2];done)];exact h,hp⟩
  ·refine⟨fun x w'=>x=(((((D.at_ aq).typ):Int)==1) && (decide ((((D.at_ aq).refs):Int)>0)))∧Pu wv3 w',?_,?_⟩
   ·refine⟨_,b_gv.at rfl,?_⟩
    refine ae (fun c3=>?_) (fun c3=>?_)
    ·refine⟨_,b_gv.at rfl,?_⟩
     rintro _ rfl
     exact⟨by simp only [c3,Bool.true_and,Bool.and_true,Bool.false_and,Bool.and_false,Bool.true_or,Bool.or_true,Bool.false_or,Bool.or_false,Bool.not_true,Bool.not_false,if_true,if_false,Bool.false_eq_true],Ch.refl _ _⟩
    ·rintro _ rfl
     exact⟨by simp only [c3,Bool.true_and,Bool.and_true,Bool.false_and,Bool.and_false,Bool.true_or,Bool.or_true,Bool.false_or,Bool.or_false,Bool.not_true,Bool.not_false,if_true,if_false,Bool.false_eq_true],Ch.refl _ _⟩
   rintro _ _ wv4 ⟨rfl,q_wv4⟩
   refine bL (fun c4=>?_) (fun c4=>?_)
   ·have h:=(((h.pu q_wv1).pu m_gv.pu).ch s_wv3.ch (fun k hx e=>(fun hx=>absurd (lt_h _ hx) (Nat.not_lt.2 lo_gv)) (e▸hx))).pu q_wv4
    have hp:=Ch.pu (Ch.call (Ch.made hp m_gv) s_wv3.ch (by exact fun k e=>.inr (e▸lo_gv))) q_wv4
    exact⟨congrArg (Value.int .i64) (by(simp [DB.eL,DB.eX,DB.cp,DB.dE,DB.bd,Mem.bC,DB.cy,DB.cG,DB.mem_set,DB.more,c1,c2,c4];done)),by rw [show D.eL aq=D from by(simp [DB.eL,DB.eX,DB.cp,DB.dE,DB.bd,Mem.bC,DB.cy,DB.cG,DB.mem_set,DB.more,c1,c2,c4];done)];exact h,hp⟩
   ·have h:=(((h.pu q_wv1).pu m_gv.pu).ch s_wv3.ch (fun k hx e=>(fun hx=>absurd (lt_h _ hx) (Nat.not_lt.2 lo_gv)) (e▸hx))).pu q_wv4
    refine Calls.mono (v5 h _ _ _ _ _ _ ‹_› (by exact Ent.ua) (by have:=DB.cH c1;omega)) ?_
    rintro e wv5 ⟨_,rfl,rfl,h,q_wv5⟩
    refine⟨rfl,?_⟩
    refine⟨fun x w'=>x=(((((D.at_ aq).typ):Int) !=1) && (((D.set aq ⟨0,0,0,0,false⟩).du ((D.at_ aq).owner)) && (decide (((((D.set aq ⟨0,0,0,0,false⟩).at_ ((D.at_ aq).owner)).refs):Int)>0))))∧Pu wv5 w',?_,?_⟩
    ·have b_gv:=Ch.blk q_wv5 (Pu.blk q_wv4 b_gv) (fun hx=>absurd (lt_h _ hx) (Nat.not_lt.2 lo_gv))
     refine⟨_,b_gv.at rfl,?_⟩
     refine ae (fun c5=>?_) (fun c5=>?_)
     ·refine⟨_,b_gv.at rfl,?_⟩
      refine Calls.mono (qj h _) ?_
      rintro e wv6 ⟨_,rfl,rfl,q_wv6⟩
      refine⟨_,rfl,?_⟩
      refine ae (fun c6=>?_) (fun c6=>?_)
      ·have b_gv:=Pu.blk q_wv6 b_gv
       refine⟨_,b_gv.at rfl,?_⟩
       have h:=h.pu q_wv6
       refine Calls.mono (dAt h _ (by grind [DB.eL,DB.eX,DB.cp,DB.dE,DB.bd,Mem.bC,DB.cy,DB.cG,DB.mem_set,DB.more,DB.du])) ?_
       rintro e wv7 ⟨_,rfl,rfl,q_wv7⟩
       refine⟨_,_,_,_,_,rfl,?_⟩
       exact⟨by simp only [c5,c6,Bool.true_and,Bool.and_true,Bool.false_and,Bool.and_false,Bool.true_or,Bool.or_true,Bool.false_or,Bool.or_false,Bool.not_true,Bool.not_false,if_true,if_false,Bool.false_eq_true],(Ch.pu q_wv6 q_wv7)⟩
      ·exact⟨by simp only [c5,c6,Bool.true_and,Bool.and_true,Bool.false_and,Bool.and_false,Bool.true_or,Bool.or_true,Bool.false_or,Bool.or_false,Bool.not_true,Bool.not_false,if_true,if_false,Bool.false_eq_true],q_wv6⟩
     ·exact⟨by simp only [c5,Bool.true_and,Bool.and_true,Bool.false_and,Bool.and_false,Bool.true_or,Bool.or_true,Bool.false_or,Bool.or_false,Bool.not_true,Bool.not_false,if_true,if_false,Bool.false_eq_true],Ch.refl _ _⟩
    rintro _ _ wv6 ⟨rfl,q_wv6⟩
    refine bL (fun c7=>?_) (fun c7=>?_)
    ·have b_gv:=Pu.blk q_wv6 (Ch.blk q_wv5 (Pu.blk q_wv4 b_gv) (fun hx=>absurd (lt_h _ hx) (Nat.not_lt.2 lo_gv)))
     refine⟨_,b_gv.at rfl,?_⟩
     have h:=h.pu q_wv6
     refine Calls.mono (G0 h _ _ (by exact(DB.eI (d:=D.set aq ⟨0,0,0,0,false⟩) (by grind)).1) (by have h2:=DB.eI (d:=D.set aq ⟨0,0,0,0,false⟩) (p:=(D.at_ aq).owner) (by grind);have h3:=Ent.cB (h.ok.at_ h2.1).1;exact DB.lW (h.ok.at_ h2.1).1 h2.2 (by grind))) ?_
     rintro e wv7 ⟨_,rfl,rfl,h,q_wv7⟩
     refine⟨rfl,?_⟩
     refine⟨bXU [3] [] wv7.drew L.M.X,?_⟩
     have h:=h.pu (Pu.aI _)
     obtain⟨_,dhd_h⟩:=h.hd
     refine ak _ rfl ⟨.inr ⟨by decide,bX.ld dhd_h (h.dis.2.1) _⟩,_,dhd_h.at rfl,?_⟩
     refine Calls.mono (ju _) ?_
     rintro e wv8 ⟨_,rfl,rfl,q_wv8⟩
     refine⟨_,_,rfl,?_⟩
     refine bXU.cF q_wv8 (by decide) ?_
     have h:=h.pu q_wv8
     refine Calls.mono (y0 h _ _) ?_
     rintro e wv9 ⟨_,rfl,rfl,h,q_wv9⟩
     refine⟨_,rfl,?_⟩
     refine bXU.more q_wv9 (by intro k hk;exact .inl hk) (by decide) ?_
     have hp:=Ch.call (Ch.pu (Ch.drew (Ch.call (Ch.pu (Ch.call (Ch.pu (Ch.call (Ch.made hp m_gv) s_wv3.ch (by exact fun k e=>.inr (e▸lo_gv))) q_wv4) q_wv5 (by exact fun k hk=>.inl hk)) q_wv6) q_wv7 (by exact fun k hk=>.inl hk))) q_wv8) (q_wv9.mono L.inM) (by exact fun k hk=>.inl hk)
     exact⟨congrArg (Value.int .i64) (by grind [DB.eL,DB.eX,DB.cp,DB.dE,DB.bd,Mem.bC,DB.cy,DB.cG,DB.mem_set,DB.more]),by rw [show D.eL aq=(((D.set aq ⟨0,0,0,0,false⟩).more ((D.at_ aq).owner) (-1)).aN (((D.set aq ⟨0,0,0,0,false⟩).more ((D.at_ aq).owner) (-1)).mem.zero true aq))from by grind [DB.eL,DB.eX,DB.cp,DB.dE,DB.bd,Mem.bC,DB.cy,DB.cG,DB.mem_set,DB.more]];exact h,hp⟩
    ·refine⟨bXU [3] [] wv6.drew L.M.X,?_⟩
     have h:=(h.pu q_wv6).pu (Pu.aI _)
     obtain⟨_,dhd_h⟩:=h.hd
     refine ak _ rfl ⟨.inr ⟨by decide,bX.ld dhd_h (h.dis.2.1) _⟩,_,dhd_h.at rfl,?_⟩
     refine Calls.mono (ju _) ?_
     rintro e wv7 ⟨_,rfl,rfl,q_wv7⟩
     refine⟨_,_,rfl,?_⟩
     refine bXU.cF q_wv7 (by decide) ?_
     have h:=h.pu q_wv7
     refine Calls.mono (y0 h _ _) ?_
     rintro e wv8 ⟨_,rfl,rfl,h,q_wv8⟩
     refine⟨_,rfl,?_⟩
     refine bXU.more q_wv8 (by intro k hk;exact .inl hk) (by decide) ?_
     have hp:=Ch.call (Ch.pu (Ch.drew (Ch.pu (Ch.call (Ch.pu (Ch.call (Ch.made hp m_gv) s_wv3.ch (by exact fun k e=>.inr (e▸lo_gv))) q_wv4) q_wv5 (by exact fun k hk=>.inl hk)) q_wv6)) q_wv7) (q_wv8.mono L.inM) (by exact fun k hk=>.inl hk)
     exact⟨congrArg (Value.int .i64) (by grind [DB.eL,DB.eX,DB.cp,DB.dE,DB.bd,Mem.bC,DB.cy,DB.cG,DB.mem_set,DB.more]),by rw [show D.eL aq=((D.set aq ⟨0,0,0,0,false⟩).aN ((D.set aq ⟨0,0,0,0,false⟩).mem.zero true aq))from by grind [DB.eL,DB.eX,DB.cp,DB.dE,DB.bd,Mem.bC,DB.cy,DB.cG,DB.mem_set,DB.more]];exact h,hp⟩
theorem y6 {L:dy} {D:DB} {w:World}(h:DBP w L D)(space:Int)(first:Int):
 Calls Tryz.prog 32 #[(.pointer (some (Addr.mk L.g 0 none))),(.int .i64 space),(.int .i64 first)] w fun e w'=>∃v,e= .returned v∧v= .int .i64 (D.aQ space first)∧DBP w' L (D.aH space first)∧Ch L.X w w':=by
 refine nI (some (Addr.mk L.g 0 none)) _ _ ?_
 have h64:=h.S64
 have hbo:=h.ok.aw
 have hp:=Ch.refl L.X w
 have lt_h:=h.lt
 refine⟨fun x w'=>x=((!(D.has space)) || (!(D.has first)))∧Pu w w',?_,?_⟩
 ·refine Calls.mono (ug h _) ?_
  rintro e wv ⟨_,rfl,rfl,q_wv⟩
  refine⟨_,rfl,?_⟩
  refine ae (fun c1=>?_) (fun c1=>?_)
  ·rintro _ rfl
   exact⟨by simp only [c1,Bool.true_and,Bool.and_true,Bool.false_and,Bool.and_false,Bool.true_or,Bool.or_true,Bool.false_or,Bool.or_false,Bool.not_true,Bool.not_false,if_true,if_false,Bool.false_eq_true],q_wv⟩
  ·have h:=h.pu q_wv
   refine Calls.mono (ug h _) ?_
   rintro e wv1 ⟨_,rfl,rfl,q_wv1⟩
   refine⟨_,rfl,?_⟩
   rintro _ rfl
   exact⟨by simp only [c1,Bool.true_and,Bool.and_true,Bool.false_and,Bool.and_false,Bool.true_or,Bool.or_true,Bool.false_or,Bool.or_false,Bool.not_true,Bool.not_false,if_true,if_false,Bool.false_eq_true],(Ch.pu q_wv q_wv1)⟩
 rintro _ _ wv ⟨rfl,q_wv⟩
 refine aO (fun c2=>?_) (fun c2=>?_)
 ·have h:=h.pu q_wv
  have hp:=Ch.pu hp q_wv
  exact⟨congrArg (Value.int .i64) (by grind [DB.aH,DB.bA,DB.aQ]),by rw [show D.aH space first=D from by grind [DB.aH,DB.bA,DB.aQ]];exact h,hp⟩
 ·rintro _ rfl
  refine aK (fun c3=>?_) (fun c3=>?_)
  ·have h:=h.pu q_wv
   have hp:=Ch.pu hp q_wv
   exact⟨congrArg (Value.int .i64) (by(simp [DB.aH,DB.bA,DB.aQ,c2,c3];done)),by rw [show D.aH space first=D from by(simp [DB.aH,DB.bA,DB.aQ,c2,c3];done)];exact h,hp⟩
  ·refine⟨fun x w'=>x=(((((D.at_ space).typ):Int) !=0) || ((((D.at_ first).typ):Int) !=0))∧Pu wv w',?_,?_⟩
   ·have h:=h.pu q_wv
    refine Calls.mono (dAt h _ (by grind [DB.aH,DB.bA,DB.aQ])) ?_
    rintro e wv1 ⟨_,rfl,rfl,q_wv1⟩
    refine⟨_,_,_,_,_,rfl,?_⟩
    refine ae (fun c4=>?_) (fun c4=>?_)
    ·rintro _ rfl
     exact⟨by simp only [c4,Bool.true_and,Bool.and_true,Bool.false_and,Bool.and_false,Bool.true_or,Bool.or_true,Bool.false_or,Bool.or_false,Bool.not_true,Bool.not_false,if_true,if_false,Bool.false_eq_true],q_wv1⟩
    ·have h:=h.pu q_wv1
     refine Calls.mono (dAt h _ (by grind [DB.aH,DB.bA,DB.aQ])) ?_
     rintro e wv2 ⟨_,rfl,rfl,q_wv2⟩
     refine⟨_,_,_,_,_,rfl,?_⟩
     rintro _ rfl
     exact⟨by simp only [c4,Bool.true_and,Bool.and_true,Bool.false_and,Bool.and_false,Bool.true_or,Bool.or_true,Bool.false_or,Bool.or_false,Bool.not_true,Bool.not_false,if_true,if_false,Bool.false_eq_true],(Ch.pu q_wv1 q_wv2)⟩
   rintro _ _ wv1 ⟨rfl,q_wv1⟩
   refine aO (fun c5=>?_) (fun c5=>?_)
   ·have h:=(h.pu q_wv).pu q_wv1
    have hp:=Ch.pu (Ch.pu hp q_wv) q_wv1
    exact⟨congrArg (Value.int .i64) (by grind [DB.aH,DB.bA,DB.aQ]),by rw [show D.aH space first=D from by grind [DB.aH,DB.bA,DB.aQ]];exact h,hp⟩
   ·have h:=(h.pu q_wv).pu q_wv1
    obtain⟨_,dhd_h⟩:=h.hd
    refine ak _ rfl ⟨_,dhd_h.at rfl,?_⟩
    rintro _ rfl
    refine aB (fun c6=>?_) (fun c6=>?_)
    ·have hp:=Ch.pu (Ch.pu hp q_wv) q_wv1
     exact⟨congrArg (Value.int .i64) (by(simp [DB.aH,DB.bA,DB.aQ,c2,c3,c5,c6];done)),by rw [show D.aH space first=D from by(simp [DB.aH,DB.bA,DB.aQ,c2,c3,c5,c6];done)];exact h,hp⟩
    ·refine Calls.mono (v5 h _ _ _ _ _ _ (by(show D.has space=true;grind)) (by have h1:D.has space=true:=(by grind);have:=DB.cH h1;simp only [Ent.ok,decide_eq_true_eq];simp;omega) (by exact(DB.cH (d:=D) (p:=space) (by grind)).2)) ?_
     rintro e wv2 ⟨_,rfl,rfl,h,q_wv2⟩
     refine⟨rfl,?_⟩
     refine Calls.mono (v5 h _ _ _ _ _ _ (by(show D.has first=true;grind)) (by have h1:D.has space=true:=(by grind);have:=DB.cH h1;simp only [Ent.ok,decide_eq_true_eq];simp;omega) (by exact(DB.cH (d:=D) (p:=space) (by grind)).2)) ?_
     rintro e wv3 ⟨_,rfl,rfl,h,q_wv3⟩
     refine⟨rfl,?_⟩
     refine⟨bXU [3] [] wv3.drew L.M.X,?_⟩
     have h:=h.pu (Pu.aI _)
     obtain⟨_,dhd_h⟩:=h.hd
     refine ak _ rfl ⟨.inr ⟨by decide,bX.ld dhd_h (h.dis.2.1) _⟩,_,dhd_h.at rfl,?_⟩
     refine Calls.mono (ju _) ?_
     rintro e wv4 ⟨_,rfl,rfl,q_wv4⟩
     refine⟨_,_,rfl,?_⟩
     refine bXU.cF q_wv4 (by decide) ?_
     have h:=h.pu q_wv4
     refine Calls.mono (uc h _ _ _ _ (by exact kg _)) ?_
     rintro e wv5 ⟨_,rfl,rfl,h,q_wv5⟩
     refine⟨_,rfl,?_⟩
     refine bXU.more q_wv5 (by intro k hk;exact .inl hk) (by decide) ?_
     refine⟨bXU [3,9] [] wv5.drew L.M.X,?_⟩
     have h:=h.pu (Pu.aI _)
     obtain⟨_,dhd_h⟩:=h.hd
     refine ak _ rfl ⟨.inr ⟨by decide,bX.ld dhd_h (h.dis.2.1) _⟩,_,dhd_h.at rfl,ak _ rfl ⟨.inr ⟨by decide,bX.ld dhd_h (h.dis.2.1) _⟩,_,dhd_h.at rfl,?_⟩⟩
     refine Calls.mono (ju _) ?_
     rintro e wv6 ⟨_,rfl,rfl,q_wv6⟩
     refine⟨_,_,rfl,?_⟩
     refine bXU.cF q_wv6 (by decide) ?_
     have h:=h.pu q_wv6
     refine Calls.mono (uc h _ _ _ _ (by exact kg _)) ?_
     rintro e wv7 ⟨_,rfl,rfl,h,q_wv7⟩
     refine⟨_,rfl,?_⟩
     refine bXU.more q_wv7 (by intro k hk;exact .inl hk) (by decide) ?_
     refine⟨bXU [3] [] wv7.drew L.M.X,?_⟩
     have h:=h.pu (Pu.aI _)
     obtain⟨_,dhd_h⟩:=h.hd
     refine ak _ rfl ⟨.inr ⟨by decide,bX.ld dhd_h (h.dis.2.1) _⟩,_,dhd_h.at rfl,?_⟩
     refine Calls.mono (ju _) ?_
     rintro e wv8 ⟨_,rfl,rfl,q_wv8⟩
     refine⟨_,_,rfl,?_⟩
     refine bXU.cF q_wv8 (by decide) ?_
     have h:=h.pu q_wv8
     refine Calls.mono (uc h _ _ _ _ (by omega)) ?_
     rintro e wv9 ⟨_,rfl,rfl,h,q_wv9⟩
     refine⟨_,rfl,?_⟩
     refine bXU.more q_wv9 (by intro k hk;exact .inl hk) (by decide) ?_
     obtain⟨_,dhd_h⟩:=h.hd
     refine ak _ rfl ⟨_,dhd_h.at rfl,ak _ rfl (aM dhd_h (by simp) fun wv10 s_wv10=>?_)⟩
     have h:=h.A8 s_wv10 (by show 0≤i64.wrap (D.aw+1)∧i64.wrap (D.aw+1)≤64;rw [ah (by omega)];omega)
     have hp:=Ch.call (Ch.call (Ch.pu (Ch.drew (Ch.call (Ch.pu (Ch.drew (Ch.call (Ch.pu (Ch.drew (Ch.call (Ch.call (Ch.pu (Ch.pu hp q_wv) q_wv1) q_wv2 (by exact fun k hk=>.inl hk)) q_wv3 (by exact fun k hk=>.inl hk))) q_wv4) (q_wv5.mono L.inM) (by exact fun k hk=>.inl hk))) q_wv6) (q_wv7.mono L.inM) (by exact fun k hk=>.inl hk))) q_wv8) (q_wv9.mono L.inM) (by exact fun k hk=>.inl hk)) s_wv10.ch (by exact fun k e=>.inl (by subst e;exact .inl rfl))
     exact⟨congrArg (Value.int .i64) (by(simp [DB.aH,DB.bA,DB.aQ,c2,c3,c5,c6];done)),by rw [show D.aH space first=(((((D.set space ⟨1,space,1,1,false⟩).set first ⟨3,space,0,0,false⟩).aN (((D.set space ⟨1,space,1,1,false⟩).set first ⟨3,space,0,0,false⟩).mem.write true space 0 (u32.wrap first))).aN ((((D.set space ⟨1,space,1,1,false⟩).set first ⟨3,space,0,0,false⟩).aN (((D.set space ⟨1,space,1,1,false⟩).set first ⟨3,space,0,0,false⟩).mem.write true space 0 (u32.wrap first))).mem.write true space 1 (u32.wrap ((((D.set space ⟨1,space,1,1,false⟩).set first ⟨3,space,0,0,false⟩).aN (((D.set space ⟨1,space,1,1,false⟩).set first ⟨3,space,0,0,false⟩).mem.write true space 0 (u32.wrap first))).aw)))).aN (((((D.set space ⟨1,space,1,1,false⟩).set first ⟨3,space,0,0,false⟩).aN (((D.set space ⟨1,space,1,1,false⟩).set first ⟨3,space,0,0,false⟩).mem.write true space 0 (u32.wrap first))).aN ((((D.set space ⟨1,space,1,1,false⟩).set first ⟨3,space,0,0,false⟩).aN (((D.set space ⟨1,space,1,1,false⟩).set first ⟨3,space,0,0,false⟩).mem.write true space 0 (u32.wrap first))).mem.write true space 1 (u32.wrap ((((D.set space ⟨1,space,1,1,false⟩).set first ⟨3,space,0,0,false⟩).aN (((D.set space ⟨1,space,1,1,false⟩).set first ⟨3,space,0,0,false⟩).mem.write true space 0 (u32.wrap first))).aw)))).mem.write true space 2 0)).eN (i64.wrap (((((((D.set space ⟨1,space,1,1,false⟩).set first ⟨3,space,0,0,false⟩).aN (((D.set space ⟨1,space,1,1,false⟩).set first ⟨3,space,0,0,false⟩).mem.write true space 0 (u32.wrap first))).aN ((((D.set space ⟨1,space,1,1,false⟩).set first ⟨3,space,0,0,false⟩).aN (((D.set space ⟨1,space,1,1,false⟩).set first ⟨3,space,0,0,false⟩).mem.write true space 0 (u32.wrap first))).mem.write true space 1 (u32.wrap ((((D.set space ⟨1,space,1,1,false⟩).set first ⟨3,space,0,0,false⟩).aN (((D.set space ⟨1,space,1,1,false⟩).set first ⟨3,space,0,0,false⟩).mem.write true space 0 (u32.wrap first))).aw)))).aN (((((D.set space ⟨1,space,1,1,false⟩).set first ⟨3,space,0,0,false⟩).aN (((D.set space ⟨1,space,1,1,false⟩).set first ⟨3,space,0,0,false⟩).mem.write true space 0 (u32.wrap first))).aN ((((D.set space ⟨1,space,1,1,false⟩).set first ⟨3,space,0,0,false⟩).aN (((D.set space ⟨1,space,1,1,false⟩).set first ⟨3,space,0,0,false⟩).mem.write true space 0 (u32.wrap first))).mem.write true space 1 (u32.wrap ((((D.set space ⟨1,space,1,1,false⟩).set first ⟨3,space,0,0,false⟩).aN (((D.set space ⟨1,space,1,1,false⟩).set first ⟨3,space,0,0,false⟩).mem.write true space 0 (u32.wrap first))).aw)))).mem.write true space 2 0)).aw)+1))from by have h5:D.has first=true:=(by grind);have h6:=DB.cH h5;have e1:u32.wrap first=first:=bE (by omega);have e2:u32.wrap D.aw=D.aw:=bE (by omega);have e3:i64.wrap (D.aw+1)=D.aw+1:=ah (by omega);show D.aH space first=(((((D.set space ⟨1,space,1,1,false⟩).set first ⟨3,space,0,0,false⟩)).aN (((D.mem.write true space 0 (u32.wrap first)).write true space 1 (u32.wrap D.aw)).write true space 2 0)).eN (i64.wrap (D.aw+1)));rw [e1,e2,e3];unfold DB.aH;rw [if_pos (by grind [DB.aQ])];rfl];exact h,hp⟩
end Go.Proofs.YtbjlecpmgocoeaaGreatDoor
end
section
set_option maxRecDepth 10000
set_option maxHeartbeats 1000000
namespace Go.Proofs.YtbjlecpmgocoeaaGreatDoor
open Go Go.RowKit V
open Go.IntKind (i64 u32 u64)
end Go.Proofs.YtbjlecpmgocoeaaGreatDoor
end
section
set_option maxRecDepth 10000
set_option maxHeartbeats 1000000
namespace Go.Proofs.YtbjlecpmgocoeaaGreatDoor
open Go Go.RowKit V
open Go.IntKind (i64 u32 u64)
theorem Jb {L:fe} {m:Mem} {w:World}(h:cP w L m)(hS:1≤m.S):
 Calls Tryz.prog 29 #[(.pointer (some (Addr.mk L.g 0 none)))] w fun e w'=>∃v,e= .returned v∧∃g:Nat,∃a:Nat,v= .pointer (some (Addr.mk g 0 none))∧cP w' L (m.bu m.S)∧DBP w' ⟨g,a,L⟩ (DB.new m)∧(w.heap.size≤g∧w.heap.size≤a)∧Ch L.X w w':=by
 refine zW (some (Addr.mk L.g 0 none)) ?_
 have hm:=h.dC
 have hp:=Ch.refl L.X w
 have lt_h:=h.lt
 refine eQ ?_
 refine Calls.mono (tP h) ?_
 rintro e w9 ⟨_,rfl,rfl,e9⟩
 obtain rfl:=e9.symm
 refine⟨_,rfl,?_⟩
 refine⟨fun mz x8 W=>mz=(m.S - x8).toNat∧(0≤x8∧x8≤m.S)∧Ch L.X w W∧cP W L (m.bu x8.toNat),⟨_,rfl,(by omega),hp,by exact h⟩,?_⟩
 rintro _ _ x8 wv1 ⟨rfl,h0,hp,h⟩
 refine aB (fun c1=>?_) (fun c1=>?_)
 ·refine Calls.mono (ju _) ?_
  rintro e wv2 ⟨_,rfl,rfl,q_wv2⟩
  refine⟨_,_,rfl,?_⟩
  have h:=h.pu q_wv2
  refine Calls.mono (GS h _ _) ?_
  rintro e wv3 ⟨_,rfl,rfl,h,q_wv3⟩
  refine⟨_,rfl,?_⟩
  have hp:=Ch.call (Ch.pu hp q_wv2) q_wv3 (by exact fun k hk=>.inl hk)
  exact⟨_,by rw [IntKind.wrap_i64];omega,rfl,by rw [IntKind.wrap_i64];omega,hp,by rw [Mem.oQ _ (by omega)];exact h⟩
 ·have hw3:=h.lt
  have hz1:=hp
  have hx:x8.toNat=m.S:=by omega
  have hm2:=h.dC.1
  have hnn:Int.toNat (i64.wrap (2*(((m.bu x8.toNat).S:Nat):Int)))=2*m.S:=by rw [Mem.ja,ah (by omega)];omega
  refine Calls.mono (tP h) ?_
  rintro e w9 ⟨_,rfl,rfl,e9⟩
  obtain rfl:=e9.symm
  refine⟨_,rfl,?_⟩
  refine DA lS ((⟨0⟩:U32)) (by rfl) (n:=(i64.wrap (2*((m.bu x8.toNat).S)))) (by rw [ah (by omega)];omega) (by rw [ah (by omega)];omega) (by rw [ah (by omega)];omega) fun g_wv3 wv3 m_wv3 o_wv3=>?_
  have lo_g_wv3:=m_wv3.lo hp
  refine mkd fun gv1 wv4 m_gv1=>?_
  have b_gv1:=m_gv1.blk
  have h:=(h.pu m_wv3.pu).pu m_gv1.pu
  have hp:=Ch.made (Ch.made hp m_wv3) m_gv1
  exact⟨gv1,g_wv3,rfl,by rw [show(m.bu m.S)=(m.bu x8.toNat)from by rw [hx]];exact h,⟨⟨_,Blk.cast b_gv1 (by rw [hnn];show _=_;simp only [DB.n2,DB.new,Mem.ja])⟩,⟨_,_,Made.old m_gv1 m_wv3.blk,by rw [Array.size_replicate,hnn];show _=2*(m.bu m.S).S;rw [Mem.ja],fun p hp=>by have hp':p<m.S:=(by rwa [DB.vA]at hp);exact⟨z6 (by rw [hnn];omega),z6 (by rw [hnn];omega)⟩⟩,by show cP _ _ (m.bu m.S);rw [← hx];exact h,DB.pQ m hS,by have:=m_gv1.num;have:=m_wv3.lt;simp only [];omega,fun hh=>absurd (show gv1<wv1.heap.size from hw3 _ hh) (by have:=m_gv1.num;have:=m_wv3.kept.size;omega),fun hh=>absurd (show g_wv3<wv1.heap.size from hw3 _ hh) (by have:=m_wv3.num;omega)⟩,by have h1:=m_gv1.num;have h2:=m_wv3.num;have h3:=m_wv3.kept.size;have h4:=hz1.size;omega,hp⟩
theorem HJ {L:dy} {D:DB} {w:World}(h:DBP w L D):
 Calls Tryz.prog 52 #[(.pointer (some (Addr.mk L.g 0 none)))] w fun e w'=>∃v,e= .returned v∧∃g:Nat,∃n:Nat,v= .slice (some (Addr.mk g 0 none)) n n∧Own w' (fun k=>k=g) 22 (some (Addr.mk g 0 none)) n n (D.words.map U32.mk)∧w.heap.size≤g∧Pu w w':=by
 refine uK (some (Addr.mk L.g 0 none)) ?_
 have h64:=h.S64
 have hb:=h.ok.aw
 have hn1:Int.toNat (i64.wrap (1+((D.n2:Nat):Int)))=1+2*D.S:=by have:D.n2=2*D.S:=rfl;rw [ah (by omega)];omega
 have hp:=Ch.refl (fun _=>False) w
 have lt_h:=h.lt
 obtain⟨_,dhd_h⟩:=h.hd
 refine ak _ rfl ⟨_,_,_,dhd_h.at rfl,?_⟩
 refine lY lS (n:=(i64.wrap (1+((D.n2:Nat):Int)))) (by have:D.n2=2*D.S:=rfl;rw [ah (by omega)];omega) (by have:D.n2=2*D.S:=rfl;rw [ah (by omega)];omega) (by have:D.n2=2*D.S:=rfl;rw [ah (by omega)];omega) fun g_wv wv m_g_wv=>?_
 have lo_g_wv:=m_g_wv.lo hp
 have b_g_wv:Blk wv g_wv (aT (List.replicate (Int.toNat (i64.wrap (1+((D.n2:Nat):Int)))) 0)) 22:=m_g_wv.blk.cast (eT _ _)
 have dhd_h:=Made.old m_g_wv dhd_h
 refine ak _ rfl ⟨_,dhd_h.at rfl,⟨by omega,ak _ rfl (bQ (i:=0) b_g_wv (by simp only [List.length_replicate,hn1];omega) fun wv1 s_wv1=>?_)⟩⟩
 have b_g_wv:=s_wv1.blk
 refine⟨bXU [] [5] wv1.drew (fun _=>False),?_⟩
 refine⟨by omega,?_⟩
 rintro _ rfl _ rfl _ rfl
 have dhd_h:=Blk.drew (Ch.blk s_wv1.ch dhd_h (fun e=>absurd (lt_h _ (by exact .inl rfl)) (Nat.not_lt.2 (by rw [e];exact lo_g_wv))))
 refine ak _ rfl ⟨.inl (by decide),_,_,_,dhd_h.at rfl,?_⟩
 have b_g_wv:=Blk.drew b_g_wv
 have h:=((h.pu m_g_wv.pu).ch s_wv1.ch (fun k hx e=>(fun hx=>absurd (lt_h _ hx) (Nat.not_lt.2 lo_g_wv)) (e▸hx))).pu (Pu.aI _)
 refine mf lS b_g_wv (o:=1) DX (by(simp;omega)) (h).ints (by(have:D.n2=2*D.S:=rfl;simp only [List.length_set,List.length_replicate];omega)) fun wv2 s_wv2=>?_
 have b_g_wv:=s_wv2.blk
 refine bXU.pT s_wv2.ch (by decide) ?_
 have hp:=Ch.call (Ch.drew (Ch.call (Ch.made hp m_g_wv) s_wv1.ch (by exact fun k e=>.inr (e▸lo_g_wv)))) s_wv2.ch (by exact fun k e=>.inr (e▸lo_g_wv))
 exact⟨g_wv,_,by rfl,by have hw:=DB.lay (D:=D) hn1;have hbu:u32.wrap D.aw=D.aw:=bE (by omega);have h9:=b_g_wv;rw [hbu]at h9;have e:(min D.n2 (Int.toNat (i64.wrap (1+((D.n2:Nat):Int))) - Int.toNat 1))=min (2*D.S) (Int.toNat (i64.wrap (1+((D.n2:Nat):Int))) - 1):=rfl;rw [e,hw]at h9;exact Own.ofRow h9 (by rw [D.gm,hn1]) (by omega),lo_g_wv,hp⟩
theorem Dk {gd:Nat} {L:jI} {D:DB} {w:World}(h:eM w gd L D):
 Calls Tryz.prog 93 #[(.pointer (some (Addr.mk gd 0 none)))] w fun e w'=>∃v,e= .returned v∧∃Z':Nat→Prop,∃A':Option Addr,∃N':Nat,∃C':Nat,v= .slice A' N' C'∧Own w' Z' 22 A' N' C' (D.words.map U32.mk)∧(∀k,Z' k→w.heap.size≤k)∧Pu w w':=by
 refine qE (some (Addr.mk gd 0 none)) ?_
 have h64:=h.S64
 have hb:=h.ok.aw
 have hok:∀p:Int,0≤p→p<D.S→(D.at_ p).ok=true:=fun p h0 h1=>(h.ok.ent p.toNat (by omega)).1
 have hp:=Ch.refl (fun _=>False) w
 have lt_h:=h.lt
 obtain⟨_,dhd_h⟩:=h.hd'
 refine ak _ rfl ⟨_,dhd_h.at rfl,?_⟩
 refine mkd fun gv wv m_gv=>?_
 have b_gv:=m_gv.blk
 rintro _ rfl
 have b_gv:Blk wv gv (aT [u32.wrap D.aw]) _:=b_gv.cast (by rfl)
 have hp:=Ch.made hp m_gv
 have h:=h.pu m_gv.pu
 refine⟨fun mz lA lN lC p1 W=>∃l2:List U32,mz=(D.S - p1).toNat∧(0≤p1∧p1≤D.S)∧(l2=(D.aw::(List.range p1.toNat).flatMap fun p=>[(D.ent p).w0,(D.ent p).w1]).map U32.mk)∧(l2.length≤1+2*p1.toNat)∧Own W (fun k=>w.heap.size≤k) 22 lA lN lC l2∧Ch (fun _=>False) w W∧eM W gd L D,⟨_,(List.map U32.mk [u32.wrap D.aw]),rfl,(by omega),(by rw [bE (by omega)];rfl),(by simp),(Own.ofRow b_gv rfl (by simp)).to (by intro k h1 h2;exact h1▸(by have:=m_gv.num;omega)),hp,h⟩,?_⟩
 rintro _ _ lA lN lC p1 wv1 ⟨l2,rfl,h0,hl,hlb,h_l2,hp,h⟩
 obtain⟨_,dhd_h⟩:=h.hd'
 refine ak _ rfl ⟨_,_,_,dhd_h.at rfl,?_⟩
 refine aB (fun c1=>?_) (fun c1=>?_)
 ·refine ak _ rfl ⟨_,_,_,dhd_h.at rfl,?_⟩
  obtain⟨p2,ha2,hc2⟩:=h.ldE (i:=p1) (by omega) (by omega)
  refine⟨⟨by omega,by omega⟩,ak p2 ha2 ⟨_,_,_,_,_,⟨hc2 0 (by decide),hc2 1 (by decide),hc2 2 (by decide),hc2 3 (by decide),hc2 4 (by decide)⟩,?_⟩⟩
  refine Calls.mono (Bi _ _ _ _ _) ?_
  rintro e wv2 ⟨_,rfl,rfl,q_wv2⟩
  refine⟨_,_,_,rfl,?_⟩
  have hp:=Ch.pu hp q_wv2
  have dhd_h:=Pu.blk q_wv2 dhd_h
  have h:=h.pu q_wv2
  have h_l2:=h_l2.pu q_wv2
  have h_l2:=h_l2.narrow
  refine mkd fun gv2 wv3 m_gv2=>?_
  have lo_gv2:=m_gv2.lo hp
  have ne_gd_gv2:=m_gv2.ne dhd_h
  have no_gv2:=m_gv2.off h.lt
  have b_gv2:=m_gv2.blk
  refine bz b_gv2 (by simp) fun wv4 s_wv4=>?_
  have b_gv2:Blk wv4 gv2 #[_,_] _:=s_wv4.blk
  refine⟨by decide,⟨_,b_gv2.at rfl,⟨by decide,⟨_,b_gv2.at rfl,?_⟩⟩⟩⟩
  refine mkd fun gv3 wv5 m_gv3=>?_
  have b_gv3:=m_gv3.blk
  have h_l2:=((h_l2.pu m_gv2.pu).ch s_wv4.ch (fun k hx e=>absurd hx.2 (by rw [e,m_gv2.num];exact Nat.lt_irrefl _))).pu m_gv3.pu
  have h_l2:=h_l2.to (Y:=(fun k=>w.heap.size≤k)) (fun k h1 _=>h1.1)
  have hp:=Ch.made (Ch.call (Ch.made hp m_gv2) s_wv4.ch (by exact fun k e=>.inr (e▸lo_gv2))) m_gv3
  have b_gv3:Blk wv5 gv3 (aT [if(Ent.mk ((D.at_ p1).typ) ((D.at_ p1).owner) ((D.at_ p1).refs) ((D.at_ p1).state) ((D.at_ p1).aD)).ok then(Ent.mk ((D.at_ p1).typ) ((D.at_ p1).owner) ((D.at_ p1).refs) ((D.at_ p1).state) ((D.at_ p1).aD)).w0 else 0,if(Ent.mk ((D.at_ p1).typ) ((D.at_ p1).owner) ((D.at_ p1).refs) ((D.at_ p1).state) ((D.at_ p1).aD)).ok then(Ent.mk ((D.at_ p1).typ) ((D.at_ p1).owner) ((D.at_ p1).refs) ((D.at_ p1).state) ((D.at_ p1).aD)).w1 else 0]) _:=b_gv3.cast (by rfl)
  refine Own.apps h_l2 o8 (Own.ofRow (n:=2) b_gv3 rfl (by simp)).rd (by have:=h_l2.len;omega) (by have:=h_l2.len;omega) (by have:=hp.size;simpa using this) (fun A_wv6 c_wv6 wv6 h_l2 q_wv6=>?_) (fun h9=>absurd h9 (by decide))
  rintro _ rfl
  have hp:=Ch.call hp q_wv6 (by intro k hk;exact .inr hk)
  have h:=(((h.pu m_gv2.pu).ch s_wv4.ch (fun k hx e=>(no_gv2) (e▸hx))).pu m_gv3.pu).ch q_wv6 (fun k hx hy=>by have h1:=lt_h k hx;omega)
  exact⟨_,by rw [IntKind.wrap_i64];omega,(l2++List.map U32.mk [if(Ent.mk ((D.at_ p1).typ) ((D.at_ p1).owner) ((D.at_ p1).refs) ((D.at_ p1).state) ((D.at_ p1).aD)).ok then(Ent.mk ((D.at_ p1).typ) ((D.at_ p1).owner) ((D.at_ p1).refs) ((D.at_ p1).state) ((D.at_ p1).aD)).w0 else 0,if(Ent.mk ((D.at_ p1).typ) ((D.at_ p1).owner) ((D.at_ p1).refs) ((D.at_ p1).state) ((D.at_ p1).aD)).ok then(Ent.mk ((D.at_ p1).typ) ((D.at_ p1).owner) ((D.at_ p1).refs) ((D.at_ p1).state) ((D.at_ p1).aD)).w1 else 0]),rfl,by rw [IntKind.wrap_i64];omega,DB.yn hl (by omega) (hok p1 (by omega) (by omega)) rfl rfl,(by rw [ah (by omega),List.length_append];simp;omega),h_l2,hp,h⟩
 ·exact⟨(fun k=>w.heap.size≤k),_,_,_,by rfl,by have e:p1.toNat=D.S:=(by omega);have h9:=h_l2;rw [hl,e]at h9;exact h9,fun k hk=>hk,hp⟩
theorem Hm:S1 Tryz.prog 103 3 (.int .i64 0) 8:=S1.of (by kernel_rfl) (by kernel_rfl) rfl
theorem Hi:SN Tryz.prog 103 3 (.int .i64 0) 1 8:=Hm.sn
end Go.Proofs.YtbjlecpmgocoeaaGreatDoor
end
section
set_option maxRecDepth 10000
set_option maxHeartbeats 1000000
namespace Go.Proofs.YtbjlecpmgocoeaaGreatDoor
open Go Go.RowKit V
open Go.IntKind (i64 u32 u64)
theorem Aw {g n c:Nat} {mp A:Option Addr} {b:Int} {T:TypeId} {w:World}(hb:Blk w g #[.pointer mp,.int .i64 b,.slice A (2*n) c] T)(hn:n≤64):
 Calls Tryz.prog 18 #[(.pointer (some (Addr.mk g 0 none)))] w fun e w'=>∃v,e= .returned v∧v= .int .i64 (n:Int)∧w'=w:=by
 refine mM (some (Addr.mk g 0 none)) ?_
 refine ak _ rfl ⟨_,_,_,hb.at rfl,?_⟩
 exact⟨congrArg (Value.int .i64) (by rw [ah (by rw [Int.tdiv_eq_ediv_of_nonneg (by omega)];omega)];rw [Int.tdiv_eq_ediv_of_nonneg (by omega)];omega),rfl⟩
theorem IF {g n c:Nat} {mp A:Option Addr} {b:Int} {T:TypeId} {w:World}(hb:Blk w g #[.pointer mp,.int .i64 b,.slice A (2*n) c] T)(hn:n≤64)(aq:Int):
 Calls Tryz.prog 79 #[(.pointer (some (Addr.mk g 0 none))),(.int .i64 aq)] w fun e w'=>∃v,e= .returned v∧v= .bool (decide (0≤aq∧aq<(n:Int)))∧Pu w w':=by
 refine rn (some (Addr.mk g 0 none)) _ ?_
 refine⟨fun x w'=>x=((decide ((aq:Int)≥0)) && (decide ((aq:Int)<(n:Int))))∧Pu w w',?_,?_⟩
 ·refine ae (fun c1=>?_) (fun c1=>?_)
  ·refine Calls.mono (Aw hb hn) ?_
   rintro e w9 ⟨_,rfl,rfl,e9⟩
   obtain rfl:=e9.symm
   exact⟨_,rfl,by simp only [c1,Bool.true_and],Ch.refl _ _⟩
  ·exact⟨by simp only [c1,Bool.false_and],Ch.refl _ _⟩
 rintro _ _ wv ⟨rfl,q_wv⟩
 exact⟨congrArg Value.bool (by rw [Bool.eq_iff_iff];simp),q_wv⟩
theorem DB.nV {m:Mem} {l:List U32}(h:¬l.length=1+2*m.S):DB.aE m l=110:=by unfold DB.aE;rw [if_pos h]
theorem DB.sA {m:Mem} {l:List U32}(h:l.length=1+2*m.S)(hb:DB.wd l 0>64):DB.aE m l=110:=by unfold DB.aE;rw [if_neg (by simpa using h),if_pos hb]
theorem DB.sy {m:Mem} {l:List U32}(h:l.length=1+2*m.S)(hb:¬DB.wd l 0>64):DB.aE m l=if(List.range m.S).all (DB.fF m l)then 0 else 110:=by unfold DB.aE;rw [if_neg (by simpa using h),if_neg hb]
theorem DB.cZ {m:Mem} {l:List U32}(h:l.length=1+2*m.S)(hb:¬DB.wd l 0>64) {p:Nat}(hp:p<m.S)(he:DB.fF m l p=false):DB.aE m l=110:=by
 rw [sy h hb,if_neg]
 intro hh
 have:=List.all_eq_true.1 hh p (List.mem_range.2 hp)
 rw [he]at this;cases this
theorem DB.nW {m:Mem} {l:List U32}(h:l.length=1+2*m.S)(hb:¬DB.wd l 0>64)(hp:∀p,p<m.S→DB.fF m l p=true):DB.aE m l=0:=by
 rw [sy h hb,if_pos (List.all_eq_true.2 fun p h=>hp p (List.mem_range.1 h))]
theorem DB.oF {l:List U32} {i:Nat}:((l.drop 1).map U32.v).getD i 0=DB.wd l (1+i):=by
 unfold DB.wd
 rw [List.getD_eq_getElem?_getD,List.getD_eq_getElem?_getD,List.getElem?_map,List.getElem?_drop]
 cases l[1+i]? <;>rfl
theorem DB.tB {l:List U32}(hw:∀x∈l,0≤x.v∧x.v<4294967296)(i:Nat):0≤DB.wd l i∧DB.wd l i<4294967296:=by
 unfold DB.wd
 rw [List.getD_eq_getElem?_getD]
 by_cases hi:i<l.length
 ·rw [List.getElem?_eq_getElem hi];exact hw _ (List.getElem_mem hi)
 ·rw [List.getElem?_eq_none (by omega)];show(0:Int)≤0∧(0:Int)<_;omega
theorem ID {L:fe} {m:Mem} {Z:Nat→Prop} {wordsA:Option Addr} {wordsN wordsC:Nat} {l:List U32} {w:World}(h:cP w L m)(hz:Rd w Z wordsA wordsN wordsC l)(hw:∀x∈l,0≤x.v∧x.v<4294967296):
 Calls Tryz.prog 94 #[(.pointer (some (Addr.mk L.g 0 none))),(.slice wordsA wordsN wordsC)] w fun e w'=>∃v,e= .returned v∧∃p:Option Addr,v= .tuple #[.pointer p,.int .i64 (DB.aE m l)]∧
  (DB.aE m l=0→∃g a,p=some (Addr.mk g 0 none)∧DBP w' ⟨g,a,L⟩ (DB.load m l)∧w.heap.size≤g∧w.heap.size≤a)∧(DB.aE m l≠0→p=none)∧Pu w w':=by
 have hm:=h.dC
 have hl:=hz.len
 have hcap:=hz.cap
 have hlt:=hz.lt
 have e16:i64.wrap (1+i64.wrap (2*(m.S:Int)))=1+2*(m.S:Int):=by rw [ah (x:=2*(m.S:Int)) (by omega),ah (by omega)]
 refine yd (some (Addr.mk L.g 0 none)) wordsA wordsN wordsC ?_
 refine⟨fun b w'=>b=(decide (¬l.length=1+2*m.S) || decide (DB.wd l 0>64))∧Pu w w',?_,?_⟩
 ·refine eQ ?_
  refine Calls.mono (tP h) ?_
  rintro e w1 ⟨_,rfl,rfl,rfl⟩
  refine⟨_,rfl,?_⟩
  refine bt (fun c1=>?_) (fun c1=>?_)
  ·rw [e16]at c1
   exact⟨by rw [show decide (¬l.length=1+2*m.S)=true by simp;omega];rfl,Ch.refl _ _⟩
  ·rw [e16]at c1
   refine⟨by omega,?_⟩
   obtain⟨p,hA,hZ,hc⟩:=hz.u32 (by omega)
   refine ak p hA ⟨_,hc 0 (by omega),?_,Ch.refl _ _⟩
   rw [show decide (¬l.length=1+2*m.S)=false by simp;omega,Bool.false_or];rfl
 rintro _ _ wv ⟨rfl,q⟩
 refine aO (fun c1=>?_) (fun c1=>?_)
 ·have he:DB.aE m l=110:=by
   simp only [decide_eq_true_eq]at c1
   by_cases hn:l.length=1+2*m.S
   ·rcases c1 with c1 | c1
    ·exact absurd hn c1
    ·exact DB.sA hn c1
   ·exact DB.nV hn
  exact⟨none,by rw [he],by rw [he];intro hh;omega,fun _=>rfl,q⟩
 simp only [decide_eq_false_iff_not,Classical.not_not]at c1
 obtain⟨hlen,hb⟩:=c1
 have hz1:=(hz.pu q).pu (Pu.aI _)
 obtain⟨p,hA,hZ,hc⟩:=hz1.u32 (by omega)
 refine⟨bXU [3] [] wv.drew (fun _=>False),by omega,ak p hA ⟨.inr ⟨by decide,bX.lt (hz1.lt _ hZ) (fun h=>h)⟩,_,hc 0 (by omega),?_⟩⟩
 have en:i64.wrap (((wordsN:Nat):Int) - 1)=2*(m.S:Int):=by rw [ah (by omega)];omega
 rw [en]
 refine lY lS (n:=2*(m.S:Int)) (by omega) (by omega) (by omega) fun ga wv1 ma=>?_
 refine bXU.cF ma.pu (by decide) ?_
 refine mkd fun gv wv2 mv=>?_
 refine bXU.cF mv.pu (by decide) ?_
 have q0:Pu w wv.drew:=q.drew
 have loa:=ma.lo q0
 have q1:Pu w wv1:=q0.made ma
 have lov:=mv.lo q1
 have q2:Pu w wv2:=q1.made mv
 have ba:Blk wv2.drew ga (aT (List.replicate (2*(m.S:Int)).toNat 0)) _:=(mv.old (ma.blk.cast (eT _ _))).drew
 have bv:=mv.blk.drew
 have hne:=mv.ne ma.blk
 have hz2:=((hz1.pu ma.pu).pu mv.pu).pu (Pu.aI _)
 refine⟨bXU [] [3] wv2.drew (fun _=>False),.inl (by decide),_,_,_,bv.at rfl,by omega,?_⟩
 rintro xA e1 xN e2 xC e3
 have r:=Rd.from_ (lo:=Int.toNat 1) hz2 e1 e2 e3 (by omega) (by omega)
 refine BC lS ba rfl r.ints (by simp;omega) fun wv3 s3=>?_
 refine bXU.pT s3.ch (by decide) ?_
 have hrow:eR (List.replicate (2*(m.S:Int)).toNat 0) 0 (((l.drop (Int.toNat 1)).map U32.v).take (min xN (2*(m.S:Int)).toNat))=(l.drop 1).map U32.v:=by
  rw [List.take_of_length_le (by rw [e2];simp;omega)]
  exact ve _ _ (by simp;omega)
 have ba:=s3.blk
 rw [hrow]at ba
 have bv:=s3.old bv (fun e=>hne e.symm)
 have q3:Pu w wv3:=(q2.drew).stored s3 (.inr loa)
 have e2S:(2*(m.S:Int)).toNat=2*m.S:=by omega
 rw [e2S]at bv
 refine Calls.mono (Aw bv hm.1) ?_
 rintro e w4 ⟨_,rfl,rfl,rfl⟩
 refine⟨_,rfl,?_⟩
 refine⟨fun mz x W=>mz=((m.S:Int) - x).toNat∧(0≤x∧x≤(m.S:Int))∧Pu w W∧Blk W gv #[.pointer (some (Addr.mk L.g 0 none)),.int .i64 (i64.wrap (DB.wd l 0)),.slice (some (Addr.mk ga 0 none)) (2*m.S) (2*m.S)] 93∧Blk W ga (aT ((l.drop 1).map U32.v)) 22∧∀q,q<x.toNat→DB.fF m l q=true,
  ⟨_,rfl,⟨by omega,by omega⟩,q3,bv,ba,fun q hq=>by omega⟩,?_⟩
 rintro _ _ x w5 ⟨rfl,hx,q5,bv,ba,hent⟩
 have hwl:((l.drop 1).map U32.v).length=2*m.S:=by simp;omega
 refine aB (fun c2=>?_) (fun c2=>?_)
 ·have ex:i64.wrap (2*x)=2*x:=ah (by omega)
  have ext:(2*x).toNat=2*x.toNat:=by omega
  refine⟨_,_,_,bv.at rfl,by rw [ex];omega,?_⟩
  rintro _ rfl _ rfl _ rfl
  rw [ex,ext]
  refine⟨by omega,ak (Addr.mk ga (2*x.toNat) none) (by rw [if_neg (by omega)];simp [Addr.add];omega) ?_⟩
  refine⟨_,_,⟨by rw [bx];exact ba.cell (fA (by rw [hwl];omega)),by rw [bx];exact ba.cell (fA (by rw [hwl];omega))⟩,?_⟩
  have ea:((l.drop 1).map U32.v).getD (2*x.toNat+0) 0=DB.wd l (1+2*x.toNat):=DB.oF
  have eb:((l.drop 1).map U32.v).getD (2*x.toNat+1) 0=DB.wd l (2+2*x.toNat):=by rw [DB.oF];congr 1;omega
  rw [ea,eb]
  refine Calls.mono (At _ _ (DB.tB hw _) (DB.tB hw _)) ?_
  rintro e w6 ⟨_,rfl,rfl,q6⟩
  refine⟨_,_,_,_,_,_,rfl,?_⟩
  refine mkd fun ge w7 me=>?_
  have be:=me.blk
  refine bz be (by simp) fun w8 s8=>?_
  have be:Blk w8 ge #[.int .i64 (Ent.dec (DB.wd l (1+2*x.toNat)) (DB.wd l (2+2*x.toNat))).typ,.int .i64 (Ent.dec (DB.wd l (1+2*x.toNat)) (DB.wd l (2+2*x.toNat))).owner,.int .i64 (Ent.dec (DB.wd l (1+2*x.toNat)) (DB.wd l (2+2*x.toNat))).refs,.int .i64 (Ent.dec (DB.wd l (1+2*x.toNat)) (DB.wd l (2+2*x.toNat))).state,.bool (Ent.dec (DB.wd l (1+2*x.toNat)) (DB.wd l (2+2*x.toNat))).aD] _:=s8.blk
  have q7:Pu w w7:=(q5.pu q6).made me
  have q8:Pu w w8:=q7.stored s8 (.inr (me.lo (q5.pu q6)))
  have nv:=me.ne (q6.blk bv)
  have na:=me.ne (q6.blk ba)
  have bv:=s8.old (me.old (q6.blk bv)) nv
  have ba:=s8.old (me.old (q6.blk ba)) na
  have how:0≤(Ent.dec (DB.wd l (1+2*x.toNat)) (DB.wd l (2+2*x.toNat))).owner∨Ent.cC (DB.wd l (1+2*x.toNat)) (DB.wd l (2+2*x.toNat))≠0:=by
   by_cases hd:Ent.cC (DB.wd l (1+2*x.toNat)) (DB.wd l (2+2*x.toNat))=0
   ·exact .inl (Ent.cB (Ent.iB hd).1).2.2.1
   ·exact .inr hd
  refine⟨fun b W=>b= !(DB.fF m l x.toNat)∧Pu w W∧Blk W gv #[.pointer (some (Addr.mk L.g 0 none)),.int .i64 (i64.wrap (DB.wd l 0)),.slice (some (Addr.mk ga 0 none)) (2*m.S) (2*m.S)] 93∧Blk W ga (aT ((l.drop 1).map U32.v)) 22,?_,?_⟩
  ·refine bt (fun c3=>?_) (fun c3=>?_)
   ·exact⟨by unfold DB.fF;simp [c3],q8,bv,ba⟩
   ·refine⟨_,be.at rfl,?_⟩
    refine Calls.mono (IF bv hm.1 _) ?_
    rintro e w9 ⟨_,rfl,rfl,q9⟩
    refine⟨_,rfl,?_,q8.pu q9,q9.blk bv,q9.blk ba⟩
    unfold DB.fF
    have hc3:Ent.cC (DB.wd l (1+2*x.toNat)) (DB.wd l (2+2*x.toNat))=0:=by simpa using c3
    have h0:=how.resolve_right (fun h=>h hc3)
    rw [hc3]
    simp [h0]
  rintro _ _ w9 ⟨rfl,q9,bv,ba⟩
  refine bn (fun c4=>?_) (fun c4=>?_)
  ·have he:=DB.cZ hlen hb (p:=x.toNat) (by omega) c4
   exact⟨none,by rw [he],by rw [he];intro hh;omega,fun _=>rfl,q9⟩
  ·have e9:i64.wrap (x+1)=x+1:=ah (by omega)
   refine⟨_,?_,rfl,?_,q9,bv,ba,fun q hq=>?_⟩
   ·rw [e9];omega
   ·rw [e9];omega
   ·rw [e9]at hq
    by_cases hqx:q=x.toNat
    ·subst hqx;exact c4
    ·exact hent q (by omega)
 ·have hall:∀p,p<m.S→DB.fF m l p=true:=fun p hp=>hent p (by omega)
  have he:=DB.nW hlen hb hall
  refine⟨some (Addr.mk gv 0 none),by rw [he],fun _=>⟨gv,ga,rfl,?_,lov,loa⟩,fun hh=>absurd he hh,q5⟩
  have hlk:∀k,L.X k→k<w.heap.size:=h.lt
  refine⟨⟨93,?_⟩,⟨_,_,ba,by rw [dY,hwl];rfl,fun p hp=>?_⟩,h.pu q5,DB.tS hw he,fun e=>hne e,fun hx=>absurd (hlk _ hx) (Nat.not_lt.2 lov),fun hx=>absurd (hlk _ hx) (Nat.not_lt.2 loa)⟩
  ·have hw0:=DB.tB hw 0
   rw [ah (by omega)]at bv
   exact bv
  ·have hp:p<m.S:=hp
   have ho:=hall p hp
   unfold DB.fF at ho
   simp only [Bool.and_eq_true,beq_iff_eq]at ho
   have hd:=Ent.iB ho.1
   refine⟨?_,?_⟩
   ·rw [fA (by rw [hwl];omega),DB.oF]
    show _=some (Value.int .u32 (Ent.dec _ _).w0)
    rw [hd.2.1]
   ·rw [fA (by rw [hwl];omega),DB.oF]
    show _=some (Value.int .u32 (Ent.dec _ _).w1)
    rw [hd.2.2]
    congr 3;omega
end Go.Proofs.YtbjlecpmgocoeaaGreatDoor
end
section
namespace Go.Proofs.YtbjlecpmgocoeaaGreatDoor
open Go Go.RowKit V
open Go.IntKind (i64 u32 u64)
namespace V
section
variable {U:Uni}
theorem aS.vD {rs:List (Res U)} {X:Nat→Nat→Prop} {w w':World} {Q:Ou U→Prop} {v:Value} {k:Option Kn} {Z:Nat→Prop} {r:Res U} {kc:List (Key×Kn)}(hs:Sat rs X w)(q:Pu w w')(hr:RS Z w' r)(hz:∀k,Z k→w.heap.size≤k)(hQ:Q ⟨v,k,[],[r],kc⟩)(hk:KnO (rs++ [r]) v k)
 (hkc:∀key k,(key,k)∈kc→eB (rs++ [r]) fr0 key k):aS rs [] X w Q (.returned v) w':=by
 obtain⟨out,rs',X',h1,rfl,h3,h4⟩:=aS.more (Q:=fun o=>o=⟨v,k,[],[r],[]⟩) hs q hr hz rfl hk
 have h3:rs=rs':=by simpa [aX]using h3
 subst h3
 exact⟨⟨v,k,[],[r],kc⟩,rs,X',rfl,hQ,rfl,⟨h4.sat,h4.ch,h4.same,h4.grow,h4.new,h4.kr,fun key k hm _=>hkc key k hm⟩⟩
theorem aS.Hv {t:Nat} {rm:Nat→Nat} {m m':U.ty t} {X:Nat→Nat→Prop} {w w':World} {Q:Ou U→Prop} {v:Value} {k:Option Kn} {Z0 Z1:Nat→Prop} {r:Res U} {kc:List (Key×Kn)}(q:Ch (X 0) w w')(hp:U.pred t rm m' Z0 w')(hz0:∀k,Z0 k→X 0 k∨w.heap.size≤k)(hr:RS Z1 w' r)(hz1:∀k,Z1 k→w.heap.size≤k)(hd:∀k,Z0 k→¬Z1 k)
 (hQ:Q ⟨v,k,[.ob t m'],[r],kc⟩)(hk:KnO [.ob t rm m',r] v k)(hkc:∀key k,(key,k)∈kc→eB [.ob t rm m',r] fr0 key k):aS [.ob t rm m] [0] X w Q (.returned v) w':=by
 refine⟨_,[.ob t rm m'],fun i=>if i=0 then Z0 else if i=1 then Z1 else X i,rfl,hQ,by simp [aX,cc,nth,bY],⟨⟨fun i r' hr'=>?_,fun i j hi hj hij k hk1 hk2=>?_⟩,q.mono fun k hk=>⟨0,by simp,hk⟩,fun i hi hm=>?_,fun i hi k hk=>?_,fun i h1 h2 k hk=>?_,hk,fun key k hm _=>hkc key k hm⟩⟩
 ·match i with
  | 0=>simp only [List.cons_append,List.nil_append,nth,Option.some.injEq]at hr';subst hr';exact hp
  | 1=>simp only [List.cons_append,List.nil_append,nth,Option.some.injEq]at hr';subst hr';exact hr
  | i+2=>simp [nth]at hr'
 ·simp at hi hj
  match i,j,hi,hj,hij with
  | 0,1,_,_,_=>exact hd k hk1 hk2
  | 1,0,_,_,_=>exact hd k hk2 hk1
  | 0,0,_,_,h=>exact h rfl
  | 1,1,_,_,h=>exact h rfl
 ·simp at hi hm;omega
 ·simp at hi;subst hi;exact hz0 k hk
 ·simp at h1 h2
  obtain rfl:i=1:=by omega
  exact hz1 k hk
theorem wu {rs rs':List (Res U)} {M:List Nat} {us:List (Upd U)}(h:aX rs M us=some rs'):rs'.length=rs.length:=(eK h).1
theorem mG.pack {rs rs':List (Res U)} {bI:List Nat} {X X':Nat→Nat→Prop} {w w':World} {v:Value} {k k':Option Kn} {us:List (Upd U)} {a b c:Res U} {kc kc':List (Key×Kn)}(h:mG rs bI X w ⟨v,k,us,[a,b],kc⟩ w' rs' X')(hl:rs'.length=rs.length) {Z:Nat→Prop}(hc:RS Z w' c)(hz:∀k,Z k→X' rs.length k∨X' (rs.length+1) k)
 (hk:KnO (rs'++ [c]) v k')(hkc:∀key k,(key,k)∈kc'→eB (rs'++ [c]) fr0 key k):mG rs bI X w ⟨v,k',us,[c],kc'⟩ w' rs' (fun i=>if i=rs.length then Z else X' i):=by
 refine⟨⟨fun i r hr=>?_,fun i j hi hj hij k hk1 hk2=>?_⟩,h.ch,fun i hi hm=>?_,fun i hi k hk=>?_,fun i h1 h2 k hk=>?_,hk,fun key k hm _=>hkc key k hm⟩
 ·by_cases hi:i<rs'.length
  ·rw [aW,if_pos hi]at hr
   simp only [if_neg (show ¬i=rs.length by omega)]
   exact h.sat.res i r (by rw [aW,if_pos hi];exact hr)
  ·have h1:=aP hr
   simp at h1
   obtain rfl:i=rs'.length:=by omega
   rw [aW,if_neg (by omega),Nat.sub_self]at hr
   obtain rfl:c=r:=by simpa [nth]using hr
   simpa [hl]using hc
 ·simp at hi hj
  have hz':∀j,j<rs'.length→Z k→¬X' j k:=fun j hj hZ hX=>by
   rcases hz k hZ with h1 | h1
   ·exact h.sat.dis rs.length j (by simp;omega) (by simp;omega) (by omega) k h1 hX
   ·exact h.sat.dis (rs.length+1) j (by simp;omega) (by simp;omega) (by omega) k h1 hX
  by_cases h1:i=rs.length
  ·have h2:¬j=rs.length:=by omega
   simp only [h1,if_true,if_neg h2]at hk1 hk2
   exact hz' j (by omega) hk1 hk2
  ·simp only [if_neg h1]at hk1
   by_cases h2:j=rs.length
   ·simp only [h2,if_true]at hk2
    exact hz' i (by omega) hk2 hk1
   ·simp only [if_neg h2]at hk2
    exact h.sat.dis i j (by simp;omega) (by simp;omega) hij k hk1 hk2
 ·simp only [if_neg (show ¬i=rs.length by omega)];exact h.same i hi hm
 ·by_cases h1:i=rs.length
  ·simp only [h1,if_true]at hk
   rcases hz k hk with h2 | h2
   ·exact .inr (h.new rs.length (by omega) (by simp) k h2)
   ·exact .inr (h.new (rs.length+1) (by omega) (by simp) k h2)
  ·simp only [if_neg h1]at hk;exact h.grow i hi k hk
 ·simp at h2
  obtain rfl:i=rs.length:=by omega
  simp only [if_true]at hk
  rcases hz k hk with h2 | h2
  ·exact h.new rs.length (by omega) (by simp) k h2
  ·exact h.new (rs.length+1) (by omega) (by simp) k h2
theorem aS.pack {rs rs':List (Res U)} {bI:List Nat} {X X':Nat→Nat→Prop} {w w':World} {Q:Ou U→Prop} {v:Value} {k k':Option Kn} {us:List (Upd U)} {a b c:Res U} {kc kc':List (Key×Kn)}(happ:aX rs bI us=some rs')(h:mG rs bI X w ⟨v,k,us,[a,b],kc⟩ w' rs' X') {Z:Nat→Prop}(hc:RS Z w' c)(hz:∀k,Z k→X' rs.length k∨X' (rs.length+1) k)
 (hQ:Q ⟨v,k',us,[c],kc'⟩)(hk:KnO (rs'++ [c]) v k')(hkc:∀key k,(key,k)∈kc'→eB (rs'++ [c]) fr0 key k):aS rs bI X w Q (.returned v) w':=
 ⟨_,rs',_,rfl,hQ,happ,h.pack (wu happ) hc hz hk hkc⟩
theorem KnO.pair {rs:List (Res U)} {a b:Value} {p:PK}(h:den U rs p=some a):KnO rs (.tuple #[a,b]) (some (.t [some p,none])):=
 ⟨_,rfl,fun j k hj=>by
  match j,hj with
  | 0,hj=>simp only [nth,Option.some.injEq]at hj;subst hj;exact⟨a,rfl,h⟩
  | 1,hj=>simp [nth]at hj
  | j+2,hj=>simp [nth]at hj⟩
theorem nd {rs:List (Res U)} {fr:Fr} {key:Key} {k:Kn}(h:eB rs fr key k):∀key' k',(key',k')∈ [(key,k)]→eB rs fr key' k':=fun key' k' hm=>by
 simp only [List.mem_singleton,Prod.mk.injEq]at hm
 obtain⟨rfl,rfl⟩:=hm
 exact h
theorem aS.DQ {a a':Res U} {rest:List (Res U)} {u:Upd U} {X:Nat→Nat→Prop} {w w':World} {Q:Ou U→Prop} {v:Value} {k:Option Kn} {Z:Nat→Prop}(hs:Sat (a::rest) X w)(q:Ch (X 0) w w')(hu:cc a u=some a')(hp:RS Z w' a')(hz:∀k,Z k→X 0 k∨w.heap.size≤k)(hQ:Q ⟨v,k,[u],[],[]⟩)(hk:KnO (a'::rest) v k):aS (a::rest) [0] X w Q (.returned v) w':=by
 refine⟨_,a'::rest,fun i=>if i=0 then Z else X i,rfl,hQ,by simp [aX,hu,nth,bY],⟨⟨fun i r hr=>?_,fun i j hi hj hij k hk1 hk2=>?_⟩,q.mono fun k hk=>⟨0,by simp,hk⟩,fun i hi hm=>?_,fun i hi k hk=>?_,fun i h1 h2=>by simp at h1 h2;omega,by simpa using hk,fun _ k hk=>by cases hk⟩⟩
 ·rw [List.append_nil]at hr
  match i with
  | 0=>simp only [nth,Option.some.injEq]at hr;subst hr;exact hp
  | i+1=>exact(hs.res (i+1) r hr).ch q fun k hk h0=>hs.dis 0 (i+1) (by simp) (aP hr) (by omega) k h0 hk
 ·simp at hi hj
  have key:∀j,j<rest.length+1→j≠0→Z k→X j k→False:=fun j hj h0 hZ hX=>by
   rcases hz k hZ with h | h
   ·exact hs.dis 0 j (by simp) (by simpa using hj) (by omega) k h hX
   ·have:=hs.lt (i:=j) (by simpa using hj) k hX;omega
  by_cases h1:i=0
  ·have h2:¬j=0:=by omega
   simp only [h1,if_true,if_neg h2]at hk1 hk2
   exact key j hj h2 hk1 hk2
  ·simp only [if_neg h1]at hk1
   by_cases h2:j=0
   ·simp only [h2,if_true]at hk2
    exact key i hi h1 hk2 hk1
   ·simp only [if_neg h2]at hk2
    exact hs.dis i j (by simpa using hi) (by simpa using hj) hij k hk1 hk2
 ·simp at hm;simp only [if_neg hm]
 ·simp at hi;subst hi;exact hz k hk
theorem aS.first {t:Nat} {r:Nat→Nat} {s s':U.ty t} {rest:List (Res U)} {X:Nat→Nat→Prop} {w w':World} {Q:Ou U→Prop} {v:Value} {k:Option Kn} {Z:Nat→Prop}(hs:Sat (.ob t r s::rest) X w)(q:Ch (X 0) w w')(hp:U.pred t r s' Z w')(hz:∀k,Z k→X 0 k∨w.heap.size≤k)(hQ:Q ⟨v,k,[.ob t s'],[],[]⟩)(hk:KnO (.ob t r s'::rest) v k):aS (.ob t r s::rest) [0] X w Q (.returned v) w':=
 aS.DQ (a':= .ob t r s') hs q (by simp [cc]) hp hz hQ hk
theorem aS.HF {t:Nat} {T:TypeId} {A A':Option Addr} {c c':Nat} {l l':List (U.el t)} {rest:List (Res U)} {X:Nat→Nat→Prop} {w w':World} {Q:Ou U→Prop} {v:Value} {k:Option Kn} {Z:Nat→Prop}(hs:Sat (.lst t true T A c l::rest) X w)(q:Ch (X 0) w w')(hp:RS Z w' (.lst t true T A' c' l':Res U))(hz:∀k,Z k→X 0 k∨w.heap.size≤k)(hQ:Q ⟨v,k,[.lst t A' c' l'],[],[]⟩)(hk:KnO (.lst t true T A' c' l'::rest) v k):aS (.lst t true T A c l::rest) [0] X w Q (.returned v) w':=
 aS.DQ (a':= .lst t true T A' c' l') hs q (by simp [cc]) hp hz hQ hk
end
end V
theorem Dg.pr {d:Dg}(h:d.Ok):d.save.length=26:=by
 have h1:=h.len
 have h2:=h.n
 unfold Dg.save
 simp
 omega
theorem vi {l:List Int}(h:l.length=26):Value.agg (aT l)= .agg #[.int .u32 (l.getD 0 0),.int .u32 (l.getD 1 0),.int .u32 (l.getD 2 0),.int .u32 (l.getD 3 0),.int .u32 (l.getD 4 0),.int .u32 (l.getD 5 0),.int .u32 (l.getD 6 0),.int .u32 (l.getD 7 0),.int .u32 (l.getD 8 0),.int .u32 (l.getD 9 0),.int .u32 (l.getD 10 0),.int .u32 (l.getD 11 0),.int .u32 (l.getD 12 0),.int .u32 (l.getD 13 0),.int .u32 (l.getD 14 0),.int .u32 (l.getD 15 0),.int .u32 (l.getD 16 0),.int .u32 (l.getD 17 0),.int .u32 (l.getD 18 0),.int .u32 (l.getD 19 0),.int .u32 (l.getD 20 0),.int .u32 (l.getD 21 0),.int .u32 (l.getD 22 0),.int .u32 (l.getD 23 0),.int .u32 (l.getD 24 0),.int .u32 (l.getD 25 0)]:=by
 rcases l with _ | ⟨a0,_ | ⟨a1,_ | ⟨a2,_ | ⟨a3,_ | ⟨a4,_ | ⟨a5,_ | ⟨a6,_ | ⟨a7,_ | ⟨a8,_ | ⟨a9,_ | ⟨b0,_ | ⟨b1,_ | ⟨b2,_ | ⟨b3,_ | ⟨b4,_ | ⟨b5,_ | ⟨b6,_ | ⟨b7,_ | ⟨b8,_ | ⟨b9,_ | ⟨c0,_ | ⟨c1,_ | ⟨c2,_ | ⟨c3,_ | ⟨c4,_ | ⟨c5,_ | ⟨c6,r⟩⟩⟩⟩⟩⟩⟩⟩⟩⟩⟩⟩⟩⟩⟩⟩⟩⟩⟩⟩⟩⟩⟩⟩⟩⟩⟩
 all_goals first | rfl | (simp at h;done)
theorem Dh {g c mg:Nat} {A:Option Addr} {E:Pd} {Y Z:Nat→Prop} {w:World}(hb:RS (U:=Un) Y w (.blk g [.pointer (some (Addr.mk mg 0 none)),.slice A E.aj.length c,.int .i64 E.aw] 67))(hl:RS (U:=Un) Z w (.lst 4 true 120 A c E.aj))(hd:∀k,Y k→¬Z k)(hn:1≤E.n)(ok:E.Ok):
 ∃e,RS (U:=Un) (fun k=>k=g∨k=e) w (.ob 3 (fun i=>if i=0 then g else if i=1 then mg else if i=2 then e else c) E)∧Z e:=by
 obtain⟨hY,hY2,hb⟩:=hb
 obtain⟨ho,_⟩: @Own Ent _ w Z 120 A E.aj.length c E.aj∧∀k,Z k→k<w.heap.size:=hl
 rw [Pd.cI]at ho hb
 obtain⟨e,rfl,hZ,hlt⟩:=ho.lt hn
 have he:e≠g:=fun h=>hd g hY (h▸hZ)
 refine⟨e,(⟨fun k=>Iff.rfl,⟨⟨_,hb⟩,?_,ok,he,hn⟩⟩:bo 3 (fun i=>if i=0 then g else if i=1 then mg else if i=2 then e else c) E (fun k=>k=g∨k=e) w),hZ⟩
 exact⟨⟨ho.own.1,fun a ha=>by injection ha with ha;rw [← ha]⟩,ho.len⟩
end Go.Proofs.YtbjlecpmgocoeaaGreatDoor
end
section
namespace Go.Proofs.YtbjlecpmgocoeaaGreatDoor
open Go Go.RowKit V
open Go.IntKind (i64 u32 u64)
theorem eM.rpd {w:World} {g:Nat} {L:jI} {D:DB}(h:eM w g L D):kG w g L.M.g L.e L.c D.pd∧bN w L.M.g L.M D.mem:=
 ⟨⟨h.hd',h.es,⟨h.ok.ent,h.ok.aw,h.mem.dC.1⟩,fun e=>h.dis.1 (by rw [h.gq];exact e),h.pos⟩,h.mem⟩
theorem eM.mk2 {w:World} {g mg e c:Nat} {E:Pd} {m:Mem} {L:fc}(h:kG w g mg e c E)(hm:bN w mg L m)(hn:E.n=m.S)(hx:∀k,(k=g∨k=e)→¬L.X k):eM w g ⟨g,e,c,L⟩ (E.on m):=by
 have hS:(E.on m).S=E.n:=hn.symm
 have hg:L.g=mg:=hm.gq
 refine⟨rfl,?_,?_,?_,⟨fun p hp=>?_,h.ok.aw⟩,by rw [hS];exact h.pos,h.ne,hx _ (.inl rfl),hx _ (.inr rfl)⟩
 ·have:=h.hd
  rw [← hg]at this
  rw [hS]
  exact this
 ·have:=h.es
  unfold DB.aj
  rw [hS]
  exact this
 ·show bN w L.g L m
  rw [hg];exact hm
 ·rw [hS]at hp ⊢
  exact h.ok.ent p hp
abbrev HA(g pM pD pR:Nat):Res Un:= .blk g [.pointer (some (Addr.mk pM 0 none)),.pointer (some (Addr.mk pD 0 none)),.pointer (some (Addr.mk pR 0 none))] 34
abbrev aux(g:Nat)(r:Nat→Nat)(E:Pd)(rm:Nat→Nat)(m:Mem)(r2:Nat→Nat)(F:Pd)(rm2:Nat→Nat)(m2:Mem):List (Res Un):= [HA g (rm 0) (r 0) (r2 0),.ob 1 r E,.ob 0 rm m,.ob 3 r2 F,.ob 2 rm2 m2]
theorem tQ {g:Nat} {r rm r2 rm2:Nat→Nat} {E F:Pd} {m m2:Mem} {w:World} {X:Nat→Nat→Prop}(h:Sat (aux g r E rm m r2 F rm2 m2) X w)(l1:r 1=rm 0)(l2:r2 1=rm2 0)(hn:E.n=m.S)(hn2:F.n=m2.S):
 ∃Z,nB w g ⟨E.on m,F.on m2,rm 0,r 0,r2 0⟩ Z∧∀k,Z k→∃i,i<5∧X i k:=by
 obtain⟨hg,hg2,hb⟩:X 0 g∧(∀k,X 0 k→k=g)∧Blk w g ⟨_⟩ 34:=h.res 0 _ rfl
 obtain⟨a,hX1,hp⟩:=(h.res 1 _ rfl:bo 1 r E (X 1) w)
 obtain⟨L,hLg,hX2,hm⟩:=(h.res 2 _ rfl:bo 0 rm m (X 2) w)
 obtain⟨hX3,hrp⟩:=(h.res 3 _ rfl:bo 3 r2 F (X 3) w)
 obtain⟨RL,hX4,hrm⟩:=(h.res 4 _ rfl:bo 2 rm2 m2 (X 4) w)
 have dis:∀i j,i<5→j<5→i≠j→∀k,X i k→¬X j k:=h.dis
 rw [l1,hLg]at hp
 rw [l2]at hrp
 have hD:DBP w ⟨r 0,a,L⟩ (E.on m):=hp.db hm hn ⟨fun hx=>dis 1 2 (by omega) (by omega) (by omega) _ ((hX1 _).1 (.inl rfl)) ((hX2 _).1 hx),fun hx=>dis 1 2 (by omega) (by omega) (by omega) _ ((hX1 _).1 (.inr rfl)) ((hX2 _).1 hx)⟩
 have hR:eM w (r2 0) ⟨r2 0,r2 2,r2 3,RL⟩ (F.on m2):=eM.mk2 hrp hrm hn2 fun k hk hx=>dis 3 4 (by omega) (by omega) (by omega) k ((hX3 k).1 hk) ((hX4 k).1 hx)
 have cD:∀k,dy.X ⟨r 0,a,L⟩ k→∃i,(i=1∨i=2)∧X i k:=fun k hk=>by
  rcases hk with hk | hk | hk
  ·exact⟨1,.inl rfl,(hX1 k).1 (.inl hk)⟩
  ·exact⟨1,.inl rfl,(hX1 k).1 (.inr hk)⟩
  ·exact⟨2,.inr rfl,(hX2 k).1 hk⟩
 have cR:∀k,jI.X ⟨r2 0,r2 2,r2 3,RL⟩ k→∃i,(i=3∨i=4)∧X i k:=fun k hk=>by
  rcases hk with hk | hk | hk
  ·exact⟨3,.inl rfl,(hX3 k).1 (.inl hk)⟩
  ·exact⟨3,.inl rfl,(hX3 k).1 (.inr hk)⟩
  ·exact⟨4,.inr rfl,(hX4 k).1 hk⟩
 refine⟨fun k=>k=g∨dy.X ⟨r 0,a,L⟩ k∨jI.X ⟨r2 0,r2 2,r2 3,RL⟩ k,⟨hb,a,L,⟨r2 0,r2 2,r2 3,RL⟩,hLg.symm,hD,hR,fun k h1 h2=>?_,fun h1=>?_,fun h1=>?_,fun k=>Iff.rfl⟩,fun k hk=>?_⟩
 ·obtain⟨i,hi,h1⟩:=cD k h1
  obtain⟨j,hj,h2⟩:=cR k h2
  exact dis i j (by omega) (by omega) (by omega) k h1 h2
 ·obtain⟨i,hi,h1⟩:=cD g h1
  exact dis 0 i (by omega) (by omega) (by omega) g hg h1
 ·obtain⟨i,hi,h1⟩:=cR g h1
  exact dis 0 i (by omega) (by omega) (by omega) g hg h1
 ·rcases hk with rfl | hk | hk
  ·exact⟨0,by omega,hg⟩
  ·obtain⟨i,hi,h1⟩:=cD k hk
   exact⟨i,by omega,h1⟩
  ·obtain⟨i,hi,h1⟩:=cR k hk
   exact⟨i,by omega,h1⟩
theorem lZ {g:Nat} {s:LSt} {w:World} {Z:Nat→Prop}(h:nB w g s Z):
 ∃(r rm r2 rm2:Nat→Nat)(X:Nat→Nat→Prop),Sat (aux g r s.D.pd rm s.D.mem r2 s.R.pd rm2 s.R.mem) X w∧(r 0=s.pD∧rm 0=s.pM∧r2 0=s.pR)∧r 1=rm 0∧r2 1=rm2 0∧∀i,i<5→∀k,X i k→Z k:=by
 obtain⟨a,L,RL,h1,h2,h3,h4,h5,h6,h7⟩:=h.dbs
 have hrp:=h3.rpd
 have zD:∀k,dy.X ⟨s.pD,a,L⟩ k→Z k:=fun k hk=>(h7 k).1 (.inr (.inl hk))
 have zR:∀k,RL.X k→Z k:=fun k hk=>(h7 k).1 (.inr (.inr hk))
 have gq:=h3.gq
 let X:Nat→Nat→Prop:=fun i=>if i=0 then fun k=>k=g else if i=1 then fun k=>k=s.pD∨k=a else if i=2 then L.X else if i=3 then fun k=>k=s.pR∨k=RL.e else RL.M.X
 have cl:∀i,i<5→∀k,X i k→(i=0∧k=g)∨((i=1∧(k=s.pD∨k=a))∨(i=2∧L.X k))∨((i=3∧(k=s.pR∨k=RL.e))∨(i=4∧RL.M.X k)):=fun i hi k hk=>by
  match i,hi with
  | 0,_=>exact .inl ⟨rfl,hk⟩
  | 1,_=>exact .inr (.inl (.inl ⟨rfl,hk⟩))
  | 2,_=>exact .inr (.inl (.inr ⟨rfl,hk⟩))
  | 3,_=>exact .inr (.inr (.inl ⟨rfl,hk⟩))
  | 4,_=>exact .inr (.inr (.inr ⟨rfl,hk⟩))
 have dX:∀k,(k=s.pD∨k=a)→dy.X ⟨s.pD,a,L⟩ k:=fun k hk=>hk.elim .inl fun h=>.inr (.inl h)
 have rX:∀k,(k=s.pR∨k=RL.e)→RL.X k:=fun k hk=>hk.elim (fun h=>.inl (by rw [gq];exact h)) fun h=>.inr (.inl h)
 refine⟨fun i=>if i=0 then s.pD else s.pM,fun _=>s.pM,fun i=>if i=0 then s.pR else if i=1 then RL.M.g else if i=2 then RL.e else RL.c,fun _=>RL.M.g,X,⟨fun i r hr=>?_,fun i j hi hj hij k hk1 hk2=>?_⟩,⟨rfl,rfl,rfl⟩,rfl,rfl,fun i hi k hk=>?_⟩
 ·match i with
  | 0=>simp only [aux,nth,Option.some.injEq]at hr;subst hr;exact⟨rfl,fun k hk=>hk,h.hd⟩
  | 1=>simp only [aux,nth,Option.some.injEq]at hr;subst hr;exact(⟨a,fun k=>Iff.rfl,by have:=h2.pd;rw [show(dy.M ⟨s.pD,a,L⟩).g=s.pM from h1]at this;exact this⟩:bo 1 (fun i=>if i=0 then s.pD else s.pM) s.D.pd (fun k=>k=s.pD∨k=a) w)
  | 2=>simp only [aux,nth,Option.some.injEq]at hr;subst hr;exact(⟨L,h1.symm,fun k=>Iff.rfl,h2.mem⟩:bo 0 (fun _=>s.pM) s.D.mem L.X w)
  | 3=>simp only [aux,nth,Option.some.injEq]at hr;subst hr;exact(⟨fun k=>Iff.rfl,hrp.1⟩:bo 3 (fun i=>if i=0 then s.pR else if i=1 then RL.M.g else if i=2 then RL.e else RL.c) s.R.pd (fun k=>k=s.pR∨k=RL.e) w)
  | 4=>simp only [aux,nth,Option.some.injEq]at hr;subst hr;exact(⟨RL.M,fun k=>Iff.rfl,hrp.2⟩:bo 2 (fun _=>RL.M.g) s.R.mem RL.M.X w)
  | i+5=>simp [aux,nth]at hr
 ·have hi:i<5:=hi
  have hj:j<5:=hj
  have a1:=cl i hi k hk1
  have a2:=cl j hj k hk2
  have dM:∀k,L.X k→dy.X ⟨s.pD,a,L⟩ k:=fun k h=>.inr (.inr h)
  have rM:∀k,RL.M.X k→RL.X k:=fun k h=>.inr (.inr h)
  have nD:∀k,(k=s.pD∨k=a)→¬L.X k:=fun k hk hL=>by
   rcases hk with rfl | rfl
   ·exact h2.dis.2.1 hL
   ·exact h2.dis.2.2 hL
  have nR:∀k,(k=s.pR∨k=RL.e)→¬RL.M.X k:=fun k hk hL=>by
   rcases hk with rfl | rfl
   ·exact h3.dis.2.1 (by rw [gq];exact hL)
   ·exact h3.dis.2.2 hL
  rcases a1 with⟨e1,b1⟩ | (⟨e1,b1⟩ | ⟨e1,b1⟩) | (⟨e1,b1⟩ | ⟨e1,b1⟩)<;>rcases a2 with⟨e2,b2⟩ | (⟨e2,b2⟩ | ⟨e2,b2⟩) | (⟨e2,b2⟩ | ⟨e2,b2⟩)<;>first
   | omega
   | exact h5 (b1▸dX k b2)
   | exact h5 (b1▸dM k b2)
   | exact h6 (b1▸rX k b2)
   | exact h6 (b1▸rM k b2)
   | exact h5 (b2▸dX k b1)
   | exact h5 (b2▸dM k b1)
   | exact h6 (b2▸rX k b1)
   | exact h6 (b2▸rM k b1)
   | exact nD k b1 b2
   | exact nD k b2 b1
   | exact nR k b1 b2
   | exact nR k b2 b1
   | exact h4 k (dX k b1) (rX k b2)
   | exact h4 k (dX k b1) (rM k b2)
   | exact h4 k (dM k b1) (rX k b2)
   | exact h4 k (dM k b1) (rM k b2)
   | exact h4 k (dX k b2) (rX k b1)
   | exact h4 k (dX k b2) (rM k b1)
   | exact h4 k (dM k b2) (rX k b1)
   | exact h4 k (dM k b2) (rM k b1)
 ·rcases cl i hi k hk with⟨_,rfl⟩ | (⟨_,h⟩ | ⟨_,h⟩) | (⟨_,h⟩ | ⟨_,h⟩)
  ·exact(h7 _).1 (.inl rfl)
  ·exact zD k (dX k h)
  ·exact zD k (.inr (.inr h))
  ·exact zR k (rX k h)
  ·exact zR k (.inr (.inr h))
theorem sw {g:Nat} {r rm r2 rm2:Nat→Nat} {E F E' F':Pd} {m m2 m' m2':Mem} {w w':World} {X X':Nat→Nat→Prop}(h:Sat (aux g r E rm m r2 F rm2 m2) X w)(l1:r 1=rm 0)(l2:r2 1=rm2 0)(hn:E'.n=m'.S)(hn2:F'.n=m2'.S)(M:List Nat)(hM:∀j,j∈M→j<5)(q:Ch (fun k=>∃j,j∈M∧X j k) w w')
 (hs:∀i,i<5→i ∉ M→nth (aux g r E' rm m' r2 F' rm2 m2') i=nth (aux g r E rm m r2 F rm2 m2) i∧X' i=X i)(hm:∀i,i∈M→∀x,nth (aux g r E' rm m' r2 F' rm2 m2') i=some x→RS (X' i) w' x)(hx:∀i,i∈M→∀k,X' i k→X i k∨w.heap.size≤k)(hd:∀i j,i∈M→j∈M→i≠j→∀k,X' i k→¬X' j k):
 ∃Z,nB w' g ⟨E'.on m',F'.on m2',rm 0,r 0,r2 0⟩ Z∧∀k,Z k→(∃i,i<5∧X i k)∨w.heap.size≤k:=by
 have h0:Inv w 5 X [0,1,2,3,4] (aux g r E rm m r2 F rm2 m2) X w:=⟨h,Ch.refl _ _,fun i _ k hk=>.inl hk,fun i h1 h2=>by simp at h2;omega,by simp⟩
 have h1:=h0.step (rs':=aux g r E' rm m' r2 F' rm2 m2') (X':=X') M q (fun j hj=>⟨hM j hj,.inl (by have:=hM j hj;match j,this with | 0,_ | 1,_ | 2,_ | 3,_ | 4,_=>simp)⟩) (Nat.le_refl _) hs (fun i hi x hxx=>by
  rcases hi with hi | hi
  ·exact hm i hi x hxx
  ·have:=aP hxx;simp at this hi;omega) hx (fun i h1 h2=>by simp at h1 h2;omega) (fun i j hi hj hij h1 h2=>by
  simp at h1 h2
  rcases hi with hi | hi
  ·rcases hj with hj | hj
   ·exact hd i j hi hj hij
   ·simp at hj;omega
  ·simp at hi;omega)
 obtain⟨Z,hZ,hc⟩:=tQ h1.sat l1 l2 hn hn2
 refine⟨Z,hZ,fun k hk=>?_⟩
 obtain⟨i,hi,hXi⟩:=hc k hk
 by_cases hiM:i∈M
 ·exact(hx i hiM k hXi).imp (fun h=>⟨i,hi,h⟩) id
 ·rw [(hs i hi hiM).2]at hXi
  exact .inl ⟨i,hi,hXi⟩
section
variable {U:Uni}
theorem Sat.two {a b:Res U} {X:Nat→Nat→Prop} {w:World}(h0:RS (X 0) w a)(h1:RS (X 1) w b)(hd:∀k,X 0 k→¬X 1 k):Sat [a,b] X w:=
 ⟨fun i r hr=>by
  match i with
  | 0=>simp only [nth,Option.some.injEq]at hr;subst hr;exact h0
  | 1=>simp only [nth,Option.some.injEq]at hr;subst hr;exact h1
  | i+2=>simp [nth]at hr,fun i j hi hj hij k h2 h3=>by
  simp at hi hj
  match i,j,hi,hj,hij with
  | 0,1,_,_,_=>exact hd k h2 h3
  | 1,0,_,_,_=>exact hd k h3 h2
  | 0,0,_,_,h=>exact h rfl
  | 1,1,_,_,h=>exact h rfl⟩
theorem Sat.one {a:Res U} {X:Nat→Nat→Prop} {w:World}(h0:RS (X 0) w a):Sat [a] X w:=
 ⟨fun i r hr=>by
  match i with
  | 0=>simp only [nth,Option.some.injEq]at hr;subst hr;exact h0
  | i+1=>simp [nth]at hr,fun i j hi hj hij k h2 h3=>by simp at hi hj;omega⟩
theorem Sat.sel {rs rs2:List (Res U)} {X:Nat→Nat→Prop} {w:World}(h:Sat rs X w)(p:Nat→Nat)(hp:∀i,i<rs2.length→nth rs2 i=nth rs (p i))(inj:∀i j,i<rs2.length→j<rs2.length→i≠j→p i≠p j):Sat rs2 (fun i=>X (p i)) w:=by
 have lt:∀i,i<rs2.length→p i<rs.length:=fun i hi=>by
  obtain⟨x,hx⟩:=bO hi
  exact aP (by rw [← hp i hi];exact hx)
 exact⟨fun i r hr=>h.res (p i) r (by rw [← hp i (aP hr)];exact hr),fun i j hi hj hij=>h.dis (p i) (p j) (lt i hi) (lt j hj) (inj i j hi hj hij)⟩
end
section
variable {r:Nat→Nat} {s:LSt} {rest:List (Res Un)} {X:Nat→Nat→Prop} {w:World}
theorem DE(hs:Sat (U:=Un) (.ob 8 r s::rest) X w):∃(r1 rm:Nat→Nat)(X1:Nat→Nat→Prop),Sat (U:=Un) [.ob 1 r1 s.D.pd,.ob 0 rm s.D.mem] X1 w∧aA (U:=Un) [.ob 1 r1 s.D.pd,.ob 0 rm s.D.mem] fr0 [(.l 0 1,.p (.obj 1 0 0))]∧s.pD=r1 0∧s.pM=rm 0∧(∀i,i<2→∀k,X1 i k→X 0 k)∧
 ∀(w':World)(D':DB)(X':Nat→Nat→Prop),Sat (U:=Un) [.ob 1 r1 D'.pd,.ob 0 rm D'.mem] X' w'→Ch (fun k=>X1 0 k∨X1 1 k) w w'→(∀i,i<2→∀k,X' i k→X1 i k∨w.heap.size≤k)→∃Z,bo 8 r {s with D:=D'} Z w'∧∀k,Z k→X 0 k∨w.heap.size≤k:=by
 obtain⟨r1,rm,r2,rm2,Y,hY,⟨e1,e2,e3⟩,l1,l2,hYX⟩:=lZ (hs.res 0 _ rfl:nB w (r 0) s (X 0))
 refine⟨r1,rm,fun i=>Y (i+1),Sat.two (hY.res 1 _ rfl) (hY.res 2 _ rfl) (hY.dis 1 2 (by simp) (by simp) (by omega)),nd ⟨_,_,_,rfl,show some (Value.pointer (some ⟨rm 0,0,none⟩))=some (.pointer (some ⟨r1 1,0,none⟩))by rw [l1]⟩,e1.symm,e2.symm,fun i hi k hk=>hYX (i+1) (by omega) k hk,fun w' D' X' hsat q hg=>?_⟩
 obtain⟨Z,hZ,hc⟩:=sw (E':=D'.pd) (m':=D'.mem) (F':=s.R.pd) (m2':=s.R.mem) (X':=fun i=>if i=1 then X' 0 else if i=2 then X' 1 else Y i) hY l1 l2 rfl rfl [1,2] (by simp) (q.mono fun k hk=>hk.elim (fun h=>⟨1,by simp,h⟩) (fun h=>⟨2,by simp,h⟩)) (fun i hi hm=>by
  simp at hm
  match i,hi,hm with
  | 0,_,_=>exact⟨rfl,rfl⟩
  | 3,_,_=>exact⟨rfl,rfl⟩
  | 4,_,_=>exact⟨rfl,rfl⟩) (fun i hi x hx=>by
  simp at hi
  rcases hi with rfl | rfl
  ·simp only [aux,nth,Option.some.injEq]at hx;subst hx;exact hsat.res 0 _ rfl
  ·simp only [aux,nth,Option.some.injEq]at hx;subst hx;exact hsat.res 1 _ rfl) (fun i hi k hk=>by
  simp at hi
  rcases hi with rfl | rfl
  ·exact hg 0 (by omega) k hk
  ·exact hg 1 (by omega) k hk) (fun i j hi hj hij k hk hk2=>by
  simp at hi hj
  rcases hi with rfl | rfl<;>rcases hj with rfl | rfl
  ·exact hij rfl
  ·exact hsat.dis 0 1 (by simp) (by simp) (by omega) k hk hk2
  ·exact hsat.dis 1 0 (by simp) (by simp) (by omega) k hk hk2
  ·exact hij rfl)
 rw [e1,e2,e3]at hZ
 exact⟨Z,hZ,fun k hk=>(hc k hk).imp (fun⟨i,hi,h⟩=>hYX i hi k h) id⟩
theorem DD(hs:Sat (U:=Un) (.ob 8 r s::rest) X w):∃(r1 rm:Nat→Nat)(X1:Nat→Nat→Prop),Sat (U:=Un) [.ob 3 r1 s.R.pd,.ob 2 rm s.R.mem] X1 w∧aA (U:=Un) [.ob 3 r1 s.R.pd,.ob 2 rm s.R.mem] fr0 [(.l 0 1,.p (.obj 1 0 0))]∧s.pR=r1 0∧(∀i,i<2→∀k,X1 i k→X 0 k)∧
 ∀(w':World)(D':DB)(X':Nat→Nat→Prop),Sat (U:=Un) [.ob 3 r1 D'.pd,.ob 2 rm D'.mem] X' w'→Ch (fun k=>X1 0 k∨X1 1 k) w w'→(∀i,i<2→∀k,X' i k→X1 i k∨w.heap.size≤k)→∃Z,bo 8 r {s with R:=D'} Z w'∧∀k,Z k→X 0 k∨w.heap.size≤k:=by
 obtain⟨r1,rm,r2,rm2,Y,hY,⟨e1,e2,e3⟩,l1,l2,hYX⟩:=lZ (hs.res 0 _ rfl:nB w (r 0) s (X 0))
 refine⟨r2,rm2,fun i=>Y (i+3),Sat.two (hY.res 3 _ rfl) (hY.res 4 _ rfl) (hY.dis 3 4 (by simp) (by simp) (by omega)),nd ⟨_,_,_,rfl,show some (Value.pointer (some ⟨rm2 0,0,none⟩))=some (.pointer (some ⟨r2 1,0,none⟩))by rw [l2]⟩,e3.symm,fun i hi k hk=>hYX (i+3) (by omega) k hk,fun w' D' X' hsat q hg=>?_⟩
 obtain⟨Z,hZ,hc⟩:=sw (E':=s.D.pd) (m':=s.D.mem) (F':=D'.pd) (m2':=D'.mem) (X':=fun i=>if i=3 then X' 0 else if i=4 then X' 1 else Y i) hY l1 l2 rfl rfl [3,4] (by simp) (q.mono fun k hk=>hk.elim (fun h=>⟨3,by simp,h⟩) (fun h=>⟨4,by simp,h⟩)) (fun i hi hm=>by
  simp at hm
  match i,hi,hm with
  | 0,_,_=>exact⟨rfl,rfl⟩
  | 1,_,_=>exact⟨rfl,rfl⟩
  | 2,_,_=>exact⟨rfl,rfl⟩
  | 3,_,h=>exact absurd rfl h.1
  | 4,_,h=>exact absurd rfl h.2) (fun i hi x hx=>by
  simp at hi
  rcases hi with rfl | rfl
  ·simp only [aux,nth,Option.some.injEq]at hx;subst hx;exact hsat.res 0 _ rfl
  ·simp only [aux,nth,Option.some.injEq]at hx;subst hx;exact hsat.res 1 _ rfl) (fun i hi k hk=>by
  simp at hi
  rcases hi with rfl | rfl
  ·exact hg 0 (by omega) k hk
  ·exact hg 1 (by omega) k hk) (fun i j hi hj hij k hk hk2=>by
  simp at hi hj
  rcases hi with rfl | rfl<;>rcases hj with rfl | rfl
  ·exact hij rfl
  ·exact hsat.dis 0 1 (by simp) (by simp) (by omega) k hk hk2
  ·exact hsat.dis 1 0 (by simp) (by simp) (by omega) k hk hk2
  ·exact hij rfl)
 rw [e1,e2,e3]at hZ
 exact⟨Z,hZ,fun k hk=>(hc k hk).imp (fun⟨i,hi,h⟩=>hYX i hi k h) id⟩
end
section
variable {P:Program} {f:Nat} {args:Array Value} {r:Nat→Nat} {s:LSt} {X:Nat→Nat→Prop} {w:World} {Q:Ou Un→Prop} {v:Value} {k:Option Kn}
theorem Ax {X:Nat→Nat→Prop} {w w':World}(h:Ch (fun k=>∃j,j∈([]:List Nat)∧X j k) w w'):Pu w w':=h.mono fun k hk=>by obtain⟨j,hj,_⟩:=hk;cases hj
theorem IX(hs:Sat (U:=Un) [.ob 8 r s] X w)(hc:∀(r1 rm:Nat→Nat)(X1:Nat→Nat→Prop),Sat (U:=Un) [.ob 1 r1 s.D.pd,.ob 0 rm s.D.mem] X1 w→aA (U:=Un) [.ob 1 r1 s.D.pd,.ob 0 rm s.D.mem] fr0 [(.l 0 1,.p (.obj 1 0 0))]→s.pD=r1 0→Calls P f args w (aS (U:=Un) [.ob 1 r1 s.D.pd,.ob 0 rm s.D.mem] [] X1 w (fun o=>o=⟨v,k,[],[],[]⟩)))
 (hQ:Q ⟨v,k,[],[],[]⟩)(hk:KnO (U:=Un) [.ob 8 r s] v k):Calls P f args w (aS (U:=Un) [.ob 8 r s] [] X w Q):=by
 obtain⟨r1,rm,X1,hs1,hl1,e1,e2,hsub,hcl⟩:=DE hs
 refine(hc r1 rm X1 hs1 hl1 e1).mono ?_
 rintro e w' ⟨out,rs',X',rfl,rfl,happ,hp⟩
 exact aS.pu hs (Ax hp.ch) hQ hk
theorem stR(D':DB)(hs:Sat (U:=Un) [.ob 8 r s] X w)(hc:∀(r1 rm:Nat→Nat)(X1:Nat→Nat→Prop),Sat (U:=Un) [.ob 3 r1 s.R.pd,.ob 2 rm s.R.mem] X1 w→aA (U:=Un) [.ob 3 r1 s.R.pd,.ob 2 rm s.R.mem] fr0 [(.l 0 1,.p (.obj 1 0 0))]→s.pR=r1 0→Calls P f args w (aS (U:=Un) [.ob 3 r1 s.R.pd,.ob 2 rm s.R.mem] [0,1] X1 w (fun o=>o=⟨v,k,[.ob 3 D'.pd,.ob 2 D'.mem],[],[]⟩)))
 (hQ:Q ⟨v,k,[.ob 8 {s with R:=D'}],[],[]⟩)(hk:KnO (U:=Un) [.ob 8 r {s with R:=D'}] v k):Calls P f args w (aS (U:=Un) [.ob 8 r s] [0] X w Q):=by
 obtain⟨r1,rm,X1,hs1,hl1,e1,hsub,hcl⟩:=DD hs
 refine(hc r1 rm X1 hs1 hl1 e1).mono ?_
 rintro e w' ⟨out,rs',X',rfl,rfl,happ,hp⟩
 have happ2: [Res.ob (U:=Un) 3 r1 D'.pd,.ob 2 rm D'.mem]=rs':=by simpa [aX,cc,nth,bY]using happ
 subst happ2
 have q:Ch (fun k=>X1 0 k∨X1 1 k) w w':=hp.ch.mono fun k hk=>by
  obtain⟨j,hj,h⟩:=hk
  simp at hj
  rcases hj with rfl | rfl
  ·exact .inl h
  ·exact .inr h
 obtain⟨Z,hZ,hg⟩:=hcl w' D' X' (by have:=hp.sat;simpa using this) q (fun i hi k hk=>hp.grow i (by match i,hi with | 0,_ | 1,_=>simp) k hk)
 exact aS.one (Z:=Z) (q.mono fun k hk=>hk.elim (hsub 0 (by omega) k) (hsub 1 (by omega) k)) hZ hg hQ hk
theorem Fv {rest:List (Res Un)}(hs:Sat (U:=Un) (.ob 8 r s::rest) X w):∃(r1 rm r2 rm2:Nat→Nat)(Y:Nat→Nat→Prop),Sat (aux (r 0) r1 s.D.pd rm s.D.mem r2 s.R.pd rm2 s.R.mem++rest) Y w∧(r1 1=rm 0∧r2 1=rm2 0)∧
 ∀ {w':World} {v:Value} {k:Option Kn} {Q:Ou Un→Prop} {r1' rm' r2' rm2':Nat→Nat} {E' F':Pd} {m' m2':Mem} {X':Nat→Nat→Prop},Sat (aux (r 0) r1' E' rm' m' r2' F' rm2' m2') X' w'→r1' 1=rm' 0→r2' 1=rm2' 0→E'.n=m'.S→F'.n=m2'.S→Ch (fun k=>∃i,i<5∧Y i k) w w'→(∀i,i<5→∀k,X' i k→(∃i,i<5∧Y i k)∨w.heap.size≤k)→
  Q ⟨v,k,[.ob 8 ⟨E'.on m',F'.on m2',rm' 0,r1' 0,r2' 0⟩],[],[]⟩→KnO (U:=Un) (.ob 8 r ⟨E'.on m',F'.on m2',rm' 0,r1' 0,r2' 0⟩::rest) v k→aS (U:=Un) (.ob 8 r s::rest) [0] X w Q (.returned v) w':=by
 obtain⟨r1,rm,r2,rm2,Y,hY,⟨e1,e2,e3⟩,l1,l2,hYX⟩:=lZ (hs.res 0 _ rfl:nB w (r 0) s (X 0))
 have hlen:(aux (r 0) r1 s.D.pd rm s.D.mem r2 s.R.pd rm2 s.R.mem).length=5:=rfl
 refine⟨r1,rm,r2,rm2,fun i=>if i<5 then Y i else X (i - 4),⟨fun i x hx=>?_,fun i j hi hj hij k h1 h2=>?_⟩,⟨l1,l2⟩,fun {w' v k Q r1' rm' r2' rm2' E' F' m' m2' X'} hsat h1 h2 hn hn2 q hg hQ hk=>?_⟩
 ·rw [aW,hlen]at hx
  by_cases hi:i<5
  ·rw [if_pos hi]at hx
   simp only [if_pos hi]
   exact hY.res i x hx
  ·rw [if_neg hi]at hx
   simp only [if_neg hi]
   refine hs.res (i - 4) x ?_
   rw [show i - 4=(i - 5)+1 by omega]
   exact hx
 ·rw [List.length_append,hlen]at hi hj
  have hl:∀i,i<5+rest.length→i - 4<rest.length+1:=fun i h=>by omega
  by_cases hi5:i<5<;>by_cases hj5:j<5
  ·simp only [if_pos hi5,if_pos hj5]at h1 h2
   exact hY.dis i j hi5 hj5 hij k h1 h2
  ·simp only [if_pos hi5,if_neg hj5]at h1 h2
   exact hs.dis 0 (j - 4) (by simp) (by simp;omega) (by omega) k (hYX i hi5 k h1) h2
  ·simp only [if_neg hi5,if_pos hj5]at h1 h2
   exact hs.dis 0 (i - 4) (by simp) (by simp;omega) (by omega) k (hYX j hj5 k h2) h1
  ·simp only [if_neg hi5,if_neg hj5]at h1 h2
   exact hs.dis (i - 4) (j - 4) (by simp;omega) (by simp;omega) (by omega) k h1 h2
 ·obtain⟨Z,hZ,hcz⟩:=tQ hsat h1 h2 hn hn2
  have hy:∀k,(∃i,i<5∧(fun i=>if i<5 then Y i else X (i - 4)) i k)→X 0 k:=fun k ⟨i,hi,h⟩=>by
   simp only [if_pos hi]at h
   exact hYX i hi k h
  refine aS.first (Z:=Z) hs (q.mono hy) hZ (fun k hk=>?_) hQ hk
  obtain⟨i,hi,h⟩:=hcz k hk
  exact(hg i hi k h).imp (hy k) id
theorem stA(mD mR:Mem)(hD:mD.S=s.D.mem.S)(hR:mR.S=s.R.mem.S)(hs:Sat (U:=Un) [.ob 8 r s] X w)(hc:∀(r1 rm r2 rm2:Nat→Nat)(X1:Nat→Nat→Prop),Sat (aux (r 0) r1 s.D.pd rm s.D.mem r2 s.R.pd rm2 s.R.mem) X1 w→aA (aux (r 0) r1 s.D.pd rm s.D.mem r2 s.R.pd rm2 s.R.mem) fr0 [(.l 1 1,.p (.obj 2 0 0)),(.l 3 1,.p (.obj 4 0 0))]→
 Calls P f args w (aS (aux (r 0) r1 s.D.pd rm s.D.mem r2 s.R.pd rm2 s.R.mem) [2,4] X1 w (fun o=>o=⟨v,k,[.ob 0 mD,.ob 2 mR],[],[]⟩)))
 (hQ:Q ⟨v,k,[.ob 8 {s with D:=s.D.aN mD,R:=s.R.aN mR}],[],[]⟩)(hk:KnO (U:=Un) [.ob 8 r {s with D:=s.D.aN mD,R:=s.R.aN mR}] v k):Calls P f args w (aS (U:=Un) [.ob 8 r s] [0] X w Q):=by
 obtain⟨r1,rm,r2,rm2,Y,hY,⟨e1,e2,e3⟩,l1,l2,hYX⟩:=lZ (hs.res 0 _ rfl:nB w (r 0) s (X 0))
 refine(hc r1 rm r2 rm2 Y hY (fun key k hm=>?_)).mono ?_
 ·simp only [List.mem_cons,Prod.mk.injEq,List.not_mem_nil,or_false]at hm
  rcases hm with⟨rfl,rfl⟩ | ⟨rfl,rfl⟩
  ·exact⟨_,_,_,rfl,show some (Value.pointer (some ⟨rm 0,0,none⟩))=some (.pointer (some ⟨r1 1,0,none⟩))by rw [l1]⟩
  ·exact⟨_,_,_,rfl,show some (Value.pointer (some ⟨rm2 0,0,none⟩))=some (.pointer (some ⟨r2 1,0,none⟩))by rw [l2]⟩
 rintro e w' ⟨out,rs',X',rfl,rfl,happ,hp⟩
 have happ2:aux (r 0) r1 s.D.pd rm mD r2 s.R.pd rm2 mR=rs':=by simpa [aX,cc,nth,bY,aux]using happ
 subst happ2
 have hsat:Sat (aux (r 0) r1 s.D.pd rm mD r2 s.R.pd rm2 mR) X' w':=by have:=hp.sat;simpa using this
 obtain⟨Z,hZ,hcz⟩:=tQ hsat l1 l2 (by rw [hD];rfl) (by rw [hR];rfl)
 rw [e1,e2,e3]at hZ
 have cl:∀i,i<5→∀k,X' i k→X 0 k∨w.heap.size≤k:=fun i hi k hk=>by
  by_cases h:i=2∨i=4
  ·exact(hp.grow i (by simp;exact h) k hk).imp (fun h=>hYX i hi k h) id
  ·have e:=hp.same i hi (by simp;omega)
   rw [e]at hk
   exact .inl (hYX i hi k hk)
 refine aS.one (Z:=Z) (hp.ch.mono fun k hk=>?_) hZ (fun k hk=>by obtain⟨i,hi,h⟩:=hcz k hk;exact cl i hi k h) hQ hk
 obtain⟨j,hj,h⟩:=hk
 simp at hj
 exact hYX j (by omega) k h
end
end Go.Proofs.YtbjlecpmgocoeaaGreatDoor
end
section
namespace Go.Proofs.YtbjlecpmgocoeaaGreatDoor
open Go Go.RowKit V
open Go.IntKind (i64 u32 u64)
def dgN(kk:List Int):Nat→Dg
 | 0=>Dg.new
 | n+1=>(dgN kk n).add kk [U32.mk 7]
theorem ln(kk:List Int):∀n,(dgN kk n).Ok
 | 0=>Dg.pQ
 | n+1=>Dg.zi (ln kk n) (by intro x hx;simp at hx;subst hx;decide)
def sz(n:Int):Int:=Int.tmod (Int.tmod n 8+8) 8+1
theorem C7(n:Int):1≤sz n∧sz n≤8:=by
 have h:=Int.tmod_lt_of_pos n (show(0:Int)<8 by decide)
 have h2:=Int.lt_tmod_of_pos n (show(0:Int)<8 by decide)
 have h3:=Int.tmod_lt_of_pos (Int.tmod n 8+8) (show(0:Int)<8 by decide)
 have h4:=Int.tmod_nonneg (a:=Int.tmod n 8+8) 8 (by omega)
 unfold sz;omega
def ix(a n:Int):Int:=Int.tmod (Int.tmod a n+n) n
theorem HC {a n:Int}(hn:0<n):0≤ix a n∧ix a n<n:=by
 have h2:=Int.lt_tmod_of_pos a hn
 exact⟨Int.tmod_nonneg _ (by omega),Int.tmod_lt_of_pos _ hn⟩
namespace DB
def wr(D:DB)(p o v:Int):DB:=D.aN (D.mem.write true p o v)
def wrs(D:DB)(p:Int):Int→List Int→DB
 | _,[]=>D
 | o,x::l=>(D.wr p o x).wrs p (o+1) l
theorem oT(p:Int)(x:Int):∀(l:List Int)(D:DB)(o:Int),D.wrs p o (l++ [x])=(D.wrs p o l).wr p (o+l.length) x
 | [],D,o=>by simp [wrs]
 | y::l,D,o=>by
  simp only [List.cons_append,wrs,List.length_cons]
  rw [oT p x l]
  congr 1;omega
theorem jK(D:DB)(p o v:Int):(D.wr p o v).pd=D.pd:=by
 show Pd.mk (D.mem.write true p o v).S D.aw D.ent=Pd.mk D.mem.S D.aw D.ent
 rw [Mem.jy]
theorem yl(p:Int):∀(l:List Int)(D:DB)(o:Int),(D.wrs p o l).pd=D.pd
 | [],_,_=>rfl
 | x::l,D,o=>by show((D.wr p o x).wrs p (o+1) l).pd=_;rw [yl p l,jK]
theorem iz(D:DB)(p o v:Int):(D.wr p o v).mem=D.mem.write true p o v:=rfl
def ew(kk:List Int)(D:DB)(a v:Int):DB:=D.wrs a 11 (dgN kk (min v.toNat 40)).save
theorem cJ(kk:List Int)(D:DB)(a v:Int):(D.ew kk a v).pd=D.pd:=yl a _ D 11
def ldw(D:DB)(a v:Int):List U32:=(D.words.map U32.mk).set (ix a (D.words.map U32.mk).length).toNat (U32.mk v)
def pW(D:DB)(a v:Int):DB:=if aE D.mem (D.ldw a v)=0 then load D.mem (D.ldw a v)else D
def act(kk:List Int)(D:DB)(k a b c v:Int):DB:=
 if k=1 then D.aH a b else if k=2 then D.take a b c else if k=3 then D.hH a b else if k=4 then D.eL a else if k=5 then D.setState a b
 else if k=6 then D.aU a (Int.tmod b 2 !=0)else if k=7 then D.wr a b v else if k=8 then D.ew kk a v else if k=9 then D.pW a v else D
def begun(n i:Int):DB:=DB.new (Mem.fresh (sz n).toNat (sz i).toNat)
theorem uW {D:DB}(h:D.Ok):∀x∈D.words.map U32.mk,0≤x.v∧x.v<4294967296:=by
 intro x hx
 simp only [words,List.map_cons,List.mem_cons,List.mem_map,List.mem_flatMap,List.mem_range]at hx
 rcases hx with rfl | ⟨y,⟨p,hp,hy⟩,rfl⟩
 ·have:=h.aw;show 0≤D.aw∧D.aw<_;omega
 ·have h1:=(h.ent p hp).1
  simp at hy
  rcases hy with rfl | rfl
  ·exact Ent.uZ h1
  ·exact Ent.uY h1
theorem nb {D:DB}(h:D.Ok) {a v:Int}(hv:0≤v∧v<4294967296):∀x∈D.ldw a v,0≤x.v∧x.v<4294967296:=by
 intro x hx
 rcases List.mem_or_eq_of_mem_set hx with h1 | rfl
 ·exact uW h x h1
 ·exact hv
theorem ix_eq {D:DB}(hS:D.S≤64)(a:Int):Int.tmod (i64.wrap (Int.tmod a (((D.words.map U32.mk).length:Nat):Int)+(((D.words.map U32.mk).length:Nat):Int))) (((D.words.map U32.mk).length:Nat):Int)=ix a (((D.words.map U32.mk).length:Nat):Int):=by
 have hl:(D.words.map U32.mk).length=1+2*D.S:=by rw [List.length_map,gm]
 have h1:=Int.tmod_lt_of_pos a (show(0:Int)<(((D.words.map U32.mk).length:Nat):Int)by omega)
 have h2:=Int.lt_tmod_of_pos a (show(0:Int)<(((D.words.map U32.mk).length:Nat):Int)by omega)
 rw [ah (by omega)];rfl
theorem ldw_eq {D:DB}(hS:D.S≤64) {a v:Int} {l l2:List U32}(h:l=D.words.map U32.mk)(h2:l2=l.set (Int.toNat (Int.tmod (i64.wrap (Int.tmod a (((D.words.map U32.mk).length:Nat):Int)+(((D.words.map U32.mk).length:Nat):Int))) (((D.words.map U32.mk).length:Nat):Int))) (U32.mk v)):l2=D.ldw a v:=by
 rw [h2,h,ix_eq hS];rfl
theorem Aj {D:DB}(hS:D.S≤64) {a:Int} {l:List U32}(h:l=D.words.map U32.mk):0≤Int.tmod (i64.wrap (Int.tmod a (((D.words.map U32.mk).length:Nat):Int)+(((D.words.map U32.mk).length:Nat):Int))) (((D.words.map U32.mk).length:Nat):Int)∧Int.tmod (i64.wrap (Int.tmod a (((D.words.map U32.mk).length:Nat):Int)+(((D.words.map U32.mk).length:Nat):Int))) (((D.words.map U32.mk).length:Nat):Int)<((l.length:Nat):Int):=by
 rw [ix_eq hS,h]
 refine HC ?_
 rw [List.length_map,gm];omega
end DB
theorem Pd.Ok.on {E:Pd} {m:Mem}(h:E.Ok)(hn:E.n=m.S):(E.on m).Ok:=⟨fun p hp=>by rw [Pd.pL _ _ hn]at hp ⊢;exact h.ent p hp,h.aw⟩
theorem vW(kk:List Int) {i:Int}(h:0≤i∧i<40):dgN kk (u32.wrap (i+1)).toNat=(dgN kk i.toNat).add kk [U32.mk 7]:=by
 rw [bE (x:=i+1) (by omega),show(i+1).toNat=i.toNat+1 by omega];rfl
theorem GZ(kk:List Int):∀n:Nat,0≤(dgN kk n).n∧(dgN kk n).n≤n
 | 0=>⟨Int.le_refl _,Int.le_refl _⟩
 | n+1=>by
  have h:=GZ kk n
  show 0≤((dgN kk n).add kk [U32.mk 7]).n∧((dgN kk n).add kk [U32.mk 7]).n≤_
  unfold Dg.add
  split
  ·omega
  ·simp only [List.length_singleton];omega
theorem Dg.yF {d:Dg}(h:d.Ok):∀x∈d.save,0≤x∧x<4294967296:=by
 intro x hx
 have h1:=h.n
 obtain⟨q1,q2,q3,q4,q5,q6,q7,q8⟩:=h.st
 simp only [save,List.mem_append,List.mem_cons,List.not_mem_nil,or_false,List.mem_map,List.mem_replicate]at hx
 rcases hx with(rfl | rfl | rfl | rfl | rfl | rfl | rfl | rfl | rfl | rfl) | (⟨y,hy,rfl⟩ | ⟨_,rfl⟩)
 ·exact q1
 ·exact q2
 ·exact q3
 ·exact q4
 ·exact q5
 ·exact q6
 ·exact q7
 ·exact q8
 ·omega
 ·omega
 ·exact h.words y hy
 ·omega
theorem vU:∀l:List Int,eqL (l.map (Value.int .u32)) (l.map (Value.int .u32))=true
 | []=>rfl
 | a::l=>by show(a==a && eqL (l.map (Value.int .u32)) (l.map (Value.int .u32)))=true;rw [vU l];simp
theorem nf(l:List Int) {p:Prop}(h:bh ⟨l.map (Value.int .u32)⟩ ⟨l.map (Value.int .u32)⟩=false):p:=by
 rw [show bh ⟨l.map (Value.int .u32)⟩ ⟨l.map (Value.int .u32)⟩=true from vU l]at h
 cases h
theorem Ij {l:List Int}(h:l.length=26):([U32.mk (l.getD 0 0),U32.mk (l.getD 1 0),U32.mk (l.getD 2 0),U32.mk (l.getD 3 0),U32.mk (l.getD 4 0),U32.mk (l.getD 5 0),U32.mk (l.getD 6 0),U32.mk (l.getD 7 0),U32.mk (l.getD 8 0),U32.mk (l.getD 9 0),U32.mk (l.getD 10 0),U32.mk (l.getD 11 0),U32.mk (l.getD 12 0),U32.mk (l.getD 13 0),U32.mk (l.getD 14 0),U32.mk (l.getD 15 0),U32.mk (l.getD 16 0),U32.mk (l.getD 17 0),U32.mk (l.getD 18 0),U32.mk (l.getD 19 0),U32.mk (l.getD 20 0),U32.mk (l.getD 21 0),U32.mk (l.getD 22 0),U32.mk (l.getD 23 0),U32.mk (l.getD 24 0),U32.mk (l.getD 25 0)]:List U32)=l.map U32.mk:=by
 rcases l with _ | ⟨a0,_ | ⟨a1,_ | ⟨a2,_ | ⟨a3,_ | ⟨a4,_ | ⟨a5,_ | ⟨a6,_ | ⟨a7,_ | ⟨a8,_ | ⟨a9,_ | ⟨b0,_ | ⟨b1,_ | ⟨b2,_ | ⟨b3,_ | ⟨b4,_ | ⟨b5,_ | ⟨b6,_ | ⟨b7,_ | ⟨b8,_ | ⟨b9,_ | ⟨c0,_ | ⟨c1,_ | ⟨c2,_ | ⟨c3,_ | ⟨c4,_ | ⟨c5,_ | ⟨c6,r⟩⟩⟩⟩⟩⟩⟩⟩⟩⟩⟩⟩⟩⟩⟩⟩⟩⟩⟩⟩⟩⟩⟩⟩⟩⟩⟩
 all_goals first | rfl | (simp at h;done)
theorem vh {l:List Int} {i:Nat}:((l.map U32.mk).getD i (U32.mk 0)).v=l.getD i 0:=by
 rw [List.getD_eq_getElem?_getD,List.getD_eq_getElem?_getD,List.getElem?_map]
 cases l[i]? <;>rfl
theorem Dg.svL_eq {d:Dg}(h:d.save.length=26):d.svL=d.save.map U32.mk:=Ij h
theorem Be {d:Dg}(h:d.Ok)(hl:d.save.length=26) {i:Nat}(hi:i<26):0≤d.save.getD i 0∧d.save.getD i 0<4294967296:=by
 rw [List.getD_eq_getElem?_getD,List.getElem?_eq_getElem (by omega)]
 exact Dg.yF h _ (List.getElem_mem ..)
theorem DB.C1 {D:DB} {a i:Int} {l:List Int}(hl:l.length=26)(hi:0≤i∧i<26):D.wrs a 11 (l.take (i64.wrap (i+1)).toNat)=(D.wrs a 11 (l.take i.toNat)).wr a (i64.wrap (11+i)) (l.getD i.toNat 0):=by
 have hlt:i.toNat<l.length:=by omega
 rw [ah (x:=i+1) (by omega),ah (x:=11+i) (by omega),show(i+1).toNat=i.toNat+1 by omega,List.take_add_one,List.getElem?_eq_getElem hlt,List.getD_eq_getElem?_getD,List.getElem?_eq_getElem hlt]
 show D.wrs a 11 (l.take i.toNat++ [l[i.toNat]])=_
 rw [DB.oT,List.length_take]
 congr 1
 omega
end Go.Proofs.YtbjlecpmgocoeaaGreatDoor
end
section
set_option maxRecDepth 100000
set_option maxHeartbeats 1000000
namespace Go.Proofs.YtbjlecpmgocoeaaGreatDoor
open Go Go.RowKit V
open Go.IntKind (i64 u32 u64)
open Go.Proofs (Tryz.prog)
attribute [local grind=] Pd.cI Pd.bJ Pd.jk Pd.jE Pd.cX Pd.cu Pd.eE Pd.gg Pd.lQ DB.du
attribute [local grind .] Pd.Ok.ent
attribute [local grind→] Pd.Ok.dC
def gV:Ctr Un:=⟨[.one (.obj 0 0),.agg [.bool,.int .i64],.one (.int .i64),.one (.int .u32)],[],[.ob 2 []],[0],fun fa fb off v rm m K=>(0≤(v:Int)∧(v:Int)<4294967296)∧K ⟨(.int .i64 (m.err fa fb off)),none,[.ob 2 (m.write fa fb off v)],[],[]⟩⟩
theorem qL:LV Un Tryz.prog 25 gV:=by
 show ∀(fa:Bool)(fb:Int)(off:Int)(v:Int)(rm:Nat→Nat)(m:Mem),∀Q:Ou Un→Prop,((0≤(v:Int)∧(v:Int)<4294967296)∧Q ⟨(.int .i64 (m.err fa fb off)),none,[.ob 2 (m.write fa fb off v)],[],[]⟩)→∀(X:Nat→Nat→Prop)(w:World),Sat (U:=Un) [(.ob 2 rm m)] X w→aA (U:=Un) [(.ob 2 rm m)] fr0 []→Calls Tryz.prog 25 #[(.pointer (some (Addr.mk (rm 0) 0 none))),(.agg #[(.bool fa),(.int .i64 fb)]),(.int .i64 off),(.int .u32 v)] w (aS (U:=Un) [(.ob 2 rm m)] [0] X w Q)
 intro fa fb off v rm m Q hQ X w hs hl
 obtain⟨hv,hQ⟩:=hQ
 obtain⟨L,hX,hM⟩:=(hs.res 0 _ rfl:bo 2 rm m (X 0) w)
 refine(Dl hM fa fb off v hv).mono ?_
 rintro e w' ⟨u,rfl,L1,rfl,h2,hg,q⟩
 exact aS.one (Z:=L1.X) (q.mono fun k hk=>(hX k).1 hk) (show bo 2 rm _ L1.X w' from⟨L1,fun _=>Iff.rfl,h2⟩) (fun k hk=>(hg k hk).imp (fun h=>(hX k).1 h) id) hQ trivial
def fp:Ctr Un:=⟨[.one (.obj 0 0),.agg [.bool,.int .i64]],[],[.ob 2 []],[0],fun fa fb rm m K=>K ⟨(.int .i64 (m.bC fa fb)),none,[.ob 2 (m.zero fa fb)],[],[]⟩⟩
theorem ny:LV Un Tryz.prog 77 fp:=by
 show ∀(fa:Bool)(fb:Int)(rm:Nat→Nat)(m:Mem),∀Q:Ou Un→Prop,(Q ⟨(.int .i64 (m.bC fa fb)),none,[.ob 2 (m.zero fa fb)],[],[]⟩)→∀(X:Nat→Nat→Prop)(w:World),Sat (U:=Un) [(.ob 2 rm m)] X w→aA (U:=Un) [(.ob 2 rm m)] fr0 []→Calls Tryz.prog 77 #[(.pointer (some (Addr.mk (rm 0) 0 none))),(.agg #[(.bool fa),(.int .i64 fb)])] w (aS (U:=Un) [(.ob 2 rm m)] [0] X w Q)
 intro fa fb rm m Q hQ X w hs hl
 obtain⟨L,hX,hM⟩:=(hs.res 0 _ rfl:bo 2 rm m (X 0) w)
 refine(FE hM fa fb).mono ?_
 rintro e w' ⟨u,rfl,L1,rfl,h2,hg,q⟩
 exact aS.one (Z:=L1.X) (q.mono fun k hk=>(hX k).1 hk) (show bo 2 rm _ L1.X w' from⟨L1,fun _=>Iff.rfl,h2⟩) (fun k hk=>(hg k hk).imp (fun h=>(hX k).1 h) id) hQ trivial
def cx:Ctr Un:=⟨[.one (.int .i64)],[],[],[],fun p K=>K ⟨(.agg #[(.bool true),(.int .i64 p)]),none,[],[],[]⟩⟩
def zy(p:Int)(Q:Ou Un→Prop):Prop:=
 ∀(gv:Nat),
 Q ⟨(.agg #[(.bool true),(.int .i64 p)]),none,[],[],[]⟩
theorem zz:Vc2 Un Tryz.prog (aV []) [] Tryz.f78 .leaf [] cx=(∀p,∀Q,(cx.body p Q)→zy p Q):=by kernel_rfl
theorem jA:LV Un Tryz.prog 78 cx:=verify Tryz.func78 aa (tb:= []) trivial (by kernel_rfl) (zz.mpr fun p Q h=>fun gv=>h)
def gT:Ctr Un:=⟨[.one (.int .i64)],[],[],[],fun t K=>K ⟨(.bool (DB.turns t)),none,[],[],[]⟩⟩
def zt(t:Int)(Q:Ou Un→Prop):Prop:=
 ∃J:Bool→Prop,(
  split (t==4) (
   J true) (
   split (t==5) (
    J true) (
    J (t==6))))∧∀(_gv:Nat→Value)(x2:Bool),J x2→
 Q ⟨(.bool x2),none,[],[],[]⟩
theorem zu:Vc2 Un Tryz.prog (aV []) [] Tryz.f86 (.r' (.two (.node [] (some ⟨[(2,(.one .bool))],[],upN 2 11,[]⟩) [] [] .leaf .leaf) .leaf)) [] gT=(∀t,∀Q,(gT.body t Q)→zt t Q):=by kernel_rfl
section
attribute [local grind=] DB.turns
theorem zs:LV Un Tryz.prog 86 gT:=verify Tryz.func86 aa (tb:= []) trivial (by kernel_rfl) (zu.mpr fun t Q h=>bH (((t:Int)==4) || (((t:Int)==5) || ((t:Int)==6))) (ae (fun c1=>(by grind)) fun c1=>ae (fun c2=>(by grind)) fun c2=>(by grind))<| bF h (by grind))
end
def jz:Ctr Un:=⟨[.one (.obj 0 0),.one (.int .i64),.one (.int .i64)],[],[.ob 3 []],[],fun p t r E K=>K ⟨(.bool (decide (0≤p∧p<(E.n:Int)) && (E.ent p.toNat).typ==t)),none,[],[],[]⟩⟩
def Gw(p:Int)(t:Int)(r:Nat→Nat)(E:Pd)(Q:Ou Un→Prop):Prop:=
 Pd.Ok E→
 ∃J:Bool→Prop,(
  split (decide (p≥0)) (
   split (decide (p<((Pd.aj E).length:Int))) (
    (0≤p∧p<((Pd.aj E).length:Int))∧
    J (((Pd.aj E).getD p.toNat Ent.free).typ==t)) (
    J false)) (
   J false))∧∀(_gv:Nat→Value)(x6:Bool),J x6→
 Q ⟨(.bool x6),none,[],[],[]⟩
theorem Gx:Vc2 Un Tryz.prog (aV []) [] Tryz.f85 (.r' (.two (.node [] (some ⟨[(6,(.one .bool))],[],upN 6 24,[]⟩) [] [] .leaf .leaf) .leaf)) [] jz=(∀p t r (E:Pd),∀Q,(jz.body p t r E Q)→Gw p t r E Q):=by kernel_rfl
theorem AI:LV Un Tryz.prog 85 jz:=verify Tryz.func85 aa (tb:= []) trivial (by kernel_rfl) (Gx.mpr fun p t r E Q h=>fun f1=>bH ((decide ((p:Int)≥0)) && ((decide ((p:Int)<(((Pd.aj E).length:Nat):Int))) && ((((Pd.aj E).getD p.toNat Ent.free).typ:Int)==t))) (ae (fun c1=>ae (fun c2=>ai (by grind) fun s2=>(by grind)) fun c2=>(by grind)) fun c1=>(by grind))<| bF h (by grind))
def iV:Ctr Un:=⟨[.one (.obj 0 0),.one (.int .i64),.one (.int .i64),.one (.int .i64)],[],[.ob 3 [(1,1,0)],.ob 2 []],[0,1],fun p t o r E rm m K=>E.n=m.S∧K ⟨(.int .i64 ((E.on m).cn p t o)),none,[.ob 3 (((E.on m).take p t o).pd),.ob 2 (((E.on m).take p t o).mem)],[],[]⟩⟩
def Cg(p:Int)(t:Int)(o:Int)(r:Nat→Nat)(E:Pd)(rm:Nat→Nat)(m:Mem)(Q:Ou Un→Prop):Prop:=
 Pd.Ok E→
 Mem.Wf m→
 ∃J:Bool→Prop,(
  split (decide (p<0)) (
   J true) (
   J (decide (p≥((Pd.aj E).length:Int)))))∧∀(_gv:Nat→Value)(x20:Bool),J x20→
 split x20 (
  Q ⟨(.int .i64 5),none,[.ob 3 E,.ob 2 m],[],[]⟩) (
  ∃J1:Bool→Prop,(
   split (t !=2) (
    split (t !=4) (
     split (t !=5) (
      J1 (t !=6)) (
      J1 false)) (
     J1 false)) (
    J1 false))∧∀(_gv1:Nat→Value)(x34:Bool),J1 x34→
  split x34 (
   Q ⟨(.int .i64 124),none,[.ob 3 E,.ob 2 m],[],[]⟩) (
   ∃J2:Bool→Prop,(
    split (!(decide (0≤o∧o<E.n) && (E.ent o.toNat).typ==1)) (
     J2 true) (
     (0≤o∧o<((Pd.aj E).length:Int))∧
     J2 (decide (((Pd.aj E).getD o.toNat Ent.free).refs≥63))))∧∀(_gv2:Nat→Value)(x50:Bool),J2 x50→
   split x50 (
    Q ⟨(.int .i64 122),none,[.ob 3 E,.ob 2 m],[],[]⟩) (
    (0≤p∧p<((Pd.aj E).length:Int))∧
    split (((Pd.aj E).getD p.toNat Ent.free).typ !=0) (
     Q ⟨(.int .i64 120),none,[.ob 3 E,.ob 2 m],[],[]⟩) (
     (0≤p∧p<((Pd.aj E).length:Int))∧
     (Ent.ok (Ent.mk t o 0 0 false)=true∧Ent.owner (Ent.mk t o 0 0 false)<(Pd.n E:Int))∧
     ∀(E1:Pd),E1=(Pd.set E p.toNat (Ent.mk t o 0 0 false))→
     Pd.Ok E1→
     (0≤o∧o<((Pd.aj E1).length:Int))∧
     (0≤o∧o<((Pd.aj E1).length:Int))∧
     (Ent.ok (Ent.mk (((Pd.aj E1).getD o.toNat Ent.free).typ) (((Pd.aj E1).getD o.toNat Ent.free).owner) (i64.wrap ((((Pd.aj E1).getD o.toNat Ent.free).refs)+1)) (((Pd.aj E1).getD o.toNat Ent.free).state) (((Pd.aj E1).getD o.toNat Ent.free).aD))=true∧Ent.owner (Ent.mk (((Pd.aj E1).getD o.toNat Ent.free).typ) (((Pd.aj E1).getD o.toNat Ent.free).owner) (i64.wrap ((((Pd.aj E1).getD o.toNat Ent.free).refs)+1)) (((Pd.aj E1).getD o.toNat Ent.free).state) (((Pd.aj E1).getD o.toNat Ent.free).aD))<(Pd.n E1:Int))∧
     ∀(E2:Pd),E2=(Pd.set E1 o.toNat (Ent.mk (((Pd.aj E1).getD o.toNat Ent.free).typ) (((Pd.aj E1).getD o.toNat Ent.free).owner) (i64.wrap ((((Pd.aj E1).getD o.toNat Ent.free).refs)+1)) (((Pd.aj E1).getD o.toNat Ent.free).state) (((Pd.aj E1).getD o.toNat Ent.free).aD)))→
     Pd.Ok E2→
     Q ⟨(.int .i64 0),none,[.ob 3 E2,.ob 2 m],[],[]⟩))))
theorem Ci:Vc2 Un Tryz.prog (aV [(85,jz)]) [] Tryz.f35 (.r' (.two (.two (.node [] (some ⟨[(20,(.one .bool))],[],upN 10 11,[]⟩) [] [] .leaf .leaf) .leaf) (.two (.two (.node [] (some ⟨[(34,(.one .bool))],[],upN 21 14,[]⟩) [] [] .leaf .leaf) .leaf) (.r' (.two (.two (.node [] (some ⟨[(50,(.one .bool))],[],upN 38 13,[]⟩) [] [] .leaf .leaf) .leaf) .leaf))))) [] iV=(∀p t o r (E:Pd) rm (m:Mem),∀Q,(iV.body p t o r E rm m Q)→Cg p t o r E rm m Q):=by kernel_rfl
section
attribute [local grind=] DB.take DB.cn DB.eP DB.more DB.Ds DB.turns
theorem Cf:LV Un Tryz.prog 35 iV:=verify Tryz.func35 aa (tb:= [(85,jz)]) ⟨AI,trivial⟩ (by kernel_rfl) (Ci.mpr fun p t o r E rm m Q h=>by
 obtain⟨hp0,h⟩:=h
 exact fun f1 f2=>bH ((decide ((p:Int)<0)) || (decide ((p:Int)≥(((Pd.aj E).length:Nat):Int)))) (ae (fun c1=>(by grind)) fun c1=>(by grind))<| aO (fun c2=>aG h (congrArg (Value.int .i64) (by grind)) (af (congrArg (Upd.ob (U:=Un) 3) (show @Eq Pd _ _ from(by grind))) (af (congrArg (Upd.ob (U:=Un) 2) (show @Eq Mem _ _ from(by grind))) rfl)) rfl) fun c2=>bH (((t:Int) !=2) && (((t:Int) !=4) && (((t:Int) !=5) && ((t:Int) !=6)))) (ae (fun c3=>ae (fun c4=>ae (fun c5=>(by grind)) fun c5=>(by grind)) fun c4=>(by grind)) fun c3=>(by grind))<| bL (fun c6=>aG h (congrArg (Value.int .i64) (by grind)) (af (congrArg (Upd.ob (U:=Un) 3) (show @Eq Pd _ _ from(by grind))) (af (congrArg (Upd.ob (U:=Un) 2) (show @Eq Mem _ _ from(by grind))) rfl)) rfl) fun c6=>bH ((!(decide (0≤o∧o<(E.n:Int)) && (E.ent o.toNat).typ==1)) || (decide ((((Pd.aj E).getD o.toNat Ent.free).refs:Int)≥63))) (ae (fun c7=>(by grind)) fun c7=>ai (by grind) fun s3=>(by grind))<| aO (fun c8=>aG h (congrArg (Value.int .i64) (by grind)) (af (congrArg (Upd.ob (U:=Un) 3) (show @Eq Pd _ _ from(by grind))) (af (congrArg (Upd.ob (U:=Un) 2) (show @Eq Mem _ _ from(by grind))) rfl)) rfl) fun c8=>ai (by grind) fun s4=>bt (fun c9=>aG h (congrArg (Value.int .i64) (by grind)) (af (congrArg (Upd.ob (U:=Un) 3) (show @Eq Pd _ _ from(by grind))) (af (congrArg (Upd.ob (U:=Un) 2) (show @Eq Mem _ _ from(by grind))) rfl)) rfl) fun c9=>ai ‹_› fun s5=>ai (by grind) fun s6=>fun E1 h_E1 f7=>ai (by grind) fun s8=>ai ‹_› fun s9=>ai (by(have he:E1.ent o.toNat=E.ent o.toNat:=by grind);(have h5:=f1.ent o.toNat (by grind));have h6:=Ent.cB h5.1;rw [Pd.bJ (by grind),he,ah (by omega)];exact⟨DB.lW h5.1 (by grind) (by grind),by rw [h_E1];exact h5.2⟩) fun s10=>fun E2 h_E2 f11=>aG h (congrArg (Value.int .i64) (by grind)) (af (congrArg (Upd.ob (U:=Un) 3) (show @Eq Pd _ _ from(by(have h8:=Ent.cB (f1.ent o.toNat (by grind)).1);have h9:E1.ent o.toNat=E.ent o.toNat:=(by grind);rw [DB.take,if_pos (by grind),DB.eP,Pd.eE,DB.more,Pd.eE,Pd.cX _ _ (by exact hp0),← h_E1,h_E2,Pd.bJ (by grind),ah (by rw [h9];omega)];rfl))) (af (congrArg (Upd.ob (U:=Un) 2) (show @Eq Mem _ _ from(by grind))) rfl)) rfl)
end
def iU:Ctr Un:=⟨[.one (.obj 0 0),.one (.int .i64),.one (.int .i64)],[],[.ob 3 [(1,1,0)],.ob 2 []],[0,1],fun p t r E rm m K=>E.n=m.S∧K ⟨(.int .i64 ((E.on m).dD p t)),none,[.ob 3 (((E.on m).hH p t).pd),.ob 2 (((E.on m).hH p t).mem)],[],[]⟩⟩
def Cd(p:Int)(t:Int)(r:Nat→Nat)(E:Pd)(rm:Nat→Nat)(m:Mem)(Q:Ou Un→Prop):Prop:=
 Pd.Ok E→
 Mem.Wf m→
 ∃J:Bool→Prop,(
  split (decide (p<0)) (
   J true) (
   J (decide (p≥((Pd.aj E).length:Int)))))∧∀(_gv:Nat→Value)(x19:Bool),J x19→
 split x19 (
  Q ⟨(.int .i64 5),none,[.ob 3 E,.ob 2 m],[],[]⟩) (
  (0≤p∧p<((Pd.aj E).length:Int))∧
  ∃J1:Bool→Prop,(
   split (!(DB.turns (((Pd.aj E).getD p.toNat Ent.free).typ))) (
    J1 true) (
    J1 (!(DB.turns t))))∧∀(_gv1:Nat→Value)(x36:Bool),J1 x36→
  split x36 (
   Q ⟨(.int .i64 124),none,[.ob 3 E,.ob 2 m],[],[]⟩) (
   (0≤p∧p<((Pd.aj E).length:Int))∧
   (Ent.ok (Ent.mk t (((Pd.aj E).getD p.toNat Ent.free).owner) (((Pd.aj E).getD p.toNat Ent.free).refs) (((Pd.aj E).getD p.toNat Ent.free).state) (((Pd.aj E).getD p.toNat Ent.free).aD))=true∧Ent.owner (Ent.mk t (((Pd.aj E).getD p.toNat Ent.free).owner) (((Pd.aj E).getD p.toNat Ent.free).refs) (((Pd.aj E).getD p.toNat Ent.free).state) (((Pd.aj E).getD p.toNat Ent.free).aD))<(Pd.n E:Int))∧
   ∀(E1:Pd),E1=(Pd.set E p.toNat (Ent.mk t (((Pd.aj E).getD p.toNat Ent.free).owner) (((Pd.aj E).getD p.toNat Ent.free).refs) (((Pd.aj E).getD p.toNat Ent.free).state) (((Pd.aj E).getD p.toNat Ent.free).aD)))→
   Pd.Ok E1→
   ∀(m1:Mem),m1=(m.zero true p)→
   Mem.Wf m1→
   Q ⟨(.int .i64 0),none,[.ob 3 E1,.ob 2 m1],[],[]⟩))
theorem Ce:Vc2 Un Tryz.prog (aV [(86,gT),(78,cx),(77,fp)]) [] Tryz.f37 (.r' (.two (.two (.node [] (some ⟨[(19,(.one .bool))],[],upN 9 11,[]⟩) [] [] .leaf .leaf) .leaf) (.r' (.r' (.two (.two (.node [] (some ⟨[(36,(.one .bool))],[],upN 31 6,[]⟩) [] [] .leaf .leaf) .leaf) (.r' (.two (.node [] none [] [(3,[0])] .leaf .leaf) .leaf))))))) [] iU=(∀p t r (E:Pd) rm (m:Mem),∀Q,(iU.body p t r E rm m Q)→Cd p t r E rm m Q):=by kernel_rfl
section
attribute [local grind=] DB.hH DB.dD DB.jL Pd.pK Mem.uw DB.Dr Mem.bC DB.cy
theorem Cc:LV Un Tryz.prog 37 iU:=verify Tryz.func37 aa (tb:= [(86,gT),(78,cx),(77,fp)]) ⟨zs,jA,ny,trivial⟩ (by kernel_rfl) (Ce.mpr fun p t r E rm m Q h=>by
 obtain⟨hp0,h⟩:=h
 exact fun f1 f2=>bH ((decide ((p:Int)<0)) || (decide ((p:Int)≥(((Pd.aj E).length:Nat):Int)))) (ae (fun c1=>(by grind)) fun c1=>(by grind))<| aO (fun c2=>aG h (congrArg (Value.int .i64) (by grind)) (af (congrArg (Upd.ob (U:=Un) 3) (show @Eq Pd _ _ from(by grind))) (af (congrArg (Upd.ob (U:=Un) 2) (show @Eq Mem _ _ from(by grind))) rfl)) rfl) fun c2=>ai (by grind) fun s3=>bH ((!(DB.turns (((Pd.aj E).getD p.toNat Ent.free).typ))) || (!(DB.turns t))) (ae (fun c3=>(by grind)) fun c3=>(by grind))<| aO (fun c4=>aG h (congrArg (Value.int .i64) (by grind)) (af (congrArg (Upd.ob (U:=Un) 3) (show @Eq Pd _ _ from(by grind))) (af (congrArg (Upd.ob (U:=Un) 2) (show @Eq Mem _ _ from(by grind))) rfl)) rfl) fun c4=>ai ‹_› fun s4=>ai (by grind) fun s5=>fun E1 h_E1 f6=>fun m1 h_m1 f7=>aG h (congrArg (Value.int .i64) (by grind)) (af (congrArg (Upd.ob (U:=Un) 3) (show @Eq Pd _ _ from(by grind))) (af (congrArg (Upd.ob (U:=Un) 2) (show @Eq Mem _ _ from(by grind))) rfl)) rfl)
end
def er:Ctr Un:=⟨[.one (.obj 0 0),.one (.int .i64),.one (.int .i64)],[],[.ob 3 [(1,1,0)],.ob 2 []],[0,1],fun p t r E rm m K=>E.n=m.S∧K ⟨(.int .i64 ((E.on m).aZ p t)),none,[.ob 3 (((E.on m).setState p t).pd),.ob 2 (((E.on m).setState p t).mem)],[],[]⟩⟩
def rI(p:Int)(t:Int)(r:Nat→Nat)(E:Pd)(rm:Nat→Nat)(m:Mem)(Q:Ou Un→Prop):Prop:=
 Pd.Ok E→
 Mem.Wf m→
 ∃J:Bool→Prop,(
  split (decide (p<0)) (
   J true) (
   J (decide (p≥((Pd.aj E).length:Int)))))∧∀(_gv:Nat→Value)(x17:Bool),J x17→
 split x17 (
  Q ⟨(.int .i64 5),none,[.ob 3 E,.ob 2 m],[],[]⟩) (
  (0≤p∧p<((Pd.aj E).length:Int))∧
  split (((Pd.aj E).getD p.toNat Ent.free).typ !=1) (
   Q ⟨(.int .i64 124),none,[.ob 3 E,.ob 2 m],[],[]⟩) (
   ∃J1:Bool→Prop,(
    split (t !=3) (
     split (t !=2) (
      J1 true) (
      (0≤p∧p<((Pd.aj E).length:Int))∧
      J1 (((Pd.aj E).getD p.toNat Ent.free).state !=1))) (
     J1 false))∧∀(_gv1:Nat→Value)(x43:Bool),J1 x43→
   split x43 (
    Q ⟨(.int .i64 3),none,[.ob 3 E,.ob 2 m],[],[]⟩) (
    (0≤p∧p<((Pd.aj E).length:Int))∧
    (Ent.ok (Ent.mk (((Pd.aj E).getD p.toNat Ent.free).typ) (((Pd.aj E).getD p.toNat Ent.free).owner) (((Pd.aj E).getD p.toNat Ent.free).refs) t (((Pd.aj E).getD p.toNat Ent.free).aD))=true∧Ent.owner (Ent.mk (((Pd.aj E).getD p.toNat Ent.free).typ) (((Pd.aj E).getD p.toNat Ent.free).owner) (((Pd.aj E).getD p.toNat Ent.free).refs) t (((Pd.aj E).getD p.toNat Ent.free).aD))<(Pd.n E:Int))∧
    ∀(E1:Pd),E1=(Pd.set E p.toNat (Ent.mk (((Pd.aj E).getD p.toNat Ent.free).typ) (((Pd.aj E).getD p.toNat Ent.free).owner) (((Pd.aj E).getD p.toNat Ent.free).refs) t (((Pd.aj E).getD p.toNat Ent.free).aD)))→
    Pd.Ok E1→
    Q ⟨(.int .i64 0),none,[.ob 3 E1,.ob 2 m],[],[]⟩)))
theorem rJ:Vc2 Un Tryz.prog (aV []) [] Tryz.f41 (.r' (.two (.two (.node [] (some ⟨[(17,(.one .bool))],[],upN 7 11,[]⟩) [] [] .leaf .leaf) .leaf) (.r' (.two (.two (.node [] (some ⟨[(43,(.one .bool))],[],upN 27 17,[]⟩) [] [] .leaf .leaf) .leaf) .leaf)))) [] er=(∀p t r (E:Pd) rm (m:Mem),∀Q,(er.body p t r E rm m Q)→rI p t r E rm m Q):=by kernel_rfl
section
attribute [local grind=] DB.setState DB.aZ DB.GQ
theorem rH:LV Un Tryz.prog 41 er:=verify Tryz.func41 aa (tb:= []) trivial (by kernel_rfl) (rJ.mpr fun p t r E rm m Q h=>by
 obtain⟨hp0,h⟩:=h
 exact fun f1 f2=>bH ((decide ((p:Int)<0)) || (decide ((p:Int)≥(((Pd.aj E).length:Nat):Int)))) (ae (fun c1=>(by grind)) fun c1=>(by grind))<| aO (fun c2=>aG h (congrArg (Value.int .i64) (by grind)) (af (congrArg (Upd.ob (U:=Un) 3) (show @Eq Pd _ _ from(by grind))) (af (congrArg (Upd.ob (U:=Un) 2) (show @Eq Mem _ _ from(by grind))) rfl)) rfl) fun c2=>ai (by grind) fun s3=>bt (fun c3=>aG h (congrArg (Value.int .i64) (by grind)) (af (congrArg (Upd.ob (U:=Un) 3) (show @Eq Pd _ _ from(by grind))) (af (congrArg (Upd.ob (U:=Un) 2) (show @Eq Mem _ _ from(by grind))) rfl)) rfl) fun c3=>bH (((t:Int) !=3) && (((t:Int) !=2) || ((((Pd.aj E).getD p.toNat Ent.free).state:Int) !=1))) (ae (fun c4=>ae (fun c5=>(by grind)) fun c5=>ai ‹_› fun s4=>(by grind)) fun c4=>(by grind))<| bL (fun c6=>aG h (congrArg (Value.int .i64) (by grind)) (af (congrArg (Upd.ob (U:=Un) 3) (show @Eq Pd _ _ from(by grind))) (af (congrArg (Upd.ob (U:=Un) 2) (show @Eq Mem _ _ from(by grind))) rfl)) rfl) fun c6=>ai ‹_› fun s5=>ai (by grind) fun s6=>fun E1 h_E1 f7=>aG h (congrArg (Value.int .i64) (by grind)) (af (congrArg (Upd.ob (U:=Un) 3) (show @Eq Pd _ _ from(by grind))) (af (congrArg (Upd.ob (U:=Un) 2) (show @Eq Mem _ _ from(by grind))) rfl)) rfl)
end
def dw:Ctr Un:=⟨[.one (.obj 0 0),.one (.int .i64),.one (.bool)],[],[.ob 3 [(1,1,0)],.ob 2 []],[0,1],fun p b r E rm m K=>E.n=m.S∧K ⟨(.int .i64 ((E.on m).bm p)),none,[.ob 3 (((E.on m).aU p b).pd),.ob 2 (((E.on m).aU p b).mem)],[],[]⟩⟩
def oB(p:Int)(b:Bool)(r:Nat→Nat)(E:Pd)(rm:Nat→Nat)(m:Mem)(Q:Ou Un→Prop):Prop:=
 Pd.Ok E→
 Mem.Wf m→
 ∃J:Bool→Prop,(
  split (decide (p<0)) (
   J true) (
   J (decide (p≥((Pd.aj E).length:Int)))))∧∀(_gv:Nat→Value)(x17:Bool),J x17→
 split x17 (
  Q ⟨(.int .i64 5),none,[.ob 3 E,.ob 2 m],[],[]⟩) (
  (0≤p∧p<((Pd.aj E).length:Int))∧
  split (((Pd.aj E).getD p.toNat Ent.free).typ !=2) (
   Q ⟨(.int .i64 124),none,[.ob 3 E,.ob 2 m],[],[]⟩) (
   (0≤p∧p<((Pd.aj E).length:Int))∧
   (Ent.ok (Ent.mk (((Pd.aj E).getD p.toNat Ent.free).typ) (((Pd.aj E).getD p.toNat Ent.free).owner) (((Pd.aj E).getD p.toNat Ent.free).refs) (((Pd.aj E).getD p.toNat Ent.free).state) b)=true∧Ent.owner (Ent.mk (((Pd.aj E).getD p.toNat Ent.free).typ) (((Pd.aj E).getD p.toNat Ent.free).owner) (((Pd.aj E).getD p.toNat Ent.free).refs) (((Pd.aj E).getD p.toNat Ent.free).state) b)<(Pd.n E:Int))∧
   ∀(E1:Pd),E1=(Pd.set E p.toNat (Ent.mk (((Pd.aj E).getD p.toNat Ent.free).typ) (((Pd.aj E).getD p.toNat Ent.free).owner) (((Pd.aj E).getD p.toNat Ent.free).refs) (((Pd.aj E).getD p.toNat Ent.free).state) b))→
   Pd.Ok E1→
   Q ⟨(.int .i64 0),none,[.ob 3 E1,.ob 2 m],[],[]⟩))
theorem oC:Vc2 Un Tryz.prog (aV []) [] Tryz.f43 (.r' (.two (.two (.node [] (some ⟨[(17,(.one .bool))],[],upN 7 11,[]⟩) [] [] .leaf .leaf) .leaf) .leaf)) [] dw=(∀p b r (E:Pd) rm (m:Mem),∀Q,(dw.body p b r E rm m Q)→oB p b r E rm m Q):=by kernel_rfl
section
attribute [local grind=] DB.aU DB.bm DB.pN
theorem oA:LV Un Tryz.prog 43 dw:=verify Tryz.func43 aa (tb:= []) trivial (by kernel_rfl) (oC.mpr fun p b r E rm m Q h=>by
 obtain⟨hp0,h⟩:=h
 exact fun f1 f2=>bH ((decide ((p:Int)<0)) || (decide ((p:Int)≥(((Pd.aj E).length:Nat):Int)))) (ae (fun c1=>(by grind)) fun c1=>(by grind))<| aO (fun c2=>aG h (congrArg (Value.int .i64) (by grind)) (af (congrArg (Upd.ob (U:=Un) 3) (show @Eq Pd _ _ from(by grind))) (af (congrArg (Upd.ob (U:=Un) 2) (show @Eq Mem _ _ from(by grind))) rfl)) rfl) fun c2=>ai (by grind) fun s3=>bt (fun c3=>aG h (congrArg (Value.int .i64) (by grind)) (af (congrArg (Upd.ob (U:=Un) 3) (show @Eq Pd _ _ from(by grind))) (af (congrArg (Upd.ob (U:=Un) 2) (show @Eq Mem _ _ from(by grind))) rfl)) rfl) fun c3=>ai ‹_› fun s4=>ai (by grind) fun s5=>fun E1 h_E1 f6=>aG h (congrArg (Value.int .i64) (by grind)) (af (congrArg (Upd.ob (U:=Un) 3) (show @Eq Pd _ _ from(by grind))) (af (congrArg (Upd.ob (U:=Un) 2) (show @Eq Mem _ _ from(by grind))) rfl)) rfl)
end
def iW:Ctr Un:=⟨[.one (.obj 0 0),.one (.int .i64)],[],[.ob 3 [(1,1,0)],.ob 2 []],[0,1],fun p r E rm m K=>E.n=m.S∧K ⟨(.int .i64 ((E.on m).cp p)),none,[.ob 3 (((E.on m).eL p).pd),.ob 2 (((E.on m).eL p).mem)],[],[]⟩⟩
def Co(p:Int)(r:Nat→Nat)(E:Pd)(rm:Nat→Nat)(m:Mem)(Q:Ou Un→Prop):Prop:=
 Pd.Ok E→
 Mem.Wf m→
 ∃J:Bool→Prop,(
  split (decide (p<0)) (
   J true) (
   J (decide (p≥((Pd.aj E).length:Int)))))∧∀(_gv:Nat→Value)(x17:Bool),J x17→
 split x17 (
  Q ⟨(.int .i64 5),none,[.ob 3 E,.ob 2 m],[],[]⟩) (
  (0≤p∧p<((Pd.aj E).length:Int))∧
  ∀(gv1:Nat),
  split (((Pd.aj E).getD p.toNat Ent.free).typ==0) (
   Q ⟨(.int .i64 121),none,[.ob 3 E,.ob 2 m],[],[]⟩) (
   ∃J1:Bool→Prop,(
    split (((Pd.aj E).getD p.toNat Ent.free).typ==1) (
     J1 (decide (((Pd.aj E).getD p.toNat Ent.free).refs>0))) (
     J1 false))∧∀(_gv2:Nat→Value)(x35:Bool),J1 x35→
   split x35 (
    Q ⟨(.int .i64 123),none,[.ob 3 E,.ob 2 m],[],[]⟩) (
    (0≤p∧p<((Pd.aj E).length:Int))∧
    (Ent.ok (Ent.mk 0 0 0 0 false)=true∧Ent.owner (Ent.mk 0 0 0 0 false)<(Pd.n E:Int))∧
    ∀(E1:Pd),E1=(Pd.set E p.toNat (Ent.mk 0 0 0 0 false))→
    Pd.Ok E1→
    ∀(m1:Mem),m1=(m.zero true p)→
    Mem.Wf m1→
    ∃J2:Bool→Prop,(
     split (((Pd.aj E).getD p.toNat Ent.free).typ !=1) (
      split (decide (0≤(((Pd.aj E).getD p.toNat Ent.free).owner)∧(((Pd.aj E).getD p.toNat Ent.free).owner)<E1.n) && (E1.ent (((Pd.aj E).getD p.toNat Ent.free).owner).toNat).typ==1) (
       (0≤((Pd.aj E).getD p.toNat Ent.free).owner∧((Pd.aj E).getD p.toNat Ent.free).owner<((Pd.aj E1).length:Int))∧
       J2 (decide (((Pd.aj E1).getD (Int.toNat (((Pd.aj E).getD p.toNat Ent.free).owner)) Ent.free).refs>0))) (
       J2 false)) (
      J2 false))∧∀(_gv3:Nat→Value)(x71:Bool),J2 x71→
    split x71 (
     (0≤((Pd.aj E).getD p.toNat Ent.free).owner∧((Pd.aj E).getD p.toNat Ent.free).owner<((Pd.aj E1).length:Int))∧
     (0≤((Pd.aj E).getD p.toNat Ent.free).owner∧((Pd.aj E).getD p.toNat Ent.free).owner<((Pd.aj E1).length:Int))∧
     (Ent.ok (Ent.mk (((Pd.aj E1).getD (Int.toNat (((Pd.aj E).getD p.toNat Ent.free).owner)) Ent.free).typ) (((Pd.aj E1).getD (Int.toNat (((Pd.aj E).getD p.toNat Ent.free).owner)) Ent.free).owner) (i64.wrap ((((Pd.aj E1).getD (Int.toNat (((Pd.aj E).getD p.toNat Ent.free).owner)) Ent.free).refs) - 1)) (((Pd.aj E1).getD (Int.toNat (((Pd.aj E).getD p.toNat Ent.free).owner)) Ent.free).state) (((Pd.aj E1).getD (Int.toNat (((Pd.aj E).getD p.toNat Ent.free).owner)) Ent.free).aD))=true∧Ent.owner (Ent.mk (((Pd.aj E1).getD (Int.toNat (((Pd.aj E).getD p.toNat Ent.free).owner)) Ent.free).typ) (((Pd.aj E1).getD (Int.toNat (((Pd.aj E).getD p.toNat Ent.free).owner)) Ent.free).owner) (i64.wrap ((((Pd.aj E1).getD (Int.toNat (((Pd.aj E).getD p.toNat Ent.free).owner)) Ent.free).refs) - 1)) (((Pd.aj E1).getD (Int.toNat (((Pd.aj E).getD p.toNat Ent.free).owner)) Ent.free).state) (((Pd.aj E1).getD (Int.toNat (((Pd.aj E).getD p.toNat Ent.free).owner)) Ent.free).aD))<(Pd.n E1:Int))∧
     ∀(E2:Pd),E2=(Pd.set E1 (Int.toNat (((Pd.aj E).getD p.toNat Ent.free).owner)) (Ent.mk (((Pd.aj E1).getD (Int.toNat (((Pd.aj E).getD p.toNat Ent.free).owner)) Ent.free).typ) (((Pd.aj E1).getD (Int.toNat (((Pd.aj E).getD p.toNat Ent.free).owner)) Ent.free).owner) (i64.wrap ((((Pd.aj E1).getD (Int.toNat (((Pd.aj E).getD p.toNat Ent.free).owner)) Ent.free).refs) - 1)) (((Pd.aj E1).getD (Int.toNat (((Pd.aj E).getD p.toNat Ent.free).owner)) Ent.free).state) (((Pd.aj E1).getD (Int.toNat (((Pd.aj E).getD p.toNat Ent.free).owner)) Ent.free).aD)))→
     Pd.Ok E2→
     Q ⟨(.int .i64 0),none,[.ob 3 E2,.ob 2 m1],[],[]⟩) (
     Q ⟨(.int .i64 0),none,[.ob 3 E1,.ob 2 m1],[],[]⟩))))
theorem Cp:Vc2 Un Tryz.prog (aV [(78,cx),(77,fp),(85,jz)]) [] Tryz.f39 (.r' (.two (.two (.node [] (some ⟨[(17,(.one .bool))],[],upN 7 11,[]⟩) [] [] .leaf .leaf) .leaf) (.r' (.r' (.two (.two (.node [] (some ⟨[(35,(.one .bool))],[],upN 28 8,[]⟩) [] [] .leaf .leaf) .leaf) (.r' (.two (.node [] none [] [(3,[0])] .leaf .leaf) (.r' (.two (.two (.node [] (some ⟨[(71,(.one .bool))],[],upN 54 18,[]⟩) [] [] .leaf .leaf) (.two (.node [] none [] [(3,[0]),(5,[2]),(8,[0])] .leaf .leaf) .leaf)) .leaf))))))))) [] iW=(∀p r (E:Pd) rm (m:Mem),∀Q,(iW.body p r E rm m Q)→Co p r E rm m Q):=by kernel_rfl
section
attribute [local grind=] DB.eL DB.cp DB.eX DB.more Pd.pK Mem.uw DB.lW Ent.ua
theorem Cn:LV Un Tryz.prog 39 iW:=verify Tryz.func39 aa (tb:= [(78,cx),(77,fp),(85,jz)]) ⟨jA,ny,AI,trivial⟩ (by kernel_rfl) (Cp.mpr fun p r E rm m Q h=>by
 obtain⟨hp0,h⟩:=h
 exact fun f1 f2=>bH ((decide ((p:Int)<0)) || (decide ((p:Int)≥(((Pd.aj E).length:Nat):Int)))) (ae (fun c1=>(by grind)) fun c1=>(by grind))<| aO (fun c2=>aG h (congrArg (Value.int .i64) (by grind)) (af (congrArg (Upd.ob (U:=Un) 3) (show @Eq Pd _ _ from(by grind))) (af (congrArg (Upd.ob (U:=Un) 2) (show @Eq Mem _ _ from(by grind))) rfl)) rfl) fun c2=>ai (by grind) fun s3=>fun gv1=>aK (fun c3=>aG h (congrArg (Value.int .i64) (by grind)) (af (congrArg (Upd.ob (U:=Un) 3) (show @Eq Pd _ _ from(by grind))) (af (congrArg (Upd.ob (U:=Un) 2) (show @Eq Mem _ _ from(by grind))) rfl)) rfl) fun c3=>bH (((((Pd.aj E).getD p.toNat Ent.free).typ:Int)==1) && (decide ((((Pd.aj E).getD p.toNat Ent.free).refs:Int)>0))) (ae (fun c4=>(by grind)) fun c4=>(by grind))<| bL (fun c5=>aG h (congrArg (Value.int .i64) (by grind)) (af (congrArg (Upd.ob (U:=Un) 3) (show @Eq Pd _ _ from(by grind))) (af (congrArg (Upd.ob (U:=Un) 2) (show @Eq Mem _ _ from(by grind))) rfl)) rfl) fun c5=>ai ‹_› fun s4=>ai (by grind) fun s5=>fun E1 h_E1 f6=>fun m1 h_m1 f7=>bH (((((Pd.aj E).getD p.toNat Ent.free).typ:Int) !=1) && ((decide (0≤(((Pd.aj E).getD p.toNat Ent.free).owner)∧(((Pd.aj E).getD p.toNat Ent.free).owner)<(E1.n:Int)) && (E1.ent (((Pd.aj E).getD p.toNat Ent.free).owner).toNat).typ==1) && (decide ((((Pd.aj E1).getD (Int.toNat (((Pd.aj E).getD p.toNat Ent.free).owner)) Ent.free).refs:Int)>0)))) (ae (fun c6=>ae (fun c7=>ai (by grind) fun s8=>(by grind)) fun c7=>(by grind)) fun c6=>(by grind))<| bL (fun c8=>ai (by grind) fun s9=>ai ‹_› fun s10=>ai (by(have h5:=f6.ent (E.aj.getD p.toNat Ent.free).owner.toNat (by grind));have h6:=Ent.cB h5.1;rw [Pd.bJ (E:=E1) (by grind),ah (by omega)];exact⟨(by simpa [Int.sub_eq_add_neg]using DB.lW (k:= -1) h5.1 (by grind) (by grind)),h5.2⟩) fun s11=>fun E2 h_E2 f12=>aG h (congrArg (Value.int .i64) (by grind)) (af (congrArg (Upd.ob (U:=Un) 3) (show @Eq Pd _ _ from(by(rw [DB.eL,if_pos (by grind)];dsimp only [DB.eX];rw [Pd.eE,if_pos (by grind),DB.more,Pd.eE,Pd.pK,Pd.cX _ _ (by rw [Mem.uw];exact hp0),← h_E1,h_E2,Pd.bJ (E:=E) (by grind),Pd.bJ (E:=E1) (by grind)];(have h6:=Ent.cB (f6.ent (E.ent p.toNat).owner.toNat (by grind)).1);rw [ah (by omega)];rfl)))) (af (congrArg (Upd.ob (U:=Un) 2) (show @Eq Mem _ _ from(by grind))) rfl)) rfl) fun c8=>aG h (congrArg (Value.int .i64) (by grind)) (af (congrArg (Upd.ob (U:=Un) 3) (show @Eq Pd _ _ from(by grind))) (af (congrArg (Upd.ob (U:=Un) 2) (show @Eq Mem _ _ from(by grind))) rfl)) rfl)
end
def dS:Ctr Un:=⟨[.one (.obj 0 0),.one (.int .i64),.one (.int .i64)],[],[.ob 3 [(1,1,0)],.ob 2 []],[0,1],fun p q r E rm m K=>E.n=m.S∧K ⟨(.int .i64 ((E.on m).aQ p q)),none,[.ob 3 (((E.on m).aH p q).pd),.ob 2 (((E.on m).aH p q).mem)],[],[]⟩⟩
def qG(p:Int)(q:Int)(r:Nat→Nat)(E:Pd)(rm:Nat→Nat)(m:Mem)(Q:Ou Un→Prop):Prop:=
 Pd.Ok E→
 Mem.Wf m→
 ∃J:Bool→Prop,(
  split (decide (p<0)) (
   J true) (
   split (decide (p≥((Pd.aj E).length:Int))) (
    J true) (
    split (decide (q<0)) (
     J true) (
     J (decide (q≥((Pd.aj E).length:Int)))))))∧∀(_gv:Nat→Value)(x30:Bool),J x30→
 split x30 (
  Q ⟨(.int .i64 5),none,[.ob 3 E,.ob 2 m],[],[]⟩) (
  split (p==q) (
   Q ⟨(.int .i64 1),none,[.ob 3 E,.ob 2 m],[],[]⟩) (
   ∃J1:Bool→Prop,(
    (0≤p∧p<((Pd.aj E).length:Int))∧
    split (((Pd.aj E).getD p.toNat Ent.free).typ !=0) (
     J1 true) (
     (0≤q∧q<((Pd.aj E).length:Int))∧
     J1 (((Pd.aj E).getD q.toNat Ent.free).typ !=0)))∧∀(_gv1:Nat→Value)(x53:Bool),J1 x53→
   split x53 (
    Q ⟨(.int .i64 120),none,[.ob 3 E,.ob 2 m],[],[]⟩) (
    split (decide ((Pd.aw E)≥64)) (
     Q ⟨(.int .i64 240),none,[.ob 3 E,.ob 2 m],[],[]⟩) (
     (0≤q∧q<((Pd.aj E).length:Int))∧
     (Ent.ok (Ent.mk 3 p 0 0 false)=true∧Ent.owner (Ent.mk 3 p 0 0 false)<(Pd.n E:Int))∧
     ∀(E1:Pd),E1=(Pd.set E q.toNat (Ent.mk 3 p 0 0 false))→
     Pd.Ok E1→
     (0≤p∧p<((Pd.aj E1).length:Int))∧
     (Ent.ok (Ent.mk 1 p 1 1 false)=true∧Ent.owner (Ent.mk 1 p 1 1 false)<(Pd.n E1:Int))∧
     ∀(E2:Pd),E2=(Pd.set E1 p.toNat (Ent.mk 1 p 1 1 false))→
     Pd.Ok E2→
     (0≤(u32.wrap q)∧(u32.wrap q)<4294967296)∧
     ∀(m1:Mem),m1=(m.write true p 0 (u32.wrap q))→
     Mem.Wf m1→
     (0≤(u32.wrap (Pd.aw E2))∧(u32.wrap (Pd.aw E2))<4294967296)∧
     ∀(m2:Mem),m2=(m1.write true p 1 (u32.wrap (Pd.aw E2)))→
     Mem.Wf m2→
     (0≤(0:Int)∧(0:Int)<4294967296)∧
     ∀(m3:Mem),m3=(m2.write true p 2 0)→
     Mem.Wf m3→
     (0≤(i64.wrap ((Pd.aw E2)+1))∧(i64.wrap ((Pd.aw E2)+1))≤64)∧
     ∀(E3:Pd),E3=(Pd.eN E2 (i64.wrap ((Pd.aw E2)+1)))→
     Pd.Ok E3→
     Q ⟨(.int .i64 0),none,[.ob 3 E3,.ob 2 m3],[],[]⟩))))
theorem qH:Vc2 Un Tryz.prog (aV [(78,cx),(25,gV)]) [] Tryz.f33 (.r' (.two (.two (.node [] (some ⟨[(30,(.one .bool))],[],upN 7 24,[]⟩) [] [] .leaf .leaf) .leaf) (.r' (.two (.two (.node [] (some ⟨[(53,(.one .bool))],[],upN 34 20,[]⟩) [] [] .leaf .leaf) .leaf) (.r' (.r' (.r' (.two (.node [] none [] [(3,[0])] .leaf .leaf) (.two (.node [] none [] [(3,[0]),(9,[0])] .leaf .leaf) (.two (.node [] none [] [(3,[0])] .leaf .leaf) .leaf)))))))))) [] dS=(∀p q r (E:Pd) rm (m:Mem),∀Q,(dS.body p q r E rm m Q)→qG p q r E rm m Q):=by kernel_rfl
section
attribute [local grind=] DB.aH DB.aQ DB.bA Pd.pI Pd.vx Pd.mY Pd.Fm Mem.jy ah bE Ent.ok Pd.yA DB.mem_set DB.Bt DB.bd
attribute [local grind→] Pd.Ok.aw
theorem qF:LV Un Tryz.prog 33 dS:=verify Tryz.func33 aa (tb:= [(78,cx),(25,gV)]) ⟨jA,qL,trivial⟩ (by kernel_rfl) (qH.mpr fun p q r E rm m Q h=>by
 obtain⟨hp0,h⟩:=h
 exact fun f1 f2=>bH ((decide ((p:Int)<0)) || ((decide ((p:Int)≥(((Pd.aj E).length:Nat):Int))) || ((decide ((q:Int)<0)) || (decide ((q:Int)≥(((Pd.aj E).length:Nat):Int)))))) (ae (fun c1=>(by grind)) fun c1=>ae (fun c2=>(by grind)) fun c2=>ae (fun c3=>(by grind)) fun c3=>(by grind))<| aO (fun c4=>aG h (congrArg (Value.int .i64) (by grind)) (af (congrArg (Upd.ob (U:=Un) 3) (show @Eq Pd _ _ from(by grind))) (af (congrArg (Upd.ob (U:=Un) 2) (show @Eq Mem _ _ from(by grind))) rfl)) rfl) fun c4=>aK (fun c5=>aG h (congrArg (Value.int .i64) (by grind)) (af (congrArg (Upd.ob (U:=Un) 3) (show @Eq Pd _ _ from(by grind))) (af (congrArg (Upd.ob (U:=Un) 2) (show @Eq Mem _ _ from(by grind))) rfl)) rfl) fun c5=>bH (((((Pd.aj E).getD p.toNat Ent.free).typ:Int) !=0) || ((((Pd.aj E).getD q.toNat Ent.free).typ:Int) !=0)) (ai (by grind) fun s3=>ae (fun c6=>(by grind)) fun c6=>ai (by grind) fun s4=>(by grind))<| aO (fun c7=>aG h (congrArg (Value.int .i64) (by grind)) (af (congrArg (Upd.ob (U:=Un) 3) (show @Eq Pd _ _ from(by grind))) (af (congrArg (Upd.ob (U:=Un) 2) (show @Eq Mem _ _ from(by grind))) rfl)) rfl) fun c7=>aB (fun c8=>aG h (congrArg (Value.int .i64) (by grind)) (af (congrArg (Upd.ob (U:=Un) 3) (show @Eq Pd _ _ from(by grind))) (af (congrArg (Upd.ob (U:=Un) 2) (show @Eq Mem _ _ from(by grind))) rfl)) rfl) fun c8=>ai (by grind) fun s5=>ai (by grind) fun s6=>fun E1 h_E1 f7=>ai (by grind) fun s8=>ai (by grind) fun s9=>fun E2 h_E2 f10=>ai (kg _) fun s11=>fun m1 h_m1 f12=>ai (kg _) fun s13=>fun m2 h_m2 f14=>ai (by omega) fun s15=>fun m3 h_m3 f16=>ai (by grind) fun s17=>fun E3 h_E3 f18=>aG h (congrArg (Value.int .i64) (by grind)) (af (congrArg (Upd.ob (U:=Un) 3) (show @Eq Pd _ _ from(by(rw [DB.aH,if_pos (by grind)];dsimp only [DB.bA];rw [DB.set_comm _ (by grind),Pd.eE,Pd.eE,Pd.pI,Pd.vx,Pd.cX _ _ (by simp only [Mem.jy];exact hp0),← h_E1,← h_E2,h_E3,ah (by have:=f10.aw;omega),h_E2,h_E1];rfl)))) (af (congrArg (Upd.ob (U:=Un) 2) (show @Eq Mem _ _ from(by(rw [DB.aH,if_pos (by grind)];dsimp only [DB.bA,DB.eN,DB.aN];(have hb:E2.aw=E.aw:=by rw [h_E2,h_E1];rfl);(have h7:=f1.aw);(have h8:=f1.dC);rw [h_m3,h_m2,h_m1,bE (x:=E2.aw) (by rw [hb];omega),bE (x:=q) (by grind),hb];rfl)))) rfl)) rfl)
end
def own(D:DB)(s:Int):List I64:=if D.du s then D.dJ s D.S else []
section
attribute [local grind=] own
end
end Go.Proofs.YtbjlecpmgocoeaaGreatDoor
end
section
namespace Go.Proofs.YtbjlecpmgocoeaaGreatDoor
open Go Go.RowKit V
open Go.IntKind (i64 u32 u64)
def Bp(w:Int):Bool:=decide (w % 256=1∧w / 256<64)
def aR(w:Int):Int:=if Bp w then w / 256 else 0
def pE(w:Int):Int:=if w=0 then 92 else if Bp w then 0 else 90
def gN(p:Int):Int:=if 0≤p∧p<64 then 256*p+1 else 0
def dN(p:Int):Int:=if 0≤p∧p<64 then 0 else 4
structure Mp where
 aY:Bool
 aq:Int
 write:Bool
 exec:Bool
deriving DecidableEq
def Mp.bits(m:Mp):Int:=(if m.aY then 2 else 0)+(if m.write then 4 else 0)+(if m.exec then 8 else 0)
def Mp.err(m:Mp):Int:=if 0≤m.aq∧m.aq<64 then(if m.exec && !m.aY then 1 else 0)else 4
def Mp.word(m:Mp):Int:=if m.err=0 then 256*m.aq+1+m.bits else 0
abbrev Mp.nil:Mp:=⟨false,0,false,false⟩
def Mp.Ap(w:Int):Mp:=⟨decide (w / 2 % 2=1),w / 256,decide (w / 4 % 2=1),decide (w / 8 % 2=1)⟩
def tJ(w:Int):Bool:=decide ((Mp.Ap w).err=0∧(Mp.Ap w).word=w)
def bB(w:Int):Mp:=if w≠0∧tJ w then Mp.Ap w else Mp.nil
def jQ(w:Int):Int:=if w=0 then 92 else if tJ w then 0 else 90
theorem Dq {p:Int}(h:0≤p∧p<64):u32.wrap (BitVec.ofInt u32.bits (u32.wrap ((u32.wrap p:Int)*2 ^ 8)) ||| BitVec.ofInt u32.bits 1).toNat=256*p+1:=by
 rw [bE (x:=p) (by omega),bE (x:=p*2 ^ 8) (by omega),pF (by omega) (by omega),show p*2 ^ 8=2 ^ 8*p by omega,fy 8 (by omega) (by omega) (by omega)];omega
theorem yJ(k:Nat)(b:Int)(hb:b=2 ^ k)(hk:k≤3) {p a:Int}(h:0≤p∧p<64)(ha:0≤a∧a<b):u32.wrap (BitVec.ofInt u32.bits (256*p+a) ||| BitVec.ofInt u32.bits b).toNat=256*p+(a+b):=by
 subst hb
 have h3:(2:Int) ^ k≤2 ^ 3:=by exact_mod_cast Nat.pow_le_pow_right (n:=2) (by omega) hk
 have h4:(0:Int)<2 ^ k:=Int.pow_pos (by omega)
 have assoc:∀x y z:Int,nor (nor x y) z=nor x (nor y z):=by
  intro x y z;unfold nor;simp [Nat.or_assoc]
 have e1:nor (2 ^ k*1) a=2 ^ k*1+a:=fy k (by omega) ha.1 ha.2
 have e2:nor (2 ^ 8*p) a=2 ^ 8*p+a:=fy 8 h.1 ha.1 (by omega)
 have e3:nor (2 ^ 8*p) (2 ^ k+a)=2 ^ 8*p+(2 ^ k+a):=fy 8 h.1 (by omega) (by omega)
 rw [Int.mul_one]at e1
 rw [pF (by omega) (by omega),show 256*p+a=2 ^ 8*p+a by omega,← e2,assoc,lX a,e1,e3]
 omega
theorem gl(k:Nat)(b:Int)(hb:b=2 ^ k)(hk:k≤30) {x:Int}(hx:0≤x∧x<4294967296):((u32.wrap (BitVec.ofInt u32.bits x &&& BitVec.ofInt u32.bits b).toNat:Int) !=0)=decide (x / b % 2=1):=by
 subst hb
 rw [Bool.eq_iff_iff]
 simp only [bne_iff_ne,ne_eq,decide_eq_true_eq]
 show(¬u32.wrap (BitVec.ofInt u32.bits x &&& BitVec.ofInt u32.bits (2 ^ k)).toNat=0)↔x / 2 ^ k % 2=1
 have h3:(2:Int) ^ k≤2 ^ 30:=by exact_mod_cast Nat.pow_le_pow_right (n:=2) (by omega) hk
 have h4:(0:Int)<2 ^ k:=Int.pow_pos (by omega)
 rw [ur hx (by omega)]
 unfold FR
 obtain⟨x,rfl⟩:=Int.eq_ofNat_of_zero_le hx.1
 have e:((2:Int) ^ k).toNat=2 ^ k:=by rw [show(2:Int) ^ k=((2 ^ k:Nat):Int)by push_cast;rfl,Int.toNat_natCast]
 rw [e,Int.toNat_natCast]
 have h5:x &&& 2 ^ k=if x.testBit k then 2 ^ k else 0:=by
  apply Nat.eq_of_testBit_eq
  intro j
  rw [Nat.testBit_and,Nat.testBit_two_pow]
  by_cases hj:k=j
  ·subst hj
   cases hb:x.testBit k<;>simp
  ·cases hb:x.testBit k<;>simp [hj,Nat.testBit_two_pow]
 have h6:x.testBit k=decide (x / 2 ^ k % 2=1):=Nat.testBit_eq_decide_div_mod_eq
 rw [h5,h6]
 have h7:((x:Int) / 2 ^ k % 2=1)↔(x / 2 ^ k % 2=1):=by
  rw [show(x:Int) / 2 ^ k % 2=((x / 2 ^ k % 2:Nat):Int)by push_cast;rfl]
  omega
 rw [h7]
 have h8:0<2 ^ k:=Nat.two_pow_pos k
 by_cases h9:x / 2 ^ k % 2=1
 ·simp [h9];omega
 ·simp [h9]
end Go.Proofs.YtbjlecpmgocoeaaGreatDoor
end
section
namespace Go.Proofs.YtbjlecpmgocoeaaGreatDoor
open Go Go.RowKit V
open Go.IntKind (i64 u32 u64)
namespace File
def flags(f:Fl):Int:=if f.z then 1 else(if f.n then 2 else 0)+(if f.l then 4 else 0)
def fR(w:Int):Bool:=decide (w=0∨w=1∨w=2∨w=4∨w=6)
def fz(w:Int):Int:=if fR w then 0 else 80
def eu(f:Fl)(w:Int):Fl:=if fR w then {f with z:=decide (w=1),n:=decide (w=2∨w=6),l:=decide (w=4∨w=6)}else Fl.zero
def fh(l:List U32):Int:=if l.length=17 then fz (l.getD 16 ⟨0⟩).v else 80
def bare(l:List U32):Fl:=⟨l.take 15,(l.getD 15 ⟨0⟩).v,false,false,false⟩
def unpack(l:List U32):Fl:=if l.length=17 then eu (bare l) (l.getD 16 ⟨0⟩).v else Fl.zero
theorem vL {f:Fl} {w:Int}(h:fR w=false):eu f w=Fl.zero:=by unfold eu;rw [h];rfl
theorem vN {w:Int}(h:fR w=false):fz w=80:=by unfold fz;rw [h];rfl
theorem yV {f:Fl} {w:Int}(h:fR w=true):eu f w= {f with z:=decide (w=1),n:=decide (w=2∨w=6),l:=decide (w=4∨w=6)}:=by unfold eu;rw [h];rfl
theorem yW {w:Int}(h:fR w=true):fz w=0:=by unfold fz;rw [h];rfl
theorem nL {l:List U32}(h:l.length=17):unpack l=eu (bare l) (l.getD 16 ⟨0⟩).v∧fh l=fz (l.getD 16 ⟨0⟩).v:=⟨if_pos h,if_pos h⟩
theorem o5 {l:List U32}(h:¬l.length=17):unpack l=Fl.zero∧fh l=80:=⟨if_neg h,if_neg h⟩
theorem yU {l:List U32}(hw:∀x∈l,0≤x.v∧x.v<4294967296)(i:Nat):0≤(l.getD i ⟨0⟩).v∧(l.getD i ⟨0⟩).v<4294967296:=by
 rw [List.getD_eq_getElem?_getD]
 cases h:l[i]? with
 | none=>simp
 | some x=>exact hw x (List.mem_of_getElem? h)
theorem vM {w:Int}(h:0≤w∧w<4294967296):(if decide (w / 1 % 2=1)then(1:Int)else(if decide (w / 2 % 2=1)then 2 else 0)+(if decide (w / 4 % 2=1)then 4 else 0))=w↔fR w=true:=by
 simp only [fR,decide_eq_true_eq]
 constructor
 ·intro h1;split at h1<;>(try split at h1)<;>(try split at h1)<;>omega
 ·intro h1;rcases h1 with rfl | rfl | rfl | rfl | rfl<;>decide
theorem Bz {w:Int}(h:fR w=true):decide (w / 1 % 2=1)=decide (w=1)∧decide (w / 2 % 2=1)=decide (w=2∨w=6)∧decide (w / 4 % 2=1)=decide (w=4∨w=6):=by
 simp only [fR,decide_eq_true_eq]at h
 rcases h with rfl | rfl | rfl | rfl | rfl<;>decide
def part(l:List U32)(i:Int):Fl:=⟨l.take i.toNat++List.replicate (15 - i.toNat) (U32.mk 0),0,false,false,false⟩
theorem bare_eq {l:List U32}(h:l.length=17):Fl.mk [U32.mk ((l.getD 0 (U32.mk 0)).v),U32.mk ((l.getD 1 (U32.mk 0)).v),U32.mk ((l.getD 2 (U32.mk 0)).v),U32.mk ((l.getD 3 (U32.mk 0)).v),U32.mk ((l.getD 4 (U32.mk 0)).v),U32.mk ((l.getD 5 (U32.mk 0)).v),U32.mk ((l.getD 6 (U32.mk 0)).v),U32.mk ((l.getD 7 (U32.mk 0)).v),U32.mk ((l.getD 8 (U32.mk 0)).v),U32.mk ((l.getD 9 (U32.mk 0)).v),U32.mk ((l.getD 10 (U32.mk 0)).v),U32.mk ((l.getD 11 (U32.mk 0)).v),U32.mk ((l.getD 12 (U32.mk 0)).v),U32.mk ((l.getD 13 (U32.mk 0)).v),U32.mk ((l.getD 14 (U32.mk 0)).v)] ((l.getD (Int.toNat 15) (U32.mk 0)).v) false false false=bare l:=by
 match l,h with
 | [_,_,_,_,_,_,_,_,_,_,_,_,_,_,_,_,_],_=>rfl
theorem qc {l:List U32}(h:l.length=17)(w:Int):(eu (bare l) w).Ok:=by
 unfold eu
 split
 ·show(l.take 15).length=15;rw [List.length_take];omega
 ·rfl
end File
end Go.Proofs.YtbjlecpmgocoeaaGreatDoor
end
section
namespace Go.Proofs.YtbjlecpmgocoeaaGreatDoor
open Go Go.RowKit V
open Go.IntKind (i64 u32 u64)
def ia(f:Int→Bool)(lo hi:Int):Bool:=(List.range (hi - lo).toNat).all fun i=>f (lo+(i:Int))
theorem bV {f:Int→Bool} {lo hi:Int}:ia f lo hi=true↔∀x,lo≤x→x<hi→f x=true:=by
 unfold ia
 rw [List.all_eq_true]
 constructor
 ·intro h x h1 h2
  have:=h (x - lo).toNat (List.mem_range.2 (by omega))
  rwa [show lo+(((x - lo).toNat:Nat):Int)=x by omega]at this
 ·intro h i hi
  have:=List.mem_range.1 hi
  exact h _ (by omega) (by omega)
theorem iS {f:Int→Bool} {lo hi:Int}(h:hi≤lo):ia f lo hi=true:=bV.2 fun x h1 h2=>by omega
theorem fm {f:Int→Bool} {lo hi:Int}(h:ia f lo hi=true)(hf:f hi=true) {hi':Int}(e:hi'=hi+1):ia f lo hi'=true:=
 bV.2 fun x h1 h2=>by
  by_cases hx:x=hi
  ·subst hx;exact hf
  ·exact bV.1 h x h1 (by omega)
theorem cj {f:Int→Bool} {lo hi x:Int}(h1:lo≤x)(h2:x<hi)(hf:f x=false):ia f lo hi=false:=by
 cases h:ia f lo hi
 ·rfl
 ·have:=bV.1 h x h1 h2
  rw [hf]at this
  exact this.symm
def cr(f:Int→Bool)(n:Int):Int:=(((List.range n.toNat).countP fun(i:Nat)=>f (i:Int):Nat):Int)
theorem BE {f:Int→Bool}:cr f 0=0:=rfl
theorem dA {f:Int→Bool} {n:Int}(h:0≤n):cr f (n+1)=cr f n+(if f n then 1 else 0):=by
 unfold cr
 rw [show(n+1).toNat=n.toNat+1 by omega,List.range_succ,List.countP_append,Int.natCast_add]
 congr 1
 rw [List.countP_cons,List.countP_nil,show((n.toNat:Nat):Int)=n by omega]
 cases f n<;>simp
theorem gk {f:Int→Bool} {n:Int}:0≤cr f n:=by unfold cr;omega
theorem mh {f:Int→Bool} {n:Int}(h:0≤n):cr f n≤n:=by
 unfold cr
 have:=List.countP_le_length (p:=fun i=>f ((i:Nat):Int)) (l:=List.range n.toNat)
 rw [List.length_range]at this
 omega
theorem qm {f g:Int→Bool} {n:Int}(h:∀x,0≤x→x<n→f x=g x):cr f n=cr g n:=by
 unfold cr
 congr 1
 apply List.countP_congr
 intro i hi
 have:=List.mem_range.1 hi
 rw [h _ (by omega) (by omega)]
namespace DB
def word(D:DB)(p o:Int):Int:=D.mem.jR true p o
def zero(D:DB)(p lo hi:Int):Bool:=ia (fun o=>D.word p o==0) lo hi
def is(D:DB)(p t:Int):Bool:=D.has p && (D.at_ p).typ==t
def of(D:DB)(p t o:Int):Bool:=D.is p t && (D.at_ p).owner==o
def alive(D:DB)(p:Int):Bool:=D.is (D.at_ p).owner 1 && (D.at_ (D.at_ p).owner).state !=3
def some_(D:DB)(p lo:Int)(n:Nat):List U32:=(List.range n).map fun(i:Nat)=>⟨D.word p (lo+(i:Int))⟩
def fY(D:DB)(p:Int):Bool:=
 decide (D.word p 1<D.aw) && decide (D.word p 2≤4096) && ia (fun q=>!((D.at_ q).typ==1 && D.word q 1==D.word p 1)) 0 p
def u5(D:DB)(p:Int):Bool:=Dg.aE (D.some_ p 11 26)==0 && D.zero p 3 11
def kU(D:DB)(p:Int):Bool:=
 D.zero p 37 1024 && (if(D.at_ p).state=1 then D.u5 p else if(D.at_ p).state=2 then D.zero p 11 37 else D.u5 p || D.zero p 11 37)
def mN(D:DB)(p:Int):Bool:=(D.at_ p).state==3 || (cr (fun q=>D.of q 3 p) D.S==1 && D.of (D.word p 0) 3 p)
def named(D:DB)(p:Int)(n q:Int):Int:=cr (fun i=>D.word p i !=0 && aR (D.word p i)==q) n
def gH(D:DB)(p i:Int):Bool:=D.word p i==0 || (pE (D.word p i)==0 && D.of (aR (D.word p i)) 4 (D.at_ p).owner)
def fg(D:DB)(p:Int):Bool:=
 D.zero p 256 1024 && (ia (D.gH p) 0 256 && ia (fun q=>!(decide (D.named p 256 q>1) || (D.of q 4 (D.at_ p).owner && D.named p 256 q==0))) 0 D.S)
def fC(D:DB)(p j:Int):Bool:=
 D.word p j==0 || (jQ (D.word p j)==0 && (if(bB (D.word p j)).aY then D.of (bB (D.word p j)).aq 5 (D.at_ p).owner else decide ((bB (D.word p j)).aq<D.mem.I)))
def kJ(D:DB)(p:Int):Bool:=ia (D.fC p) 0 1024
def fD(D:DB)(p q j:Int):Bool:=jQ (D.word q j)==0 && ((bB (D.word q j)).aY && (bB (D.word q j)).aq==p)
def jn(D:DB)(p n:Int):Int:=((List.range n.toNat).map fun(q:Nat)=>if D.of (q:Int) 4 (D.at_ p).owner then cr (D.fD p (q:Int)) 1024 else 0).sum
def o0(D:DB)(p:Int):Bool:=D.jn p D.S==1
def jc(D:DB)(p:Int):Bool:=
 D.zero p 18 1024 && (if(D.at_ p).aD then File.fh (D.some_ p 1 17)==0 && !(D.is (D.at_ p).owner 1 && (D.at_ (D.at_ p).owner).state==1)else D.zero p 1 18)
def clause(D:DB)(c p:Int):Bool:=
 let t:=(D.at_ p).typ
 if c=1 then t !=1 || (D.at_ p).owner==p
 else if c=2 then t !=0 || D.zero p 0 1024
 else if c=3 then t==1 || (t==0 || D.is (D.at_ p).owner 1)
 else if c=4 then t !=1 || (D.at_ p).refs==((D.dJ p D.S).length:Int)
 else if c=5 then t !=1 || D.fY p
 else if c=6 then t !=1 || D.kU p
 else if c=7 then t !=1 || D.mN p
 else if c=8 then t !=3 || (!D.alive p || D.fg p)
 else if c=9 then t !=4 || (!D.alive p || D.kJ p)
 else if c=10 then t !=5 || (!D.alive p || D.o0 p)
 else if c=11 then t !=2 || D.jc p
 else t !=6 || D.zero p 0 1024
def bT(D:DB)(c:Int):Bool:=ia (D.clause c) 0 D.S
def holds(D:DB)(c:Int):Bool:=decide (1≤c∧c≤12) && D.bT c
def tV(f:Int→Bool):Nat→Int→Int
 | 0,p=>p
 | n+1,p=>if f p then tV f n (p+1)else p
def eZ(D:DB):Nat→Int→Int×Int
 | 0,_=>(0,0)
 | n+1,c=>if D.bT c then eZ D n (c+1)else(c,tV (D.clause c) D.S 0)
def broken(D:DB):Int×Int:=D.eZ 12 1
end DB
theorem DB.leastN_eq {f:Int→Bool}:∀ {n:Nat} {lo x:Int},ia f lo x=true→f x=false→lo≤x→x<lo+n→tV f n lo=x
 | 0,lo,x,_,_,h1,h2=>by omega
 | n+1,lo,x,h,hf,h1,h2=>by
  unfold tV
  by_cases hx:lo=x
  ·subst hx;rw [hf];rfl
  ·rw [if_pos (bV.1 h lo (by omega) (by omega))]
   exact leastN_eq (bV.2 fun y a b=>bV.1 h y (by omega) b) hf (by omega) (by omega)
theorem v9 {f g:Int→Bool} {n:Int}(h0:0≤n)(h:∀x,0≤x→x<n→f x=true→g x=true):cr f n≤cr g n∧(cr f n=cr g n→∀x,0≤x→x<n→g x=true→f x=true):=by
 obtain⟨m,rfl⟩:=Int.eq_ofNat_of_zero_le h0
 induction m with
 | zero=>exact⟨Int.le_refl _,fun _ x a b=>by omega⟩
 | succ m ih=>
  have h1:=ih (by omega) (fun x a b=>h x a (by omega))
  have e1:=dA (f:=f) (n:=(m:Int)) (by omega)
  have e2:=dA (f:=g) (n:=(m:Int)) (by omega)
  have hm:=h (m:Int) (by omega) (by omega)
  rw [show((m+1:Nat):Int)=(m:Int)+1 by omega,e1,e2]
  cases hf:f (m:Int)<;>cases hg:g (m:Int)<;>simp only [hf,hg,if_true,Bool.false_eq_true,if_false]at hm ⊢
  ·refine⟨by omega,fun e x a b hx=>?_⟩
   by_cases hxm:x=m
   ·subst hxm;rw [hg]at hx;exact absurd hx (by simp)
   ·exact h1.2 (by omega) x a (by omega) hx
  ·exact⟨by omega,fun e=>by omega⟩
  ·exact absurd (hm trivial) (by simp)
  ·refine⟨by omega,fun e x a b hx=>?_⟩
   by_cases hxm:x=m
   ·subst hxm;exact hf
   ·exact h1.2 (by omega) x a (by omega) hx
end Go.Proofs.YtbjlecpmgocoeaaGreatDoor
end
section
set_option maxRecDepth 10000
set_option maxHeartbeats 1000000
namespace Go.Proofs.YtbjlecpmgocoeaaGreatDoor
open Go Go.RowKit V
open Go.IntKind (i64 u32 u64)
theorem Fo {w:World}(ma:Bool)(mb:Int)(mc:Bool)(md:Bool):
 Calls Tryz.prog 136 #[(.agg #[(.bool ma),(.int .i64 mb),(.bool mc),(.bool md)])] w fun e w'=>∃v,e= .returned v∧v= .tuple #[(.int .u32 ((Mp.mk ma mb mc md).word)),(.int .i64 ((Mp.mk ma mb mc md).err))]∧Pu w w':=by
 refine rA _ _ _ _ ?_
 have hp:=Ch.refl (fun _=>False) w
 refine mkd fun gv wv m_gv=>?_
 have b_gv:=m_gv.blk
 refine⟨fun x w'=>x=((decide ((mb:Int)<0)) || (decide ((mb:Int)>63)))∧Pu wv w',?_,?_⟩
 ·refine⟨_,b_gv.at2 rfl,?_⟩
  refine ae (fun c1=>?_) (fun c1=>?_)
  ·exact⟨by simp only [c1,Bool.true_and,Bool.and_true,Bool.false_and,Bool.and_false,Bool.true_or,Bool.or_true,Bool.false_or,Bool.or_false,Bool.not_true,Bool.not_false,if_true,if_false,Bool.false_eq_true],Ch.refl _ _⟩
  ·refine⟨_,b_gv.at2 rfl,?_⟩
   exact⟨by simp only [c1,Bool.true_and,Bool.and_true,Bool.false_and,Bool.and_false,Bool.true_or,Bool.or_true,Bool.false_or,Bool.or_false,Bool.not_true,Bool.not_false,if_true,if_false,Bool.false_eq_true],Ch.refl _ _⟩
 rintro _ _ wv1 ⟨rfl,q_wv1⟩
 refine aO (fun c2=>?_) (fun c2=>?_)
 ·have hp:=Ch.pu (Ch.made hp m_gv) q_wv1
  exact⟨congrArg Value.tuple (rz (congrArg (Value.int .u32) (by grind [Mp.word,Mp.err,Mp.bits])) (congrArg (Value.int .i64) (by grind [Mp.word,Mp.err,Mp.bits]))),hp⟩
 ·refine⟨fun x w'=>x=(md && (!ma))∧Pu wv1 w',?_,?_⟩
  ·have b_gv:=Pu.blk q_wv1 b_gv
   refine⟨_,b_gv.at rfl,?_⟩
   refine ae (fun c3=>?_) (fun c3=>?_)
   ·refine⟨_,b_gv.at2 rfl,?_⟩
    exact⟨by simp only [c3,Bool.true_and,Bool.and_true,Bool.false_and,Bool.and_false,Bool.true_or,Bool.or_true,Bool.false_or,Bool.or_false,Bool.not_true,Bool.not_false,if_true,if_false,Bool.false_eq_true],Ch.refl _ _⟩
   ·exact⟨by simp only [c3,Bool.true_and,Bool.and_true,Bool.false_and,Bool.and_false,Bool.true_or,Bool.or_true,Bool.false_or,Bool.or_false,Bool.not_true,Bool.not_false,if_true,if_false,Bool.false_eq_true],Ch.refl _ _⟩
  rintro _ _ wv2 ⟨rfl,q_wv2⟩
  refine bL (fun c4=>?_) (fun c4=>?_)
  ·have hp:=Ch.pu (Ch.pu (Ch.made hp m_gv) q_wv1) q_wv2
   exact⟨congrArg Value.tuple (rz (congrArg (Value.int .u32) (by grind [Mp.word,Mp.err,Mp.bits])) (congrArg (Value.int .i64) (by grind [Mp.word,Mp.err,Mp.bits]))),hp⟩
  ·have hpg:0≤mb∧mb<64:=by grind
   have b_gv:=Pu.blk q_wv2 (Pu.blk q_wv1 b_gv)
   refine⟨_,b_gv.at2 rfl,?_⟩
   rintro _ rfl
   refine⟨_,b_gv.at2 rfl,⟨_,b_gv.at rfl,⟨_,b_gv.at rfl,?_⟩⟩⟩
   refine mkd fun gv3 wv4 m_gv3=>?_
   have b_gv3:=m_gv3.blk
   have hp:=Ch.made (Ch.pu (Ch.pu (Ch.made hp m_gv) q_wv1) q_wv2) m_gv3
   have b_gv:=Made.old m_gv3 b_gv
   refine⟨fun mz wv5 x43 W=>Ch (fun _=>False) w W∧(∃T,Blk W gv #[(.bool ma),(.int .i64 mb),(.bool mc),(.bool md)] T)∧(∃T,Blk W gv3 #[(.bool ma),(.int .u32 2),(.bool mc),(.int .u32 4),(.bool md),(.int .u32 8)] T)∧((mz=3∧wv5=(256*mb+1)∧x43=0)∨(mz=2∧wv5=(256*mb+(1+(if ma then 2 else 0)))∧x43=1)∨(mz=1∧wv5=(256*mb+(1+(if ma then 2 else 0)+(if mc then 4 else 0)))∧x43=2)∨(mz=0∧wv5=(256*mb+(1+(if ma then 2 else 0)+(if mc then 4 else 0)+(if md then 8 else 0)))∧x43=3)),⟨_,hp,⟨_,b_gv⟩,⟨_,b_gv3⟩,.inl ⟨rfl,by exact Dq hpg,rfl⟩⟩,?_⟩
   rintro _ _ wv5 x43 wv6 ⟨hp,⟨_,b_gv⟩,⟨_,b_gv3⟩,hU⟩
   rcases hU with⟨rfl,rfl,rfl⟩ | ⟨rfl,rfl,rfl⟩ | ⟨rfl,rfl,rfl⟩ | ⟨rfl,rfl,rfl⟩
   ·refine bk ⟨by decide,⟨_,_,⟨b_gv3.at2 rfl,b_gv3.at2 rfl⟩,?_⟩⟩
    refine mkd fun gv5 wv7 m_gv5=>?_
    have lo_gv5:=m_gv5.lo hp
    have ne_gv_gv5:=m_gv5.ne b_gv
    have ne_gv3_gv5:=m_gv5.ne b_gv3
    have b_gv5:=m_gv5.blk
    refine bz b_gv5 (by simp) fun wv8 s_wv8=>?_
    have b_gv5:Blk wv8 gv5 #[(.bool ma),(.int .u32 2)] _:=s_wv8.blk
    refine⟨_,b_gv5.at rfl,?_⟩
    refine ae (fun c5=>?_) (fun c5=>?_)
    ·refine⟨_,b_gv5.at rfl,?_⟩
     rintro _ rfl
     have hp:=Ch.call (Ch.made hp m_gv5) s_wv8.ch (by exact fun k e=>.inr (e▸lo_gv5))
     have b_gv:=Ch.blk s_wv8.ch (Made.old m_gv5 b_gv) (ne_gv_gv5)
     have b_gv3:=Ch.blk s_wv8.ch (Made.old m_gv5 b_gv3) (ne_gv3_gv5)
     exact⟨2,by decide,hp,⟨_,b_gv⟩,⟨_,b_gv3⟩,.inr (.inl ⟨rfl,by(rw [yJ 1 2 (by decide) (by omega) hpg (a:=1) (by constructor<;>grind)];simp only [c2,c4,c5,if_true];done),rfl⟩)⟩
    ·have hp:=Ch.call (Ch.made hp m_gv5) s_wv8.ch (by exact fun k e=>.inr (e▸lo_gv5))
     have b_gv:=Ch.blk s_wv8.ch (Made.old m_gv5 b_gv) (ne_gv_gv5)
     have b_gv3:=Ch.blk s_wv8.ch (Made.old m_gv5 b_gv3) (ne_gv3_gv5)
     exact⟨2,by decide,hp,⟨_,b_gv⟩,⟨_,b_gv3⟩,.inr (.inl ⟨rfl,by(simp [c2,c4,c5];done),rfl⟩)⟩
   ·refine bk ⟨by decide,⟨_,_,⟨b_gv3.at2 rfl,b_gv3.at2 rfl⟩,?_⟩⟩
    refine mkd fun gv5 wv7 m_gv5=>?_
    have lo_gv5:=m_gv5.lo hp
    have ne_gv_gv5:=m_gv5.ne b_gv
    have ne_gv3_gv5:=m_gv5.ne b_gv3
    have b_gv5:=m_gv5.blk
    refine bz b_gv5 (by simp) fun wv8 s_wv8=>?_
    have b_gv5:Blk wv8 gv5 #[(.bool mc),(.int .u32 4)] _:=s_wv8.blk
    refine⟨_,b_gv5.at rfl,?_⟩
    refine ae (fun c6=>?_) (fun c6=>?_)
    ·refine⟨_,b_gv5.at rfl,?_⟩
     rintro _ rfl
     have hp:=Ch.call (Ch.made hp m_gv5) s_wv8.ch (by exact fun k e=>.inr (e▸lo_gv5))
     have b_gv:=Ch.blk s_wv8.ch (Made.old m_gv5 b_gv) (ne_gv_gv5)
     have b_gv3:=Ch.blk s_wv8.ch (Made.old m_gv5 b_gv3) (ne_gv3_gv5)
     exact⟨1,by decide,hp,⟨_,b_gv⟩,⟨_,b_gv3⟩,.inr (.inr (.inl ⟨rfl,by(rw [yJ 2 4 (by decide) (by omega) hpg (a:=(1+(if ma then 2 else 0))) (by constructor<;>grind)];simp only [c2,c4,c6,if_true];done),rfl⟩))⟩
    ·have hp:=Ch.call (Ch.made hp m_gv5) s_wv8.ch (by exact fun k e=>.inr (e▸lo_gv5))
     have b_gv:=Ch.blk s_wv8.ch (Made.old m_gv5 b_gv) (ne_gv_gv5)
     have b_gv3:=Ch.blk s_wv8.ch (Made.old m_gv5 b_gv3) (ne_gv3_gv5)
     exact⟨1,by decide,hp,⟨_,b_gv⟩,⟨_,b_gv3⟩,.inr (.inr (.inl ⟨rfl,by(simp [c2,c4,c6];done),rfl⟩))⟩
   ·refine bk ⟨by decide,⟨_,_,⟨b_gv3.at2 rfl,b_gv3.at2 rfl⟩,?_⟩⟩
    refine mkd fun gv5 wv7 m_gv5=>?_
    have lo_gv5:=m_gv5.lo hp
    have ne_gv_gv5:=m_gv5.ne b_gv
    have ne_gv3_gv5:=m_gv5.ne b_gv3
    have b_gv5:=m_gv5.blk
    refine bz b_gv5 (by simp) fun wv8 s_wv8=>?_
    have b_gv5:Blk wv8 gv5 #[(.bool md),(.int .u32 8)] _:=s_wv8.blk
    refine⟨_,b_gv5.at rfl,?_⟩
    refine ae (fun c7=>?_) (fun c7=>?_)
    ·refine⟨_,b_gv5.at rfl,?_⟩
     rintro _ rfl
     have hp:=Ch.call (Ch.made hp m_gv5) s_wv8.ch (by exact fun k e=>.inr (e▸lo_gv5))
     have b_gv:=Ch.blk s_wv8.ch (Made.old m_gv5 b_gv) (ne_gv_gv5)
     have b_gv3:=Ch.blk s_wv8.ch (Made.old m_gv5 b_gv3) (ne_gv3_gv5)
     exact⟨0,by decide,hp,⟨_,b_gv⟩,⟨_,b_gv3⟩,.inr (.inr (.inr (⟨rfl,by(rw [yJ 3 8 (by decide) (by omega) hpg (a:=(1+(if ma then 2 else 0)+(if mc then 4 else 0))) (by constructor<;>grind)];simp only [c2,c4,c7,if_true];done),rfl⟩)))⟩
    ·have hp:=Ch.call (Ch.made hp m_gv5) s_wv8.ch (by exact fun k e=>.inr (e▸lo_gv5))
     have b_gv:=Ch.blk s_wv8.ch (Made.old m_gv5 b_gv) (ne_gv_gv5)
     have b_gv3:=Ch.blk s_wv8.ch (Made.old m_gv5 b_gv3) (ne_gv3_gv5)
     exact⟨0,by decide,hp,⟨_,b_gv⟩,⟨_,b_gv3⟩,.inr (.inr (.inr (⟨rfl,by(simp [c2,c4,c7];done),rfl⟩)))⟩
   ·refine eQ ?_
    exact⟨congrArg Value.tuple (rz (congrArg (Value.int .u32) (by grind [Mp.word,Mp.err,Mp.bits])) (congrArg (Value.int .i64) (by grind [Mp.word,Mp.err,Mp.bits]))),hp⟩
end Go.Proofs.YtbjlecpmgocoeaaGreatDoor
end
