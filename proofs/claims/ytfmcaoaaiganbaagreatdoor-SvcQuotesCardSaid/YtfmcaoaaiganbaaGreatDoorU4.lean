/- SvcQuotes returns true for every input; each argument reads behind the call as it read before. -/
import Derived.Test.YtfmcaoaaiganbaaGreatDoorU3
import Derived.KernelRfl
import Derived.Laws.MakeOwn
import Derived.Carry
set_option linter.unusedVariables false
set_option linter.unusedSimpArgs false
namespace Go.Proofs.YtfmcaoaaiganbaaGreatDoor
open Go.Proofs.Tryz (prog)
open Go Go.RowKit V
open Go.IntKind (i64 u32 u64)
section
set_option maxRecDepth 10000
set_option maxHeartbeats 1000000
theorem EZ:S1 prog 31 23 (.int .u32 0) 4:=S1.of (by kernel_rfl) (by kernel_rfl) rfl
theorem Bg:SN prog 31 23 (.int .u32 0) 1 4:=EZ.sn
theorem n9 {w:World}(x:Int)(k:Int)(hk: -31≤k∧k≤ -1):
 Calls prog 212 #[(.int .u32 x),(.int .i64 k)] w fun e w'=>∃v,e= .returned v∧v= .int .u32 (mF x (-k))∧Pu w w':=by
 refine jM _ _ ?_
 have hs:=Lz hk
 have hp:=Ch.refl (fun _=>False) w
 rintro _ rfl
 refine dM (by(rw [hs];omega)) (dM (by(rw [IntKind.wrap_u64];omega)) ?_)
 exact⟨congrArg (Value.int .u32) (by rw [hs];exact rot_eq hk),hp⟩
theorem iE {w:World}(wv:Int)(n:Int)(hn:1≤n∧n≤31):
 Calls prog 173 #[(.int .u32 wv),(.int .i64 n)] w fun e w'=>∃v,e= .returned v∧v= .int .u32 (mF wv n)∧Pu w w':=by
 refine vh _ _ ?_
 have e0:i64.wrap (0 - n)= -n:=by rw [aq (by omega)];omega
 have hp:=Ch.refl (fun _=>False) w
 refine Calls.mono (n9 _ _ (by rw [e0];omega)) ?_
 rintro e M5 ⟨_,rfl,rfl,Nb⟩
 refine⟨_,rfl,?_⟩
 have hp:=Ch.pu hp Nb
 exact⟨congrArg (Value.int .u32) (by rw [e0,Int.neg_neg]),hp⟩
theorem Cz {w:World}(blocka:Int)(blockb:Int)(blockc:Int)(blockd:Int)(blocke:Int)(blockf:Int)(blockg:Int)(blockh:Int)(blocki:Int)(blockj:Int)(blockk:Int)(blockl:Int)(blockm:Int)(blockn:Int)(blocko:Int)(blockp:Int):
 Calls prog 172 #[(.agg #[(.int .u32 blocka),(.int .u32 blockb),(.int .u32 blockc),(.int .u32 blockd),(.int .u32 blocke),(.int .u32 blockf),(.int .u32 blockg),(.int .u32 blockh),(.int .u32 blocki),(.int .u32 blockj),(.int .u32 blockk),(.int .u32 blockl),(.int .u32 blockm),(.int .u32 blockn),(.int .u32 blocko),(.int .u32 blockp)])] w fun e w'=>∃v,e= .returned v∧v= .agg (cu (av [blocka,blockb,blockc,blockd,blocke,blockf,blockg,blockh,blocki,blockj,blockk,blockl,blockm,blockn,blocko,blockp] 48))∧Pu w w':=by
 refine ph _ _ _ _ _ _ _ _ _ _ _ _ _ _ _ _ ?_
 obtain⟨bb,P1⟩:∃bb,bb= [blocka,blockb,blockc,blockd,blocke,blockf,blockg,blockh,blocki,blockj,blockk,blockl,blockm,blockn,blocko,blockp]:=⟨_,rfl⟩
 have hB:bb.length=16:=by rw [P1];rfl
 have hp:=Ch.refl (fun _=>False) w
 refine mkd fun gv wv Ng=>?_
 have M1:=Ng.blk
 have hp:=Ch.made hp Ng
 refine mkd fun Nd M5 NY=>?_
 have Wh:=NY.lo hp
 have WX:=NY.ne M1
 have M8:Blk M5 Nd (cu (List.replicate 64 0)) _:=NY.blk.cast (v5 _ _)
 have hp:=Ch.made hp NY
 have M1:=Made.old NY M1
 refine mkd fun NC M6 Of=>?_
 have QV:=Of.lo hp
 have PF:=Of.ne M1
 have ne_gv1_gv2:=Of.ne M8
 have M9:Blk M6 NC (cu (List.replicate 64 0)) _:=Of.blk.cast (v5 _ _)
 refine⟨bXU [] [] M6.drew (fun _=>False),?_⟩
 rintro _ rfl _ rfl _ rfl
 rintro _ rfl _ rfl _ rfl
 have M9:=Blk.drew M9
 have M1:=Blk.drew (Made.old Of M1)
 have M1:Blk M6.drew gv (cu [blocka,blockb,blockc,blockd,blocke,blockf,blockg,blockh,blocki,blockj,blockk,blockl,blockm,blockn,blocko,blockp]) _:=M1.cast (by rfl)
 refine F3 EZ M9 (o:=0) rfl (by(simp;done)) (de.MG (Z:=fun _=>True) M1 trivial rfl (by(simp;done)) (by(simp;done)) (by(simp;done))) (by(simp;done)) fun Na NR=>?_
 have M9:=NR.blk
 refine bXU.grow NR.ch ?_
 rintro _ rfl
 have hp:=Ch.call (Ch.drew (Ch.made hp Of)) NR.ch (by exact fun k e=>.inr (e▸QV))
 have M1:=Ch.blk NR.ch M1 (PF)
 have M8:=Ch.blk NR.ch (Blk.drew (Made.old Of M8)) (ne_gv1_gv2)
 refine⟨fun mz t1 W=>mz=(64 - t1).toNat∧(16≤t1∧t1≤64)∧Ch (fun _=>False) w W∧Blk W gv (cu ([blocka,blockb,blockc,blockd,blocke,blockf,blockg,blockh,blocki,blockj,blockk,blockl,blockm,blockn,blocko,blockp])) 193∧Blk W Nd (cu (List.replicate 64 0)) 240∧Blk W NC (cu (av bb (t1.toNat - 16))) 240,⟨_,rfl,(by omega),hp,M1,M8,M9.cast (congrArg cu (by subst P1;rfl))⟩,?_⟩
 rintro _ _ t1 Nc ⟨rfl,h0,hp,M1,M8,M9⟩
 refine ax (fun c1=>?_) (fun c1=>?_)
 ·refine⟨by(simp only [IntKind.wrap_i64];omega),?_⟩
  have M9:=Blk.drew M9
  refine⟨_,M9.qm (i:=(i64.wrap (t1 - 15))) (by(rw [cH hB];simp only [IntKind.wrap_i64];omega)),⟨by(simp only [IntKind.wrap_i64];omega),⟨_,M9.qm (i:=(i64.wrap (t1 - 2))) (by(rw [cH hB];simp only [IntKind.wrap_i64];omega)),?_⟩⟩⟩
  refine⟨bXU [4,17] [] Nc.drew.drew (fun _=>False),?_⟩
  have M9:=Blk.drew M9
  refine⟨by(simp only [IntKind.wrap_i64];omega),⟨.inr ⟨by decide,bX.ld M9 (fun h=>h) _⟩,_,M9.qm (i:=(i64.wrap (t1 - 16))) (by(rw [cH hB];simp only [IntKind.wrap_i64];omega)),⟨by(simp only [IntKind.wrap_i64];omega),⟨.inr ⟨by decide,bX.ld M9 (fun h=>h) _⟩,_,M9.qm (i:=(i64.wrap (t1 - 7))) (by(rw [cH hB];simp only [IntKind.wrap_i64];omega)),?_⟩⟩⟩⟩
  refine Calls.mono (iE _ _ (by omega)) ?_
  rintro e No ⟨_,rfl,rfl,Oa⟩
  refine⟨_,rfl,?_⟩
  refine bXU.gj Oa (by decide) ?_
  refine Calls.mono (iE _ _ (by omega)) ?_
  rintro e NU ⟨_,rfl,rfl,OX⟩
  refine⟨_,rfl,?_⟩
  refine bXU.gj OX (by decide) ?_
  refine Calls.mono (iE _ _ (by omega)) ?_
  rintro e NL ⟨_,rfl,rfl,Oe⟩
  refine⟨_,rfl,?_⟩
  refine bXU.gj Oe (by decide) ?_
  refine Calls.mono (iE _ _ (by omega)) ?_
  rintro e Nk ⟨_,rfl,rfl,N5⟩
  refine⟨_,rfl,?_⟩
  refine bXU.gj N5 (by decide) ?_
  have M9:=Pu.blk N5 (Pu.blk Oe (Pu.blk OX (Pu.blk Oa M9)))
  refine⟨by omega,zo M9 (by(rw [cH hB];omega)) fun OS Rx=>?_⟩
  have M9:=Rx.blk
  refine bXU.grow Rx.ch ?_
  rintro _ rfl
  have hp:=Ch.call (Ch.pu (Ch.pu (Ch.pu (Ch.pu (Ch.drew (Ch.drew hp)) Oa) OX) Oe) N5) Rx.ch (by exact fun k e=>.inr (e▸QV))
  have M1:=Ch.blk Rx.ch (Pu.blk N5 (Pu.blk Oe (Pu.blk OX (Pu.blk Oa (Blk.drew (Blk.drew M1)))))) (PF)
  have M8:=Ch.blk Rx.ch (Pu.blk N5 (Pu.blk Oe (Pu.blk OX (Pu.blk Oa (Blk.drew (Blk.drew M8)))))) (ne_gv1_gv2)
  exact⟨_,by rw [IntKind.wrap_i64];omega,rfl,by rw [IntKind.wrap_i64];omega,hp,M1,M8,M9.cast (congrArg cu (by exact vX (by omega)))⟩
 ·refine⟨cu (av bb (t1.toNat - 16)),M9.E5 (by(simp [cH hB];done)),⟨by rw [kW];(simp [cH hB];done),E4,ta M8 (by(simp [cH hB];done)) fun No QC=>?_⟩⟩
  have M8:=QC.blk
  refine⟨cu (av bb (t1.toNat - 16)),M8.E5 (by(simp [cH hB];done)),?_⟩
  have hp:=Ch.call hp QC.ch (by exact fun k e=>.inr (e▸Wh))
  exact⟨congrArg (fun l=>Value.agg (cu l)) (by have:t1=64:=(by omega);subst this;rw [← P1];rfl),hp⟩
theorem EY {K:List Int} {w:World}(hk:gz w 0 K)(statea:Int)(stateb:Int)(statec:Int)(stated:Int)(statee:Int)(statef:Int)(stateg:Int)(stateh:Int)(blocka:Int)(blockb:Int)(blockc:Int)(blockd:Int)(blocke:Int)(blockf:Int)(blockg:Int)(blockh:Int)(blocki:Int)(blockj:Int)(blockk:Int)(blockl:Int)(blockm:Int)(blockn:Int)(blocko:Int)(blockp:Int):
 Calls prog 114 #[(.agg #[(.int .u32 statea),(.int .u32 stateb),(.int .u32 statec),(.int .u32 stated),(.int .u32 statee),(.int .u32 statef),(.int .u32 stateg),(.int .u32 stateh)]),(.agg #[(.int .u32 blocka),(.int .u32 blockb),(.int .u32 blockc),(.int .u32 blockd),(.int .u32 blocke),(.int .u32 blockf),(.int .u32 blockg),(.int .u32 blockh),(.int .u32 blocki),(.int .u32 blockj),(.int .u32 blockk),(.int .u32 blockl),(.int .u32 blockm),(.int .u32 blockn),(.int .u32 blocko),(.int .u32 blockp)])] w fun e w'=>∃v,e= .returned v∧v= .agg #[(.int .u32 ((gR K (S8.mk statea stateb statec stated statee statef stateg stateh) [blocka,blockb,blockc,blockd,blocke,blockf,blockg,blockh,blocki,blockj,blockk,blockl,blockm,blockn,blocko,blockp]).a)),(.int .u32 ((gR K (S8.mk statea stateb statec stated statee statef stateg stateh) [blocka,blockb,blockc,blockd,blocke,blockf,blockg,blockh,blocki,blockj,blockk,blockl,blockm,blockn,blocko,blockp]).b)),(.int .u32 ((gR K (S8.mk statea stateb statec stated statee statef stateg stateh) [blocka,blockb,blockc,blockd,blocke,blockf,blockg,blockh,blocki,blockj,blockk,blockl,blockm,blockn,blocko,blockp]).c)),(.int .u32 ((gR K (S8.mk statea stateb statec stated statee statef stateg stateh) [blocka,blockb,blockc,blockd,blocke,blockf,blockg,blockh,blocki,blockj,blockk,blockl,blockm,blockn,blocko,blockp]).d)),(.int .u32 ((gR K (S8.mk statea stateb statec stated statee statef stateg stateh) [blocka,blockb,blockc,blockd,blocke,blockf,blockg,blockh,blocki,blockj,blockk,blockl,blockm,blockn,blocko,blockp]).e)),(.int .u32 ((gR K (S8.mk statea stateb statec stated statee statef stateg stateh) [blocka,blockb,blockc,blockd,blocke,blockf,blockg,blockh,blocki,blockj,blockk,blockl,blockm,blockn,blocko,blockp]).f)),(.int .u32 ((gR K (S8.mk statea stateb statec stated statee statef stateg stateh) [blocka,blockb,blockc,blockd,blocke,blockf,blockg,blockh,blocki,blockj,blockk,blockl,blockm,blockn,blocko,blockp]).g)),(.int .u32 ((gR K (S8.mk statea stateb statec stated statee statef stateg stateh) [blocka,blockb,blockc,blockd,blocke,blockf,blockg,blockh,blocki,blockj,blockk,blockl,blockm,blockn,blocko,blockp]).h))]∧Pu w w':=by
 refine vk _ _ _ _ _ _ _ _ _ _ _ _ _ _ _ _ _ _ _ _ _ _ _ _ ?_
 obtain⟨bb,P1⟩:∃bb,bb= [blocka,blockb,blockc,blockd,blocke,blockf,blockg,blockh,blocki,blockj,blockk,blockl,blockm,blockn,blocko,blockp]:=⟨_,rfl⟩
 have hB:bb.length=16:=by rw [P1];rfl
 obtain⟨ss,P5⟩:∃ss,ss=(S8.mk statea stateb statec stated statee statef stateg stateh):=⟨_,rfl⟩
 have hp:=Ch.refl (fun _=>False) w
 have OY:=hk.lt
 refine mkd fun gv wv Ng=>?_
 have M1:=Ng.blk
 refine mkd fun Nd M5 NY=>?_
 have M8:=NY.blk
 have hp:=Ch.made (Ch.made hp Ng) NY
 have M1:=Made.old NY M1
 refine mkd fun NC M6 Of=>?_
 have QV:=Of.lo hp
 have PF:=Of.ne M1
 have ne_gv1_gv2:=Of.ne M8
 have M9:=Of.blk
 have M1:=Made.old Of M1
 refine⟨_,_,_,_,_,_,_,_,⟨M1.at rfl,M1.at rfl,M1.at rfl,M1.at rfl,M1.at rfl,M1.at rfl,M1.at rfl,M1.at rfl⟩,?_⟩
 have hp:=Ch.made hp Of
 have M8:=Made.old Of M8
 refine mkd fun Nh Na Ot=>?_
 have Ns:=Ot.lo hp
 have Ny:=Ot.ne M1
 have ne_gv1_gv3:=Ot.ne M8
 have ne_gv2_gv3:=Ot.ne M9
 have M3:=Ot.blk
 refine dB M3 rfl fun Nc Nv=>?_
 have M3:=Nv.blk
 have M8:=Ch.blk Nv.ch (Made.old Ot M8) (ne_gv1_gv3)
 refine⟨_,_,_,_,_,_,_,_,_,_,_,_,_,_,_,_,⟨M8.at rfl,M8.at rfl,M8.at rfl,M8.at rfl,M8.at rfl,M8.at rfl,M8.at rfl,M8.at rfl,M8.at rfl,M8.at rfl,M8.at rfl,M8.at rfl,M8.at rfl,M8.at rfl,M8.at rfl,M8.at rfl⟩,?_⟩
 refine Calls.mono (Cz _ _ _ _ _ _ _ _ _ _ _ _ _ _ _ _) ?_
 rintro e No ⟨_,rfl,rfl,Oa⟩
 refine⟨_,rfl,?_⟩
 have hp:=Ch.pu (Ch.call (Ch.made hp Ot) Nv.ch (by exact fun k e=>.inr (e▸Ns))) Oa
 have hk:=(((((hk.pu Ng.pu).pu NY.pu).pu Of.pu).pu Ot.pu).ch Nv.ch (fun k hx e=>(fun hx=>absurd (OY _ hx) (Nat.not_lt.2 Ns)) (e▸hx))).pu Oa
 have M1:=Pu.blk Oa (Ch.blk Nv.ch (Made.old Ot M1) (Ny))
 have M8:=Pu.blk Oa M8
 have M9:=Pu.blk Oa (Ch.blk Nv.ch (Made.old Ot M9) (ne_gv2_gv3))
 have M3:=Pu.blk Oa M3
 refine⟨fun mz OB W=>mz=(64 - OB).toNat∧(0≤OB∧OB≤64)∧Ch (fun _=>False) w W∧gz W 0 K∧Blk W gv #[(.int .u32 statea),(.int .u32 stateb),(.int .u32 statec),(.int .u32 stated),(.int .u32 statee),(.int .u32 statef),(.int .u32 stateg),(.int .u32 stateh)] 24∧Blk W Nd #[(.int .u32 blocka),(.int .u32 blockb),(.int .u32 blockc),(.int .u32 blockd),(.int .u32 blocke),(.int .u32 blockf),(.int .u32 blockg),(.int .u32 blockh),(.int .u32 blocki),(.int .u32 blockj),(.int .u32 blockk),(.int .u32 blockl),(.int .u32 blockm),(.int .u32 blockn),(.int .u32 blocko),(.int .u32 blockp)] 193∧Blk W NC #[(.int .u32 0),(.int .u32 0),(.int .u32 0),(.int .u32 0),(.int .u32 0),(.int .u32 0),(.int .u32 0),(.int .u32 0)] 24∧Blk W Nh #[(.int .u32 ((aJ K (av bb 48) ss OB.toNat).a)),(.int .u32 ((aJ K (av bb 48) ss OB.toNat).b)),(.int .u32 ((aJ K (av bb 48) ss OB.toNat).c)),(.int .u32 ((aJ K (av bb 48) ss OB.toNat).d)),(.int .u32 ((aJ K (av bb 48) ss OB.toNat).e)),(.int .u32 ((aJ K (av bb 48) ss OB.toNat).f)),(.int .u32 ((aJ K (av bb 48) ss OB.toNat).g)),(.int .u32 ((aJ K (av bb 48) ss OB.toNat).h))] 24,⟨_,rfl,(by omega),hp,hk,M1,M8,M9,M3.cast (IF (congrArg (Value.int .u32) (by subst P5;rfl)) (congrArg (Value.int .u32) (by subst P5;rfl)) (congrArg (Value.int .u32) (by subst P5;rfl)) (congrArg (Value.int .u32) (by subst P5;rfl)) (congrArg (Value.int .u32) (by subst P5;rfl)) (congrArg (Value.int .u32) (by subst P5;rfl)) (congrArg (Value.int .u32) (by subst P5;rfl)) (congrArg (Value.int .u32) (by subst P5;rfl)))⟩,?_⟩
 rintro _ _ OB NU ⟨rfl,h0,hp,hk,M1,M8,M9,M3⟩
 refine ax (fun c1=>?_) (fun c1=>?_)
 ·refine⟨by omega,⟨_,v7 (l:=(av [blocka,blockb,blockc,blockd,blocke,blockf,blockg,blockh,blocki,blockj,blockk,blockl,blockm,blockn,blocko,blockp] 48)) (i:=OB) (by(rw [cH rfl];omega)),⟨by decide,?_⟩⟩⟩
  have M3:=Blk.drew M3
  refine⟨_,M3.at rfl,⟨by decide,⟨_,M3.at rfl,?_⟩⟩⟩
  refine⟨bXU [1,13,18,24] [] NU.drew.drew (fun _=>False),?_⟩
  have M3:=Blk.drew M3
  have hk:=(hk.pu (Pu.aY _)).pu (Pu.aY _)
  obtain⟨_,drow_hk⟩:=hk.blk
  refine⟨by decide,⟨.inr ⟨by decide,bX.ld M3 (fun h=>h) _⟩,_,M3.at rfl,⟨by decide,⟨.inr ⟨by decide,bX.ld M3 (fun h=>h) _⟩,_,M3.at rfl,⟨by decide,⟨.inr ⟨by decide,bX.ld M3 (fun h=>h) _⟩,_,M3.at rfl,⟨by omega,⟨.inr ⟨by decide,bX.ld drow_hk (fun h=>h) _⟩,_,drow_hk.qm (i:=OB) (by(have h9:=hk.len;omega)),?_⟩⟩⟩⟩⟩⟩⟩⟩
  refine Calls.mono (iE _ _ (by omega)) ?_
  rintro e NL ⟨_,rfl,rfl,Oe⟩
  refine⟨_,rfl,?_⟩
  refine bXU.gj Oe (by decide) ?_
  refine Calls.mono (iE _ _ (by omega)) ?_
  rintro e Nk ⟨_,rfl,rfl,N5⟩
  refine⟨_,rfl,?_⟩
  refine bXU.gj N5 (by decide) ?_
  refine Calls.mono (iE _ _ (by omega)) ?_
  rintro e OS ⟨_,rfl,rfl,O9⟩
  refine⟨_,rfl,?_⟩
  refine bXU.gj O9 (by decide) ?_
  rintro _ rfl
  refine⟨bXU [10,14,18,20] [] OS.drew (fun _=>False),?_⟩
  have M3:=Blk.drew (Pu.blk O9 (Pu.blk N5 (Pu.blk Oe M3)))
  refine⟨by decide,⟨.inr ⟨by decide,bX.ld M3 (fun h=>h) _⟩,_,M3.at rfl,⟨by decide,⟨.inr ⟨by decide,bX.ld M3 (fun h=>h) _⟩,_,M3.at rfl,⟨by decide,⟨.inr ⟨by decide,bX.ld M3 (fun h=>h) _⟩,_,M3.at rfl,⟨by decide,⟨.inr ⟨by decide,bX.ld M3 (fun h=>h) _⟩,_,M3.at rfl,?_⟩⟩⟩⟩⟩⟩⟩⟩
  refine Calls.mono (iE _ _ (by omega)) ?_
  rintro e PD ⟨_,rfl,rfl,Pj⟩
  refine⟨_,rfl,?_⟩
  refine bXU.gj Pj (by decide) ?_
  refine Calls.mono (iE _ _ (by omega)) ?_
  rintro e QT ⟨_,rfl,rfl,Ph⟩
  refine⟨_,rfl,?_⟩
  refine bXU.gj Ph (by decide) ?_
  refine Calls.mono (iE _ _ (by omega)) ?_
  rintro e Qw ⟨_,rfl,rfl,Pg⟩
  refine⟨_,rfl,?_⟩
  refine bXU.gj Pg (by decide) ?_
  rintro _ rfl
  have M3:=Pu.blk Pg (Pu.blk Ph (Pu.blk Pj M3))
  refine⟨by decide,⟨_,M3.at rfl,⟨by decide,⟨_,M3.at rfl,⟨by decide,⟨_,M3.at rfl,⟨by decide,⟨_,M3.at rfl,⟨by decide,⟨_,M3.at rfl,⟨by decide,⟨_,M3.at rfl,⟨by decide,⟨_,M3.at rfl,dB M3 rfl fun aaJ PE=>?_⟩⟩⟩⟩⟩⟩⟩⟩⟩⟩⟩⟩⟩⟩
  have M3:=PE.blk
  have hp:=Ch.call (Ch.pu (Ch.pu (Ch.pu (Ch.drew (Ch.pu (Ch.pu (Ch.pu (Ch.drew (Ch.drew hp)) Oe) N5) O9)) Pj) Ph) Pg) PE.ch (by exact fun k e=>.inr (e▸Ns))
  have hk:=(((((((hk.pu Oe).pu N5).pu O9).pu (Pu.aY _)).pu Pj).pu Ph).pu Pg).ch PE.ch (fun k hx e=>(fun hx=>absurd (OY _ hx) (Nat.not_lt.2 Ns)) (e▸hx))
  have M1:=Ch.blk PE.ch (Pu.blk Pg (Pu.blk Ph (Pu.blk Pj (Blk.drew (Pu.blk O9 (Pu.blk N5 (Pu.blk Oe (Blk.drew (Blk.drew M1))))))))) (Ny)
  have M8:=Ch.blk PE.ch (Pu.blk Pg (Pu.blk Ph (Pu.blk Pj (Blk.drew (Pu.blk O9 (Pu.blk N5 (Pu.blk Oe (Blk.drew (Blk.drew M8))))))))) (ne_gv1_gv3)
  have M9:=Ch.blk PE.ch (Pu.blk Pg (Pu.blk Ph (Pu.blk Pj (Blk.drew (Pu.blk O9 (Pu.blk N5 (Pu.blk Oe (Blk.drew (Blk.drew M9))))))))) (ne_gv2_gv3)
  exact⟨_,by rw [IntKind.wrap_i64];omega,rfl,by rw [IntKind.wrap_i64];omega,hp,hk,M1,M8,M9,M3.cast (IF (congrArg (Value.int .u32) (by rw [eP (by omega),P1];rfl)) (congrArg (Value.int .u32) (by rw [eP (by omega),P1];rfl)) (congrArg (Value.int .u32) (by rw [eP (by omega),P1];rfl)) (congrArg (Value.int .u32) (by rw [eP (by omega),P1];rfl)) (congrArg (Value.int .u32) (by rw [eP (by omega),P1];rfl)) (congrArg (Value.int .u32) (by rw [eP (by omega),P1];rfl)) (congrArg (Value.int .u32) (by rw [eP (by omega),P1];rfl)) (congrArg (Value.int .u32) (by rw [eP (by omega),P1];rfl)))⟩
 ·have e64:OB.toNat=64:=by omega
  rw [e64]at M3
  refine⟨fun mz PS W=>Ch (fun _=>False) w W∧gz W 0 K∧(∃T,Blk W gv #[(.int .u32 statea),(.int .u32 stateb),(.int .u32 statec),(.int .u32 stated),(.int .u32 statee),(.int .u32 statef),(.int .u32 stateg),(.int .u32 stateh)] T)∧(∃T,Blk W Nd #[(.int .u32 blocka),(.int .u32 blockb),(.int .u32 blockc),(.int .u32 blockd),(.int .u32 blocke),(.int .u32 blockf),(.int .u32 blockg),(.int .u32 blockh),(.int .u32 blocki),(.int .u32 blockj),(.int .u32 blockk),(.int .u32 blockl),(.int .u32 blockm),(.int .u32 blockn),(.int .u32 blocko),(.int .u32 blockp)] T)∧(∃T,Blk W NC #[(.int .u32 0),(.int .u32 0),(.int .u32 0),(.int .u32 0),(.int .u32 0),(.int .u32 0),(.int .u32 0),(.int .u32 0)] T)∧((mz=8∧PS=0∧(∃T,Blk W Nh #[(.int .u32 ((aJ K (av bb 48) ss 64).a)),(.int .u32 ((aJ K (av bb 48) ss 64).b)),(.int .u32 ((aJ K (av bb 48) ss 64).c)),(.int .u32 ((aJ K (av bb 48) ss 64).d)),(.int .u32 ((aJ K (av bb 48) ss 64).e)),(.int .u32 ((aJ K (av bb 48) ss 64).f)),(.int .u32 ((aJ K (av bb 48) ss 64).g)),(.int .u32 ((aJ K (av bb 48) ss 64).h))] T))∨(mz=7∧PS=1∧(∃T,Blk W Nh #[(.int .u32 (bz (aJ K (av bb 48) ss 64).a statea)),(.int .u32 ((aJ K (av bb 48) ss 64).b)),(.int .u32 ((aJ K (av bb 48) ss 64).c)),(.int .u32 ((aJ K (av bb 48) ss 64).d)),(.int .u32 ((aJ K (av bb 48) ss 64).e)),(.int .u32 ((aJ K (av bb 48) ss 64).f)),(.int .u32 ((aJ K (av bb 48) ss 64).g)),(.int .u32 ((aJ K (av bb 48) ss 64).h))] T))∨(mz=6∧PS=2∧(∃T,Blk W Nh #[(.int .u32 (bz (aJ K (av bb 48) ss 64).a statea)),(.int .u32 (bz (aJ K (av bb 48) ss 64).b stateb)),(.int .u32 ((aJ K (av bb 48) ss 64).c)),(.int .u32 ((aJ K (av bb 48) ss 64).d)),(.int .u32 ((aJ K (av bb 48) ss 64).e)),(.int .u32 ((aJ K (av bb 48) ss 64).f)),(.int .u32 ((aJ K (av bb 48) ss 64).g)),(.int .u32 ((aJ K (av bb 48) ss 64).h))] T))∨(mz=5∧PS=3∧(∃T,Blk W Nh #[(.int .u32 (bz (aJ K (av bb 48) ss 64).a statea)),(.int .u32 (bz (aJ K (av bb 48) ss 64).b stateb)),(.int .u32 (bz (aJ K (av bb 48) ss 64).c statec)),(.int .u32 ((aJ K (av bb 48) ss 64).d)),(.int .u32 ((aJ K (av bb 48) ss 64).e)),(.int .u32 ((aJ K (av bb 48) ss 64).f)),(.int .u32 ((aJ K (av bb 48) ss 64).g)),(.int .u32 ((aJ K (av bb 48) ss 64).h))] T))∨(mz=4∧PS=4∧(∃T,Blk W Nh #[(.int .u32 (bz (aJ K (av bb 48) ss 64).a statea)),(.int .u32 (bz (aJ K (av bb 48) ss 64).b stateb)),(.int .u32 (bz (aJ K (av bb 48) ss 64).c statec)),(.int .u32 (bz (aJ K (av bb 48) ss 64).d stated)),(.int .u32 ((aJ K (av bb 48) ss 64).e)),(.int .u32 ((aJ K (av bb 48) ss 64).f)),(.int .u32 ((aJ K (av bb 48) ss 64).g)),(.int .u32 ((aJ K (av bb 48) ss 64).h))] T))∨(mz=3∧PS=5∧(∃T,Blk W Nh #[(.int .u32 (bz (aJ K (av bb 48) ss 64).a statea)),(.int .u32 (bz (aJ K (av bb 48) ss 64).b stateb)),(.int .u32 (bz (aJ K (av bb 48) ss 64).c statec)),(.int .u32 (bz (aJ K (av bb 48) ss 64).d stated)),(.int .u32 (bz (aJ K (av bb 48) ss 64).e statee)),(.int .u32 ((aJ K (av bb 48) ss 64).f)),(.int .u32 ((aJ K (av bb 48) ss 64).g)),(.int .u32 ((aJ K (av bb 48) ss 64).h))] T))∨(mz=2∧PS=6∧(∃T,Blk W Nh #[(.int .u32 (bz (aJ K (av bb 48) ss 64).a statea)),(.int .u32 (bz (aJ K (av bb 48) ss 64).b stateb)),(.int .u32 (bz (aJ K (av bb 48) ss 64).c statec)),(.int .u32 (bz (aJ K (av bb 48) ss 64).d stated)),(.int .u32 (bz (aJ K (av bb 48) ss 64).e statee)),(.int .u32 (bz (aJ K (av bb 48) ss 64).f statef)),(.int .u32 ((aJ K (av bb 48) ss 64).g)),(.int .u32 ((aJ K (av bb 48) ss 64).h))] T))∨(mz=1∧PS=7∧(∃T,Blk W Nh #[(.int .u32 (bz (aJ K (av bb 48) ss 64).a statea)),(.int .u32 (bz (aJ K (av bb 48) ss 64).b stateb)),(.int .u32 (bz (aJ K (av bb 48) ss 64).c statec)),(.int .u32 (bz (aJ K (av bb 48) ss 64).d stated)),(.int .u32 (bz (aJ K (av bb 48) ss 64).e statee)),(.int .u32 (bz (aJ K (av bb 48) ss 64).f statef)),(.int .u32 (bz (aJ K (av bb 48) ss 64).g stateg)),(.int .u32 ((aJ K (av bb 48) ss 64).h))] T))∨(mz=0∧PS=8∧(∃T,Blk W Nh #[(.int .u32 (bz (aJ K (av bb 48) ss 64).a statea)),(.int .u32 (bz (aJ K (av bb 48) ss 64).b stateb)),(.int .u32 (bz (aJ K (av bb 48) ss 64).c statec)),(.int .u32 (bz (aJ K (av bb 48) ss 64).d stated)),(.int .u32 (bz (aJ K (av bb 48) ss 64).e statee)),(.int .u32 (bz (aJ K (av bb 48) ss 64).f statef)),(.int .u32 (bz (aJ K (av bb 48) ss 64).g stateg)),(.int .u32 (bz (aJ K (av bb 48) ss 64).h stateh))] T))),⟨_,hp,hk,⟨_,M1⟩,⟨_,M8⟩,⟨_,M9⟩,.inl ⟨rfl,rfl,⟨_,M3⟩⟩⟩,?_⟩
  rintro _ _ PS NL ⟨hp,hk,⟨_,M1⟩,⟨_,M8⟩,⟨_,M9⟩,hU⟩
  rcases hU with⟨rfl,rfl,⟨_,M3⟩⟩ | ⟨rfl,rfl,⟨_,M3⟩⟩ | ⟨rfl,rfl,⟨_,M3⟩⟩ | ⟨rfl,rfl,⟨_,M3⟩⟩ | ⟨rfl,rfl,⟨_,M3⟩⟩ | ⟨rfl,rfl,⟨_,M3⟩⟩ | ⟨rfl,rfl,⟨_,M3⟩⟩ | ⟨rfl,rfl,⟨_,M3⟩⟩ | ⟨rfl,rfl,⟨_,M3⟩⟩
  ·refine dH ?_
   refine⟨bXU [] [2,5] NL.drew (fun _=>False),?_⟩
   have M3:=Blk.drew M3
   have M1:=Blk.drew M1
   refine⟨by decide,⟨.inl (by decide),_,M3.at rfl,⟨by decide,⟨.inl (by decide),_,M1.at rfl,⟨by decide,bx M3 (by simp) fun Nk M4=>?_⟩⟩⟩⟩⟩
   have M3:Blk Nk Nh #[_,(.int .u32 ((aJ K (av bb 48) ss 64).b)),(.int .u32 ((aJ K (av bb 48) ss 64).c)),(.int .u32 ((aJ K (av bb 48) ss 64).d)),(.int .u32 ((aJ K (av bb 48) ss 64).e)),(.int .u32 ((aJ K (av bb 48) ss 64).f)),(.int .u32 ((aJ K (av bb 48) ss 64).g)),(.int .u32 ((aJ K (av bb 48) ss 64).h))] _:=M4.blk
   refine bXU.grow M4.ch ?_
   have hp:=Ch.call (Ch.drew hp) M4.ch (by exact fun k e=>.inr (e▸Ns))
   have hk:=(hk.pu (Pu.aY _)).ch M4.ch (fun k hx e=>(fun hx=>absurd (OY _ hx) (Nat.not_lt.2 Ns)) (e▸hx))
   have M1:=Ch.blk M4.ch M1 (Ny)
   have M8:=Ch.blk M4.ch (Blk.drew M8) (ne_gv1_gv3)
   have M9:=Ch.blk M4.ch (Blk.drew M9) (ne_gv2_gv3)
   exact⟨7,by decide,hp,hk,⟨_,M1⟩,⟨_,M8⟩,⟨_,M9⟩,.inr (.inl ⟨rfl,rfl,⟨_,M3⟩⟩)⟩
  ·refine dH ?_
   refine⟨bXU [] [2,5] NL.drew (fun _=>False),?_⟩
   have M3:=Blk.drew M3
   have M1:=Blk.drew M1
   refine⟨by decide,⟨.inl (by decide),_,M3.at rfl,⟨by decide,⟨.inl (by decide),_,M1.at rfl,⟨by decide,bx M3 (by simp) fun Nk M4=>?_⟩⟩⟩⟩⟩
   have M3:Blk Nk Nh #[(.int .u32 (bz (aJ K (av bb 48) ss 64).a statea)),_,(.int .u32 ((aJ K (av bb 48) ss 64).c)),(.int .u32 ((aJ K (av bb 48) ss 64).d)),(.int .u32 ((aJ K (av bb 48) ss 64).e)),(.int .u32 ((aJ K (av bb 48) ss 64).f)),(.int .u32 ((aJ K (av bb 48) ss 64).g)),(.int .u32 ((aJ K (av bb 48) ss 64).h))] _:=M4.blk
   refine bXU.grow M4.ch ?_
   have hp:=Ch.call (Ch.drew hp) M4.ch (by exact fun k e=>.inr (e▸Ns))
   have hk:=(hk.pu (Pu.aY _)).ch M4.ch (fun k hx e=>(fun hx=>absurd (OY _ hx) (Nat.not_lt.2 Ns)) (e▸hx))
   have M1:=Ch.blk M4.ch M1 (Ny)
   have M8:=Ch.blk M4.ch (Blk.drew M8) (ne_gv1_gv3)
   have M9:=Ch.blk M4.ch (Blk.drew M9) (ne_gv2_gv3)
   exact⟨6,by decide,hp,hk,⟨_,M1⟩,⟨_,M8⟩,⟨_,M9⟩,.inr (.inr (.inl ⟨rfl,rfl,⟨_,M3⟩⟩))⟩
  ·refine dH ?_
   refine⟨bXU [] [2,5] NL.drew (fun _=>False),?_⟩
   have M3:=Blk.drew M3
   have M1:=Blk.drew M1
   refine⟨by decide,⟨.inl (by decide),_,M3.at rfl,⟨by decide,⟨.inl (by decide),_,M1.at rfl,⟨by decide,bx M3 (by simp) fun Nk M4=>?_⟩⟩⟩⟩⟩
   have M3:Blk Nk Nh #[(.int .u32 (bz (aJ K (av bb 48) ss 64).a statea)),(.int .u32 (bz (aJ K (av bb 48) ss 64).b stateb)),_,(.int .u32 ((aJ K (av bb 48) ss 64).d)),(.int .u32 ((aJ K (av bb 48) ss 64).e)),(.int .u32 ((aJ K (av bb 48) ss 64).f)),(.int .u32 ((aJ K (av bb 48) ss 64).g)),(.int .u32 ((aJ K (av bb 48) ss 64).h))] _:=M4.blk
   refine bXU.grow M4.ch ?_
   have hp:=Ch.call (Ch.drew hp) M4.ch (by exact fun k e=>.inr (e▸Ns))
   have hk:=(hk.pu (Pu.aY _)).ch M4.ch (fun k hx e=>(fun hx=>absurd (OY _ hx) (Nat.not_lt.2 Ns)) (e▸hx))
   have M1:=Ch.blk M4.ch M1 (Ny)
   have M8:=Ch.blk M4.ch (Blk.drew M8) (ne_gv1_gv3)
   have M9:=Ch.blk M4.ch (Blk.drew M9) (ne_gv2_gv3)
   exact⟨5,by decide,hp,hk,⟨_,M1⟩,⟨_,M8⟩,⟨_,M9⟩,.inr (.inr (.inr (.inl ⟨rfl,rfl,⟨_,M3⟩⟩)))⟩
  ·refine dH ?_
   refine⟨bXU [] [2,5] NL.drew (fun _=>False),?_⟩
   have M3:=Blk.drew M3
   have M1:=Blk.drew M1
   refine⟨by decide,⟨.inl (by decide),_,M3.at rfl,⟨by decide,⟨.inl (by decide),_,M1.at rfl,⟨by decide,bx M3 (by simp) fun Nk M4=>?_⟩⟩⟩⟩⟩
   have M3:Blk Nk Nh #[(.int .u32 (bz (aJ K (av bb 48) ss 64).a statea)),(.int .u32 (bz (aJ K (av bb 48) ss 64).b stateb)),(.int .u32 (bz (aJ K (av bb 48) ss 64).c statec)),_,(.int .u32 ((aJ K (av bb 48) ss 64).e)),(.int .u32 ((aJ K (av bb 48) ss 64).f)),(.int .u32 ((aJ K (av bb 48) ss 64).g)),(.int .u32 ((aJ K (av bb 48) ss 64).h))] _:=M4.blk
   refine bXU.grow M4.ch ?_
   have hp:=Ch.call (Ch.drew hp) M4.ch (by exact fun k e=>.inr (e▸Ns))
   have hk:=(hk.pu (Pu.aY _)).ch M4.ch (fun k hx e=>(fun hx=>absurd (OY _ hx) (Nat.not_lt.2 Ns)) (e▸hx))
   have M1:=Ch.blk M4.ch M1 (Ny)
   have M8:=Ch.blk M4.ch (Blk.drew M8) (ne_gv1_gv3)
   have M9:=Ch.blk M4.ch (Blk.drew M9) (ne_gv2_gv3)
   exact⟨4,by decide,hp,hk,⟨_,M1⟩,⟨_,M8⟩,⟨_,M9⟩,.inr (.inr (.inr (.inr (.inl ⟨rfl,rfl,⟨_,M3⟩⟩))))⟩
  ·refine dH ?_
   refine⟨bXU [] [2,5] NL.drew (fun _=>False),?_⟩
   have M3:=Blk.drew M3
   have M1:=Blk.drew M1
   refine⟨by decide,⟨.inl (by decide),_,M3.at rfl,⟨by decide,⟨.inl (by decide),_,M1.at rfl,⟨by decide,bx M3 (by simp) fun Nk M4=>?_⟩⟩⟩⟩⟩
   have M3:Blk Nk Nh #[(.int .u32 (bz (aJ K (av bb 48) ss 64).a statea)),(.int .u32 (bz (aJ K (av bb 48) ss 64).b stateb)),(.int .u32 (bz (aJ K (av bb 48) ss 64).c statec)),(.int .u32 (bz (aJ K (av bb 48) ss 64).d stated)),_,(.int .u32 ((aJ K (av bb 48) ss 64).f)),(.int .u32 ((aJ K (av bb 48) ss 64).g)),(.int .u32 ((aJ K (av bb 48) ss 64).h))] _:=M4.blk
   refine bXU.grow M4.ch ?_
   have hp:=Ch.call (Ch.drew hp) M4.ch (by exact fun k e=>.inr (e▸Ns))
   have hk:=(hk.pu (Pu.aY _)).ch M4.ch (fun k hx e=>(fun hx=>absurd (OY _ hx) (Nat.not_lt.2 Ns)) (e▸hx))
   have M1:=Ch.blk M4.ch M1 (Ny)
   have M8:=Ch.blk M4.ch (Blk.drew M8) (ne_gv1_gv3)
   have M9:=Ch.blk M4.ch (Blk.drew M9) (ne_gv2_gv3)
   exact⟨3,by decide,hp,hk,⟨_,M1⟩,⟨_,M8⟩,⟨_,M9⟩,.inr (.inr (.inr (.inr (.inr (.inl ⟨rfl,rfl,⟨_,M3⟩⟩)))))⟩
  ·refine dH ?_
   refine⟨bXU [] [2,5] NL.drew (fun _=>False),?_⟩
   have M3:=Blk.drew M3
   have M1:=Blk.drew M1
   refine⟨by decide,⟨.inl (by decide),_,M3.at rfl,⟨by decide,⟨.inl (by decide),_,M1.at rfl,⟨by decide,bx M3 (by simp) fun Nk M4=>?_⟩⟩⟩⟩⟩
   have M3:Blk Nk Nh #[(.int .u32 (bz (aJ K (av bb 48) ss 64).a statea)),(.int .u32 (bz (aJ K (av bb 48) ss 64).b stateb)),(.int .u32 (bz (aJ K (av bb 48) ss 64).c statec)),(.int .u32 (bz (aJ K (av bb 48) ss 64).d stated)),(.int .u32 (bz (aJ K (av bb 48) ss 64).e statee)),_,(.int .u32 ((aJ K (av bb 48) ss 64).g)),(.int .u32 ((aJ K (av bb 48) ss 64).h))] _:=M4.blk
   refine bXU.grow M4.ch ?_
   have hp:=Ch.call (Ch.drew hp) M4.ch (by exact fun k e=>.inr (e▸Ns))
   have hk:=(hk.pu (Pu.aY _)).ch M4.ch (fun k hx e=>(fun hx=>absurd (OY _ hx) (Nat.not_lt.2 Ns)) (e▸hx))
   have M1:=Ch.blk M4.ch M1 (Ny)
   have M8:=Ch.blk M4.ch (Blk.drew M8) (ne_gv1_gv3)
   have M9:=Ch.blk M4.ch (Blk.drew M9) (ne_gv2_gv3)
   exact⟨2,by decide,hp,hk,⟨_,M1⟩,⟨_,M8⟩,⟨_,M9⟩,.inr (.inr (.inr (.inr (.inr (.inr (.inl ⟨rfl,rfl,⟨_,M3⟩⟩))))))⟩
  ·refine dH ?_
   refine⟨bXU [] [2,5] NL.drew (fun _=>False),?_⟩
   have M3:=Blk.drew M3
   have M1:=Blk.drew M1
   refine⟨by decide,⟨.inl (by decide),_,M3.at rfl,⟨by decide,⟨.inl (by decide),_,M1.at rfl,⟨by decide,bx M3 (by simp) fun Nk M4=>?_⟩⟩⟩⟩⟩
   have M3:Blk Nk Nh #[(.int .u32 (bz (aJ K (av bb 48) ss 64).a statea)),(.int .u32 (bz (aJ K (av bb 48) ss 64).b stateb)),(.int .u32 (bz (aJ K (av bb 48) ss 64).c statec)),(.int .u32 (bz (aJ K (av bb 48) ss 64).d stated)),(.int .u32 (bz (aJ K (av bb 48) ss 64).e statee)),(.int .u32 (bz (aJ K (av bb 48) ss 64).f statef)),_,(.int .u32 ((aJ K (av bb 48) ss 64).h))] _:=M4.blk
   refine bXU.grow M4.ch ?_
   have hp:=Ch.call (Ch.drew hp) M4.ch (by exact fun k e=>.inr (e▸Ns))
   have hk:=(hk.pu (Pu.aY _)).ch M4.ch (fun k hx e=>(fun hx=>absurd (OY _ hx) (Nat.not_lt.2 Ns)) (e▸hx))
   have M1:=Ch.blk M4.ch M1 (Ny)
   have M8:=Ch.blk M4.ch (Blk.drew M8) (ne_gv1_gv3)
   have M9:=Ch.blk M4.ch (Blk.drew M9) (ne_gv2_gv3)
   exact⟨1,by decide,hp,hk,⟨_,M1⟩,⟨_,M8⟩,⟨_,M9⟩,.inr (.inr (.inr (.inr (.inr (.inr (.inr (.inl ⟨rfl,rfl,⟨_,M3⟩⟩)))))))⟩
  ·refine dH ?_
   refine⟨bXU [] [2,5] NL.drew (fun _=>False),?_⟩
   have M3:=Blk.drew M3
   have M1:=Blk.drew M1
   refine⟨by decide,⟨.inl (by decide),_,M3.at rfl,⟨by decide,⟨.inl (by decide),_,M1.at rfl,⟨by decide,bx M3 (by simp) fun Nk M4=>?_⟩⟩⟩⟩⟩
   have M3:Blk Nk Nh #[(.int .u32 (bz (aJ K (av bb 48) ss 64).a statea)),(.int .u32 (bz (aJ K (av bb 48) ss 64).b stateb)),(.int .u32 (bz (aJ K (av bb 48) ss 64).c statec)),(.int .u32 (bz (aJ K (av bb 48) ss 64).d stated)),(.int .u32 (bz (aJ K (av bb 48) ss 64).e statee)),(.int .u32 (bz (aJ K (av bb 48) ss 64).f statef)),(.int .u32 (bz (aJ K (av bb 48) ss 64).g stateg)),_] _:=M4.blk
   refine bXU.grow M4.ch ?_
   have hp:=Ch.call (Ch.drew hp) M4.ch (by exact fun k e=>.inr (e▸Ns))
   have hk:=(hk.pu (Pu.aY _)).ch M4.ch (fun k hx e=>(fun hx=>absurd (OY _ hx) (Nat.not_lt.2 Ns)) (e▸hx))
   have M1:=Ch.blk M4.ch M1 (Ny)
   have M8:=Ch.blk M4.ch (Blk.drew M8) (ne_gv1_gv3)
   have M9:=Ch.blk M4.ch (Blk.drew M9) (ne_gv2_gv3)
   exact⟨0,by decide,hp,hk,⟨_,M1⟩,⟨_,M8⟩,⟨_,M9⟩,.inr (.inr (.inr (.inr (.inr (.inr (.inr (.inr (⟨rfl,rfl,⟨_,M3⟩⟩))))))))⟩
  ·refine eV ⟨_,_,_,_,_,_,_,_,⟨M3.at rfl,M3.at rfl,M3.at rfl,M3.at rfl,M3.at rfl,M3.at rfl,M3.at rfl,M3.at rfl⟩,dB M9 rfl fun Nk M4=>?_⟩
   have M9:=M4.blk
   refine⟨_,_,_,_,_,_,_,_,⟨M9.at rfl,M9.at rfl,M9.at rfl,M9.at rfl,M9.at rfl,M9.at rfl,M9.at rfl,M9.at rfl⟩,?_⟩
   have hp:=Ch.call hp M4.ch (by exact fun k e=>.inr (e▸QV))
   exact⟨congrArg Value.agg (IF (congrArg (Value.int .u32) (by rw [← P1,← P5];subst P5;rfl)) (congrArg (Value.int .u32) (by rw [← P1,← P5];subst P5;rfl)) (congrArg (Value.int .u32) (by rw [← P1,← P5];subst P5;rfl)) (congrArg (Value.int .u32) (by rw [← P1,← P5];subst P5;rfl)) (congrArg (Value.int .u32) (by rw [← P1,← P5];subst P5;rfl)) (congrArg (Value.int .u32) (by rw [← P1,← P5];subst P5;rfl)) (congrArg (Value.int .u32) (by rw [← P1,← P5];subst P5;rfl)) (congrArg (Value.int .u32) (by rw [← P1,← P5];subst P5;rfl))),hp⟩
theorem EX {w:World}:
 Calls prog 148 #[] w fun e w'=>∃v,e= .returned v∧v= .agg #[(.int .u32 S8.first.a),(.int .u32 S8.first.b),(.int .u32 S8.first.c),(.int .u32 S8.first.d),(.int .u32 S8.first.e),(.int .u32 S8.first.f),(.int .u32 S8.first.g),(.int .u32 S8.first.h)]∧Pu w w':=by
 refine vj ?_
 have hp:=Ch.refl (fun _=>False) w
 refine mkd fun gv wv Ng=>?_
 have Nx:=Ng.lo hp
 have M1:=Ng.blk
 refine dB M1 rfl fun M5 Ry=>?_
 have M1:=Ry.blk
 refine⟨_,_,_,_,_,_,_,_,⟨M1.at rfl,M1.at rfl,M1.at rfl,M1.at rfl,M1.at rfl,M1.at rfl,M1.at rfl,M1.at rfl⟩,?_⟩
 have hp:=Ch.call (Ch.made hp Ng) Ry.ch (by exact fun k e=>.inr (e▸Nx))
 exact⟨congrArg Value.agg (IF (congrArg (Value.int .u32) (by rfl)) (congrArg (Value.int .u32) (by rfl)) (congrArg (Value.int .u32) (by rfl)) (congrArg (Value.int .u32) (by rfl)) (congrArg (Value.int .u32) (by rfl)) (congrArg (Value.int .u32) (by rfl)) (congrArg (Value.int .u32) (by rfl)) (congrArg (Value.int .u32) (by rfl))),hp⟩
end
end Go.Proofs.YtfmcaoaaiganbaaGreatDoor
namespace Go.Proofs.YtfmcaoaaiganbaaGreatDoor
open Go.Proofs.Tryz (prog)
open Go Go.RowKit V
open Go.IntKind (i64 u32 u64)
section
set_option maxRecDepth 100000
def B6(R:aC)(w:World):Prop:=
 Calls prog 148 #[] w fun e wv=>
 ∃x1a:Int,∃x1b:Int,∃x1c:Int,∃x1d:Int,∃x1e:Int,∃x1f:Int,∃x1g:Int,∃x1h:Int,e= .returned (.agg #[(.int .u32 x1a),(.int .u32 x1b),(.int .u32 x1c),(.int .u32 x1d),(.int .u32 x1e),(.int .u32 x1f),(.int .u32 x1g),(.int .u32 x1h)])∧
 ∀(gv:Nat)(M5:World),gv=wv.heap.size→M5=wv.alloc (.cells #[(.int .u32 x1a),(.int .u32 x1b),(.int .u32 x1c),(.int .u32 x1d),(.int .u32 x1e),(.int .u32 x1f),(.int .u32 x1g),(.int .u32 x1h),(.int .i64 0),(.slice none 0 0)] 191)→
 R (.pointer (some (Addr.mk gv 0 none))) M5
def Jf:Ann:= .leaf
theorem SNew_eq(R:aC)(w:World):B6 R w=vcF prog aH [] Tryz.f92 Jf [] R none w:=by kernel_rfl
theorem Ak {R:aC} {w:World}(h:B6 R w):Calls prog 92 #[] w fun e w'=>∃v,e= .returned v∧R v w':=
 ar Tryz.func92 aw aj ((SNew_eq R w).mp h)
def B8(d:Option Addr)(wordsA:Option Addr)(aQ:Nat)(wordsC:Nat)(R:aC)(w:World):Prop:=
 aB d fun p8=>
 ∃Nf:Int,w.cell? (p8.add 8)=some (.int .i64 Nf)∧
 split (decide ((((aQ:Nat):Int):Int)>(i64.wrap (36028797018963968 - Nf)))) (
  R (.tuple #[]) w) (
  aB d fun SC=>
  ∃OB:Int,w.cell? (SC.add 8)=some (.int .i64 OB)∧
  aB d fun p20=>
  aF w (p20.add 8) [(.int .i64 (i64.wrap (OB+((aQ:Nat):Int))))] fun wv=>
  ∃b:Nat→Nat→Prop,
  aB d fun p23=>
  b 3 ((p23.add 9).block)∧
  ∃V9:Option Addr,∃acX:Nat,∃ZO:Nat,wv.drew.cell? (p23.add 9)=some (.slice V9 acX ZO)∧
  aB d fun p27=>
  b 7 ((p27.add 9).block)∧
  ∃acW:Option Addr,∃UB:Nat,∃acV:Nat,wv.drew.cell? (p27.add 9)=some (.slice acW UB acV)∧
  aB d fun p32=>
  b 12 ((p32.add 9).block)∧
  ∃Sw:Option Addr,∃PU:Nat,∃Sv:Nat,wv.drew.cell? (p32.add 9)=some (.slice Sw PU Sv)∧
  (0≤(((PU:Nat):Int):Int)∧(((PU:Nat):Int):Int)≤((ZO:Nat):Int))∧
  (0≤(((UB:Nat):Int):Int)∧(((UB:Nat):Int):Int)≤((Int.toNat ((PU:Nat):Int):Nat):Int))∧
  ∀Su:Option Addr,Su=(if(Int.toNat ((PU:Nat):Int))=0 then V9 else(V9:Option Addr).map (·.add (0*1)))→∀Sr:Nat,Sr=(Int.toNat ((UB:Nat):Int)) - 0→∀Ss:Nat,Ss=(Int.toNat ((PU:Nat):Int)) - 0→
  ∃Tl:Option Addr,∃Tj:Nat,∃Tk:Nat,∃M5,(Builtin.append_ #[31,31] 31 #[(.slice Su Sr Ss),(.slice wordsA aQ wordsC)]:Sem Value).run prog wv.drew= .ok (.slice Tl Tj Tk) M5∧
  Kept (du b [0,1,4,5,6,9,10,11]) wv.drew M5∧∃b1:Nat→Nat→Prop,(∀i k,b i k→b1 i k)∧
  ∃I:Nat→Option Addr→Nat→Nat→World→Prop,(∃m,I m Tl Tj Tk M5)∧∀(m:Nat)(OO:Nat→Value)(leftA:Option Addr)(leftN:Nat)(leftC:Nat),∀M6,I m leftA leftN leftC M6→
  split (decide ((((leftN:Nat):Int):Int)≥16)) (
   ∃b2:Nat→Nat→Prop,
   aB d fun UR=>
   b2 4 ((UR.add 0).block)∧
   ∃YU:Int,∃YT:Int,∃YS:Int,∃YR:Int,∃YQ:Int,∃YP:Int,∃YO:Int,∃YN:Int,(M6.drew.cell? ((UR.add 0).add 0)=some (.int .u32 YU)∧M6.drew.cell? ((UR.add 0).add 1)=some (.int .u32 YT)∧M6.drew.cell? ((UR.add 0).add 2)=some (.int .u32 YS)∧M6.drew.cell? ((UR.add 0).add 3)=some (.int .u32 YR)∧M6.drew.cell? ((UR.add 0).add 4)=some (.int .u32 YQ)∧M6.drew.cell? ((UR.add 0).add 5)=some (.int .u32 YP)∧M6.drew.cell? ((UR.add 0).add 6)=some (.int .u32 YO)∧M6.drew.cell? ((UR.add 0).add 7)=some (.int .u32 YN))∧
   16≤leftN∧
   aB leftA fun Rz=>
   b2 7 (Rz.block)∧
   ∃Tf:Int,∃Te:Int,∃Td:Int,∃Tc:Int,∃Ta:Int,∃S9:Int,∃S7:Int,∃S6:Int,∃YM:Int,∃YL:Int,∃YK:Int,∃YJ:Int,∃YI:Int,∃YH:Int,∃YG:Int,∃YF:Int,(M6.drew.cell? (Rz.add 0)=some (.int .u32 Tf)∧M6.drew.cell? (Rz.add 1)=some (.int .u32 Te)∧M6.drew.cell? (Rz.add 2)=some (.int .u32 Td)∧M6.drew.cell? (Rz.add 3)=some (.int .u32 Tc)∧M6.drew.cell? (Rz.add 4)=some (.int .u32 Ta)∧M6.drew.cell? (Rz.add 5)=some (.int .u32 S9)∧M6.drew.cell? (Rz.add 6)=some (.int .u32 S7)∧M6.drew.cell? (Rz.add 7)=some (.int .u32 S6)∧M6.drew.cell? (Rz.add 8)=some (.int .u32 YM)∧M6.drew.cell? (Rz.add 9)=some (.int .u32 YL)∧M6.drew.cell? (Rz.add 10)=some (.int .u32 YK)∧M6.drew.cell? (Rz.add 11)=some (.int .u32 YJ)∧M6.drew.cell? (Rz.add 12)=some (.int .u32 YI)∧M6.drew.cell? (Rz.add 13)=some (.int .u32 YH)∧M6.drew.cell? (Rz.add 14)=some (.int .u32 YG)∧M6.drew.cell? (Rz.add 15)=some (.int .u32 YF))∧
   Calls prog 114 #[(.agg #[(.int .u32 YU),(.int .u32 YT),(.int .u32 YS),(.int .u32 YR),(.int .u32 YQ),(.int .u32 YP),(.int .u32 YO),(.int .u32 YN)]),(.agg #[(.int .u32 Tf),(.int .u32 Te),(.int .u32 Td),(.int .u32 Tc),(.int .u32 Ta),(.int .u32 S9),(.int .u32 S7),(.int .u32 S6),(.int .u32 YM),(.int .u32 YL),(.int .u32 YK),(.int .u32 YJ),(.int .u32 YI),(.int .u32 YH),(.int .u32 YG),(.int .u32 YF)])] M6.drew fun e Na=>
   ∃YE:Int,∃YD:Int,∃YC:Int,∃YB:Int,∃YA:Int,∃Yz:Int,∃Yy:Int,∃Yx:Int,e= .returned (.agg #[(.int .u32 YE),(.int .u32 YD),(.int .u32 YC),(.int .u32 YB),(.int .u32 YA),(.int .u32 Yz),(.int .u32 Yy),(.int .u32 Yx)])∧
   Kept (du b2 [0,1]) M6.drew Na∧∃b3:Nat→Nat→Prop,(∀i k,b2 i k→b3 i k)∧
   aB d fun Wd=>
   aF Na (Wd.add 0) [(.int .u32 YE),(.int .u32 YD),(.int .u32 YC),(.int .u32 YB),(.int .u32 YA),(.int .u32 Yz),(.int .u32 Yy),(.int .u32 Yx)] fun Nc=>
   ∃b4:Nat→Nat→Prop,(∀i k,b3 i k→b4 i k)∧
   (0≤(16:Int)∧(16:Int)≤((leftN:Nat):Int))∧
   ∀V8:Option Addr,V8=(if leftC=(Int.toNat 16)then leftA else(leftA:Option Addr).map (·.add ((Int.toNat 16)*1)))→∀V6:Nat,V6=leftN - (Int.toNat 16)→∀V7:Nat,V7=leftC - (Int.toNat 16)→
   ∃m1,m1<m∧I m1 V8 V6 V7 Nc) (
   ∃XW:Option Addr,∃XU:Nat,∃XV:Nat,∃Na,(Builtin.append_ #[31,31] 31 #[(.slice none 0 0),(.slice leftA leftN leftC)]:Sem Value).run prog M6= .ok (.slice XW XU XV) Na∧
   aB d fun p58=>
   aF Na (p58.add 9) [(.slice XW XU XV)] fun Nc=>
   R (.tuple #[]) Nc))
def Ji:Ann:=(.node none .leaf (.node none .leaf (.node none .leaf (.node none (.node none (.node (some ⟨[(4,.one (.slice))],[4,39,40,41,42,43,44,45,46,47,48,49,50,51,52,53,54]⟩) .leaf .leaf) .leaf) .leaf))))
theorem SAdd_eq(d:Option Addr)(wordsA:Option Addr)(aQ:Nat)(wordsC:Nat)(R:aC)(w:World):B8 d wordsA aQ wordsC R w=vcF prog aH [4] Tryz.f65 Ji [(.pointer d),(.slice wordsA aQ wordsC)] R none w:=by kernel_rfl
theorem Am(d:Option Addr)(wordsA:Option Addr)(aQ:Nat)(wordsC:Nat) {R:aC} {w:World}(h:B8 d wordsA aQ wordsC R w):Calls prog 65 #[(.pointer d),(.slice wordsA aQ wordsC)] w fun e w'=>∃v,e= .returned v∧R v w':=
 ar Tryz.func65 aw aj ((SAdd_eq d wordsA aQ wordsC R w).mp h)
def yn(wordsA:Option Addr)(aQ:Nat)(wordsC:Nat)(R:aC)(w:World):Prop:=
 split ((((aQ:Nat):Int):Int) !=26) (
  R (.tuple #[(.pointer none),(.int .i64 20)]) w) (
  (0≤(8:Int)∧(8:Int)<((aQ:Nat):Int))∧
  aB wordsA fun SQ=>
  ∃Nn:Int,w.drew.cell? (SQ.add (Int.toNat 8*1))=some (.int .u32 Nn)∧
  (0≤(9:Int)∧(9:Int)<((aQ:Nat):Int))∧
  aB wordsA fun p18=>
  ∃NP:Int,w.drew.cell? (p18.add (Int.toNat 9*1))=some (.int .u32 NP)∧
  ∀n:Int,n=(u64.wrap (BitVec.ofInt u64.bits (u64.wrap ((u64.wrap Nn:Int)*2 ^ 32)) ||| BitVec.ofInt u64.bits (u64.wrap NP)).toNat)→
  (0≤(8:Int)∧(8:Int)≤((wordsC:Nat):Int))∧
  (0≤(8:Int)∧(8:Int)≤((Int.toNat 8:Nat):Int))∧
  ∀QR:Option Addr,QR=(if(Int.toNat 8)=0 then wordsA else(wordsA:Option Addr).map (·.add (0*1)))→∀QQ:Nat,QQ=(Int.toNat 8) - 0→∀Ri:Nat,Ri=(Int.toNat 8) - 0→
  8≤QQ∧
  aB QR fun Ut=>
  ∃Tn:Int,∃UH:Int,∃UG:Int,∃UF:Int,∃UD:Int,∃ZN:Int,∃ZM:Int,∃ZL:Int,(w.drew.cell? (Ut.add 0)=some (.int .u32 Tn)∧w.drew.cell? (Ut.add 1)=some (.int .u32 UH)∧w.drew.cell? (Ut.add 2)=some (.int .u32 UG)∧w.drew.cell? (Ut.add 3)=some (.int .u32 UF)∧w.drew.cell? (Ut.add 4)=some (.int .u32 UD)∧w.drew.cell? (Ut.add 5)=some (.int .u32 ZN)∧w.drew.cell? (Ut.add 6)=some (.int .u32 ZM)∧w.drew.cell? (Ut.add 7)=some (.int .u32 ZL))∧
  ∀(gv:Nat)(wv:World),gv=w.drew.heap.size→wv=w.drew.alloc (.cells #[(.int .u32 Tn),(.int .u32 UH),(.int .u32 UG),(.int .u32 UF),(.int .u32 UD),(.int .u32 ZN),(.int .u32 ZM),(.int .u32 ZL),(.int .i64 (i64.wrap n)),(.slice none 0 0)] 191)→
  ∃J:Bool→World→Prop,(
   ∃b:Nat→Nat→Prop,
   split (decide ((n:Int)>36028797018963968)) (
    J true wv.drew) (
    split (decide ((n:Int)<16)) (
     b 9 (((Addr.mk gv 0 none).add 0).block)∧
     ∃Zv:Int,∃Zu:Int,∃Zt:Int,∃Zs:Int,∃Zr:Int,∃Zq:Int,∃Zp:Int,∃Zo:Int,(wv.drew.cell? (((Addr.mk gv 0 none).add 0).add 0)=some (.int .u32 Zv)∧wv.drew.cell? (((Addr.mk gv 0 none).add 0).add 1)=some (.int .u32 Zu)∧wv.drew.cell? (((Addr.mk gv 0 none).add 0).add 2)=some (.int .u32 Zt)∧wv.drew.cell? (((Addr.mk gv 0 none).add 0).add 3)=some (.int .u32 Zs)∧wv.drew.cell? (((Addr.mk gv 0 none).add 0).add 4)=some (.int .u32 Zr)∧wv.drew.cell? (((Addr.mk gv 0 none).add 0).add 5)=some (.int .u32 Zq)∧wv.drew.cell? (((Addr.mk gv 0 none).add 0).add 6)=some (.int .u32 Zp)∧wv.drew.cell? (((Addr.mk gv 0 none).add 0).add 7)=some (.int .u32 Zo))∧
     Calls prog 148 #[] wv.drew fun e M5=>
     ∃Zk:Int,∃Zj:Int,∃Zi:Int,∃Zh:Int,∃Zg:Int,∃Zf:Int,∃Ze:Int,∃Zd:Int,e= .returned (.agg #[(.int .u32 Zk),(.int .u32 Zj),(.int .u32 Zi),(.int .u32 Zh),(.int .u32 Zg),(.int .u32 Zf),(.int .u32 Ze),(.int .u32 Zd)])∧
     Kept (du b [0,6,7,8,9]) wv.drew M5∧∃b1:Nat→Nat→Prop,(∀i k,b i k→b1 i k)∧
     J (!(bp #[(.int .u32 Zv),(.int .u32 Zu),(.int .u32 Zt),(.int .u32 Zs),(.int .u32 Zr),(.int .u32 Zq),(.int .u32 Zp),(.int .u32 Zo)] #[(.int .u32 Zk),(.int .u32 Zj),(.int .u32 Zi),(.int .u32 Zh),(.int .u32 Zg),(.int .u32 Zf),(.int .u32 Ze),(.int .u32 Zd)])) M5) (
     J false wv.drew)))∧∀(Nt:Nat→Value)(PA:Bool),∀M5,J PA M5→
  split PA (
   R (.tuple #[(.pointer none),(.int .i64 20)]) M5) (
   ∀waits:Int,waits=(i64.wrap ((n:Int).tmod 16))→
   (0≤(i64.wrap (10+waits):Int)∧(i64.wrap (10+waits):Int)≤((aQ:Nat):Int))∧
   ∀Pe:Option Addr,Pe=(if wordsC=(Int.toNat (i64.wrap (10+waits)))then wordsA else(wordsA:Option Addr).map (·.add ((Int.toNat (i64.wrap (10+waits)))*1)))→∀OA:Nat,OA=aQ - (Int.toNat (i64.wrap (10+waits)))→∀PT:Nat,PT=wordsC - (Int.toNat (i64.wrap (10+waits)))→
   ∃I:Nat→Int→World→Prop,(∃m,I m 0 M5)∧∀(m:Nat)(Pw:Nat→Value)(Qt:Int),∀M6,I m Qt M6→
   split (decide ((Qt:Int)<((OA:Nat):Int))) (
    (0≤(Qt:Int)∧(Qt:Int)<((OA:Nat):Int))∧
    aB Pe fun QU=>
    ∃S5:Int,M6.cell? (QU.add (Int.toNat Qt*1))=some (.int .u32 S5)∧
    split ((S5:Int) !=0) (
     R (.tuple #[(.pointer none),(.int .i64 20)]) M6) (
     ∃m1,m1<m∧I m1 (i64.wrap (Qt+1)) M6)) (
    (0≤(i64.wrap (10+waits):Int)∧(i64.wrap (10+waits):Int)≤((wordsC:Nat):Int))∧
    (0≤(i64.wrap (10+waits):Int)∧(i64.wrap (10+waits):Int)≤((Int.toNat (i64.wrap (10+waits)):Nat):Int))∧
    (0≤(10:Int)∧(10:Int)≤((Int.toNat (i64.wrap (10+waits)):Nat):Int))∧
    ∀UA:Option Addr,UA=(if(Int.toNat (i64.wrap (10+waits)))=(Int.toNat 10)then wordsA else(wordsA:Option Addr).map (·.add ((Int.toNat 10)*1)))→∀Q7:Nat,Q7=(Int.toNat (i64.wrap (10+waits))) - (Int.toNat 10)→∀Uz:Nat,Uz=(Int.toNat (i64.wrap (10+waits))) - (Int.toNat 10)→
    ∃XR:Option Addr,∃XP:Nat,∃XQ:Nat,∃Na,(Builtin.append_ #[31,31] 31 #[(.slice none 0 0),(.slice UA Q7 Uz)]:Sem Value).run prog M6= .ok (.slice XR XP XQ) Na∧
    aF Na ((Addr.mk gv 0 none).add 9) [(.slice XR XP XQ)] fun Nc=>
    R (.tuple #[(.pointer (some (Addr.mk gv 0 none))),(.int .i64 0)]) Nc)))
def G0:Ann:=(.node none .leaf (.node none .leaf (.node none .leaf (.node none .leaf (.node none (.node none (.node (some ⟨[(43,.one (.bool))],[30,31,32,33,34,35,36,37,38,39,40,41,42,43]⟩) .leaf .leaf) .leaf) (.node none .leaf (.node none (.node none .leaf (.node none (.node (some ⟨[(52,.one (.int .i64))],[2,3,8,52,53,54,55,56,57,58]⟩) .leaf .leaf) .leaf)) .leaf)))))))
theorem SLoad_eq(wordsA:Option Addr)(aQ:Nat)(wordsC:Nat)(R:aC)(w:World):yn wordsA aQ wordsC R w=vcF prog aH [4,6] Tryz.f177 G0 [(.slice wordsA aQ wordsC)] R none w:=by kernel_rfl
theorem yo(wordsA:Option Addr)(aQ:Nat)(wordsC:Nat) {R:aC} {w:World}(h:yn wordsA aQ wordsC R w):Calls prog 177 #[(.slice wordsA aQ wordsC)] w fun e w'=>∃v,e= .returned v∧R v w':=
 ar Tryz.func177 aw aj ((SLoad_eq wordsA aQ wordsC R w).mp h)
end
end Go.Proofs.YtfmcaoaaiganbaaGreatDoor
namespace Go.Proofs.YtfmcaoaaiganbaaGreatDoor
open Go.Proofs.Tryz (prog)
open Go Go.RowKit V
open Go.IntKind (i64 u32 u64)
section
set_option maxRecDepth 10000
set_option maxHeartbeats 1000000
theorem ME {w:World}:
 Calls prog 92 #[] w fun e w'=>∃v,e= .returned v∧∃g:Nat,∃L:DgL,v= .pointer (some (Addr.mk g 0 none))∧jj w' g L Dg.new∧(∀k,L.X g k→w.heap.size≤k)∧Pu w w':=by
 refine Ak ?_
 have hp:=Ch.refl (fun _=>False) w
 refine Calls.mono (EX) ?_
 rintro e wv ⟨_,rfl,rfl,Nl⟩
 refine⟨_,_,_,_,_,_,_,_,rfl,?_⟩
 refine mkd fun gv M5 Ng=>?_
 have M1:=Ng.blk
 have hp:=Ch.made (Ch.pu hp Nl) Ng
 exact⟨gv,⟨fun _=>False,none,0,0⟩,rfl,⟨⟨_,M1⟩,Rd.nil,fun h=>h⟩,by have:=Ng.num;have:=Nl.size;rintro k (rfl | hk);omega;exact hk.elim,hp⟩
theorem Kt {g:Nat} {L:DgL} {D:Dg} {Z:Nat→Prop} {wordsA:Option Addr} {aQ:Nat} {wordsC:Nat} {l:List U32} {K:List Int} {w:World}(h:jj w g L D)(hz:Rd w Z wordsA aQ wordsC l)(hk:gz w 0 K)(ok:D.Ok)(hlen:l.length≤1099511627776)(hzg:¬Z g)(hg1:¬g=0):
 Calls prog 65 #[(.pointer (some (Addr.mk g 0 none))),(.slice wordsA aQ wordsC)] w fun e w'=>∃v,e= .returned v∧∃L':DgL,v= .tuple #[]∧jj w' g L' (D.add K l)∧(∀k,(L'.X g) k→(L.X g) k∨w.heap.size≤k)∧Ch (L.X g) w w':=by
 refine Am (some (Addr.mk g 0 none)) _ _ _ ?_
 have hn:=ok.n
 have hz0:=hz
 have hg9:=h.lt g (.inl rfl)
 have hp:=Ch.refl (L.X g) w
 have Pk:=h.lt
 have aaR:=hz.lt
 have OY:=hk.lt
 obtain⟨⟨hT,hb⟩,hr,QY⟩:=h
 have lt_hr:=hr.lt
 refine au _ rfl ⟨_,hb.at rfl,?_⟩
 refine ax (fun c1=>?_) (fun c1=>?_)
 ·exact⟨L,rfl,by have hc:(l.length:Int)>36028797018963968 - D.n:=(by have:=hz.len;rw [aq (by omega)]at c1;omega);rw [Dg.add,if_pos hc];exact⟨⟨_,hb⟩,hr,QY⟩,fun k hk=>.inl hk,hp⟩
 ·have hzl:=hz.len
  have TZ:=hr.len
  have hn:=ok.n
  have hwl:=ok.len
  have U3:=hr.cap
  rw [aq (by omega)]at c1
  refine au _ rfl ⟨_,hb.at rfl,au _ rfl (bx hb (by simp) fun wv SA=>?_)⟩
  have hb:Blk wv g #[(.int .u32 D.st.a),(.int .u32 D.st.b),(.int .u32 D.st.c),(.int .u32 D.st.d),(.int .u32 D.st.e),(.int .u32 D.st.f),(.int .u32 D.st.g),(.int .u32 D.st.h),(.int .i64 (i64.wrap (D.n+((aQ:Nat):Int)))),(.slice L.a L.n L.c)] _:=SA.blk.cast (by kernel_rfl)
  refine⟨bXU [] [3,7,12] wv.drew (fun _=>False),?_⟩
  have hb:=Blk.drew hb
  refine au _ rfl ⟨.inl (by decide),_,_,_,hb.at rfl,au _ rfl ⟨.inl (by decide),_,_,_,hb.at rfl,au _ rfl ⟨.inl (by decide),_,_,_,hb.at rfl,⟨by omega,⟨by omega,?_⟩⟩⟩⟩⟩
  have hr:=(hr.ch SA.ch (fun k hx e=>(QY) (e▸hx))).pu (Pu.aY _)
  rintro Su WL Sr WJ Ss WK
  have Wb:=Rd.all hr WL WJ WK (by omega) (by omega)
  have hz:=(hz.ch SA.ch (fun k hx e=>(hzg) (e▸hx))).pu (Pu.aY _)
  have hp:=Ch.drew (Ch.call hp SA.ch (by exact fun k hk=>.inl (.inl hk)))
  refine Lb Bg Wb (by omega) hz (by omega) (by omega) fun A_wv1 c_wv1 M5 aaQ Nb=>?_
  refine bXU.JM Nb (by decide) ?_
  have hp:=Ch.pu hp Nb
  have hz:=hz.pu Nb
  have hk:=((hk.ch SA.ch (fun k hx e=>(hg1) (e▸hx))).pu (Pu.aY _)).pu Nb
  have hb:=Pu.blk Nb hb
  refine⟨fun mz leftA leftN leftC W=>∃Z_ll:Nat→Prop,∃ll:List U32,∃S:S8,∃n2:Int,mz=ll.length∧(cR K S ll=cR K D.st (D.waits++l))∧(¬Z_ll g)∧(ll.length≤1099511627800)∧(n2=D.n+l.length)∧Rd W Z_ll leftA leftN leftC ll∧Ch (L.X g) w W∧Rd W Z wordsA aQ wordsC l∧gz W 0 K∧Blk W g #[(.int .u32 S.a),(.int .u32 S.b),(.int .u32 S.c),(.int .u32 S.d),(.int .u32 S.e),(.int .u32 S.f),(.int .u32 S.g),(.int .u32 S.h),(.int .i64 n2),(.slice L.a L.n L.c)] hT,⟨_,(fun k=>(L.Y k∨wv.drew.heap.size≤k)∧k<M5.heap.size),(D.waits++l),D.st,_,rfl,rfl,(by rintro⟨h | h,_⟩;exact QY h;exact absurd (Nat.lt_of_lt_of_le hg9 (Nat.le_trans SA.kept.size h)) (Nat.lt_irrefl _)),(by rw [List.length_append];omega),(by rw [aq (by omega)];omega),aaQ,hp,hz,hk,hb⟩,?_⟩
  rintro _ _ leftA leftN leftC M6 ⟨Z_ll,ll,S,n2,rfl,hI,hlz,hlb,SF,ON,hp,hz,hk,hb⟩
  refine ax (fun c2=>?_) (fun c2=>?_)
  ·refine⟨bXU [] [4,7] M6.drew (fun _=>False),?_⟩
   have hb:=Blk.drew hb
   have ON:=ON.pu (Pu.aY _)
   refine au _ rfl ⟨.inl (by decide),_,_,_,_,_,_,_,_,⟨hb.at2 rfl,hb.at2 rfl,hb.at2 rfl,hb.at2 rfl,hb.at2 rfl,hb.at2 rfl,hb.at2 rfl,hb.at2 rfl⟩,⟨by omega,?_⟩⟩
   obtain⟨p3,ha3,hz3,Q4⟩:=ON.u32 (by omega)
   refine au p3 ha3 ⟨.inl (by decide),_,_,_,_,_,_,_,_,_,_,_,_,_,_,_,_,⟨Q4 0 (by omega),Q4 1 (by omega),Q4 2 (by omega),Q4 3 (by omega),Q4 4 (by omega),Q4 5 (by omega),Q4 6 (by omega),Q4 7 (by omega),Q4 8 (by omega),Q4 9 (by omega),Q4 10 (by omega),Q4 11 (by omega),Q4 12 (by omega),Q4 13 (by omega),Q4 14 (by omega),Q4 15 (by omega)⟩,?_⟩
   have hk:=hk.pu (Pu.aY _)
   refine Calls.mono (EY hk _ _ _ _ _ _ _ _ _ _ _ _ _ _ _ _ _ _ _ _ _ _ _ _) ?_
   rintro e Na ⟨_,rfl,rfl,Nu⟩
   refine⟨_,_,_,_,_,_,_,_,rfl,?_⟩
   refine bXU.JM Nu (by decide) ?_
   have hb:=Pu.blk Nu hb
   refine au _ rfl (bx hb (by simp) fun Nc Nv=>?_)
   have hb:Blk Nc g #[(.int .u32 ((gR K (S8.mk S.a S.b S.c S.d S.e S.f S.g S.h) [((ll.getD 0 ⟨0⟩).v),((ll.getD 1 ⟨0⟩).v),((ll.getD 2 ⟨0⟩).v),((ll.getD 3 ⟨0⟩).v),((ll.getD 4 ⟨0⟩).v),((ll.getD 5 ⟨0⟩).v),((ll.getD 6 ⟨0⟩).v),((ll.getD 7 ⟨0⟩).v),((ll.getD 8 ⟨0⟩).v),((ll.getD 9 ⟨0⟩).v),((ll.getD 10 ⟨0⟩).v),((ll.getD 11 ⟨0⟩).v),((ll.getD 12 ⟨0⟩).v),((ll.getD 13 ⟨0⟩).v),((ll.getD 14 ⟨0⟩).v),((ll.getD 15 ⟨0⟩).v)]).a)),(.int .u32 ((gR K (S8.mk S.a S.b S.c S.d S.e S.f S.g S.h) [((ll.getD 0 ⟨0⟩).v),((ll.getD 1 ⟨0⟩).v),((ll.getD 2 ⟨0⟩).v),((ll.getD 3 ⟨0⟩).v),((ll.getD 4 ⟨0⟩).v),((ll.getD 5 ⟨0⟩).v),((ll.getD 6 ⟨0⟩).v),((ll.getD 7 ⟨0⟩).v),((ll.getD 8 ⟨0⟩).v),((ll.getD 9 ⟨0⟩).v),((ll.getD 10 ⟨0⟩).v),((ll.getD 11 ⟨0⟩).v),((ll.getD 12 ⟨0⟩).v),((ll.getD 13 ⟨0⟩).v),((ll.getD 14 ⟨0⟩).v),((ll.getD 15 ⟨0⟩).v)]).b)),(.int .u32 ((gR K (S8.mk S.a S.b S.c S.d S.e S.f S.g S.h) [((ll.getD 0 ⟨0⟩).v),((ll.getD 1 ⟨0⟩).v),((ll.getD 2 ⟨0⟩).v),((ll.getD 3 ⟨0⟩).v),((ll.getD 4 ⟨0⟩).v),((ll.getD 5 ⟨0⟩).v),((ll.getD 6 ⟨0⟩).v),((ll.getD 7 ⟨0⟩).v),((ll.getD 8 ⟨0⟩).v),((ll.getD 9 ⟨0⟩).v),((ll.getD 10 ⟨0⟩).v),((ll.getD 11 ⟨0⟩).v),((ll.getD 12 ⟨0⟩).v),((ll.getD 13 ⟨0⟩).v),((ll.getD 14 ⟨0⟩).v),((ll.getD 15 ⟨0⟩).v)]).c)),(.int .u32 ((gR K (S8.mk S.a S.b S.c S.d S.e S.f S.g S.h) [((ll.getD 0 ⟨0⟩).v),((ll.getD 1 ⟨0⟩).v),((ll.getD 2 ⟨0⟩).v),((ll.getD 3 ⟨0⟩).v),((ll.getD 4 ⟨0⟩).v),((ll.getD 5 ⟨0⟩).v),((ll.getD 6 ⟨0⟩).v),((ll.getD 7 ⟨0⟩).v),((ll.getD 8 ⟨0⟩).v),((ll.getD 9 ⟨0⟩).v),((ll.getD 10 ⟨0⟩).v),((ll.getD 11 ⟨0⟩).v),((ll.getD 12 ⟨0⟩).v),((ll.getD 13 ⟨0⟩).v),((ll.getD 14 ⟨0⟩).v),((ll.getD 15 ⟨0⟩).v)]).d)),(.int .u32 ((gR K (S8.mk S.a S.b S.c S.d S.e S.f S.g S.h) [((ll.getD 0 ⟨0⟩).v),((ll.getD 1 ⟨0⟩).v),((ll.getD 2 ⟨0⟩).v),((ll.getD 3 ⟨0⟩).v),((ll.getD 4 ⟨0⟩).v),((ll.getD 5 ⟨0⟩).v),((ll.getD 6 ⟨0⟩).v),((ll.getD 7 ⟨0⟩).v),((ll.getD 8 ⟨0⟩).v),((ll.getD 9 ⟨0⟩).v),((ll.getD 10 ⟨0⟩).v),((ll.getD 11 ⟨0⟩).v),((ll.getD 12 ⟨0⟩).v),((ll.getD 13 ⟨0⟩).v),((ll.getD 14 ⟨0⟩).v),((ll.getD 15 ⟨0⟩).v)]).e)),(.int .u32 ((gR K (S8.mk S.a S.b S.c S.d S.e S.f S.g S.h) [((ll.getD 0 ⟨0⟩).v),((ll.getD 1 ⟨0⟩).v),((ll.getD 2 ⟨0⟩).v),((ll.getD 3 ⟨0⟩).v),((ll.getD 4 ⟨0⟩).v),((ll.getD 5 ⟨0⟩).v),((ll.getD 6 ⟨0⟩).v),((ll.getD 7 ⟨0⟩).v),((ll.getD 8 ⟨0⟩).v),((ll.getD 9 ⟨0⟩).v),((ll.getD 10 ⟨0⟩).v),((ll.getD 11 ⟨0⟩).v),((ll.getD 12 ⟨0⟩).v),((ll.getD 13 ⟨0⟩).v),((ll.getD 14 ⟨0⟩).v),((ll.getD 15 ⟨0⟩).v)]).f)),(.int .u32 ((gR K (S8.mk S.a S.b S.c S.d S.e S.f S.g S.h) [((ll.getD 0 ⟨0⟩).v),((ll.getD 1 ⟨0⟩).v),((ll.getD 2 ⟨0⟩).v),((ll.getD 3 ⟨0⟩).v),((ll.getD 4 ⟨0⟩).v),((ll.getD 5 ⟨0⟩).v),((ll.getD 6 ⟨0⟩).v),((ll.getD 7 ⟨0⟩).v),((ll.getD 8 ⟨0⟩).v),((ll.getD 9 ⟨0⟩).v),((ll.getD 10 ⟨0⟩).v),((ll.getD 11 ⟨0⟩).v),((ll.getD 12 ⟨0⟩).v),((ll.getD 13 ⟨0⟩).v),((ll.getD 14 ⟨0⟩).v),((ll.getD 15 ⟨0⟩).v)]).g)),(.int .u32 ((gR K (S8.mk S.a S.b S.c S.d S.e S.f S.g S.h) [((ll.getD 0 ⟨0⟩).v),((ll.getD 1 ⟨0⟩).v),((ll.getD 2 ⟨0⟩).v),((ll.getD 3 ⟨0⟩).v),((ll.getD 4 ⟨0⟩).v),((ll.getD 5 ⟨0⟩).v),((ll.getD 6 ⟨0⟩).v),((ll.getD 7 ⟨0⟩).v),((ll.getD 8 ⟨0⟩).v),((ll.getD 9 ⟨0⟩).v),((ll.getD 10 ⟨0⟩).v),((ll.getD 11 ⟨0⟩).v),((ll.getD 12 ⟨0⟩).v),((ll.getD 13 ⟨0⟩).v),((ll.getD 14 ⟨0⟩).v),((ll.getD 15 ⟨0⟩).v)]).h)),(.int .i64 n2),(.slice L.a L.n L.c)] _:=Nv.blk.cast (by kernel_rfl)
   refine bXU.grow Nv.ch ?_
   refine⟨by omega,?_⟩
   have ON:=(ON.pu Nu).ch Nv.ch (fun k hx e=>(hlz) (e▸hx))
   rintro V8 WI V6 WG V7 WH
   have Wa:=Rd.from_ (lo:=16) ON WI WG WH (by omega) (by have:=ON.cap;omega)
   have hp:=Ch.call (Ch.pu (Ch.drew hp) Nu) Nv.ch (by exact fun k hk=>.inl (.inl hk))
   have hz:=((hz.pu (Pu.aY _)).pu Nu).ch Nv.ch (fun k hx e=>(hzg) (e▸hx))
   have hk:=(hk.pu Nu).ch Nv.ch (fun k hx e=>(hg1) (e▸hx))
   exact⟨_,by rw [List.length_drop];have:=ON.len;omega,Z_ll,(ll.drop 16),(gR K S ((ll.take 16).map U32.v)),n2,rfl,(by rw [← hI,← fL (by have:=ON.len;omega)]),hlz,(by rw [List.length_drop];omega),SF,Wa,hp,hz,hk,hb.cast (Mg (congrArg (Value.int .u32) (by rw [jt (by have:=ON.len;omega)])) (congrArg (Value.int .u32) (by rw [jt (by have:=ON.len;omega)])) (congrArg (Value.int .u32) (by rw [jt (by have:=ON.len;omega)])) (congrArg (Value.int .u32) (by rw [jt (by have:=ON.len;omega)])) (congrArg (Value.int .u32) (by rw [jt (by have:=ON.len;omega)])) (congrArg (Value.int .u32) (by rw [jt (by have:=ON.len;omega)])) (congrArg (Value.int .u32) (by rw [jt (by have:=ON.len;omega)])) (congrArg (Value.int .u32) (by rw [jt (by have:=ON.len;omega)])) (rfl) (rfl))⟩
  ·have adm:=hp.size
   have hog:¬M6.heap.size≤g:=by omega
   refine nd Bg ON (by omega) (by omega) fun A_wv3 PQ Na OP Nu=>?_
   have hb:=Pu.blk Nu hb
   refine au _ rfl (bx hb (by simp) fun Nc Nv=>?_)
   have hb:Blk Nc g #[(.int .u32 S.a),(.int .u32 S.b),(.int .u32 S.c),(.int .u32 S.d),(.int .u32 S.e),(.int .u32 S.f),(.int .u32 S.g),(.int .u32 S.h),(.int .i64 n2),(.slice A_wv3 leftN PQ)] _:=Nv.blk.cast (by kernel_rfl)
   have OP:=OP.ch Nv.ch (fun k hx e=>hog (e▸hx.1))
   have hp:=Ch.call (Ch.pu hp Nu) Nv.ch (by exact fun k hk=>.inl (.inl hk))
   exact⟨⟨fun k=>M6.heap.size≤k∧k<Nc.heap.size,A_wv3,leftN,PQ⟩,rfl,by have hn:=ok.n;have hc:¬(l.length:Int)>36028797018963968 - D.n:=(by have:=hz0.len;omega);have ha:cR K D.st (D.waits++l)=(S,ll):=(by rw [← hI,fM (by have:=ON.len;omega)]);rw [Dg.add,if_neg hc,ha];exact⟨⟨_,Blk.cast hb (by rw [← SF])⟩,(OP).KB (fun k hk=>⟨hk.1.1,hk.2⟩) (fun k hk=>hk.2),fun h=>absurd h.1 hog⟩,fun k hk=>hk.elim (fun e=>.inl (.inl e)) (fun h=>.inr (Nat.le_trans adm h.1)),hp⟩
theorem Lx {Z:Nat→Prop} {wordsA:Option Addr} {aQ:Nat} {wordsC:Nat} {l:List U32} {w:World}(hz:Rd w Z wordsA aQ wordsC l)(hw:∀x∈l,0≤x.v∧x.v<4294967296):
 Calls prog 177 #[(.slice wordsA aQ wordsC)] w fun e w'=>∃v,e= .returned v∧∃p:Option Addr,v= .tuple #[(.pointer p),(.int .i64 (Dg.cj l))]∧(Dg.cj l=0→∃g L,p=some (Addr.mk g 0 none)∧jj w' g L (Dg.load l)∧∀k,L.X g k→w.heap.size≤k)∧Pu w w':=by
 refine yo _ _ _ ?_
 have hl:=hz.len
 have U3:=hz.cap
 have hp:=Ch.refl (fun _=>False) w
 have aaR:=hz.lt
 refine aV (fun c1=>?_) (fun c1=>?_)
 ·exact⟨none,congrArg Value.tuple (sj (rfl) (congrArg (Value.int .i64) (by rw [Dg.mS (by omega)]))),fun h=>absurd h (by rw [Dg.mS (by omega)];omega),hp⟩
 ·have Ql:l.length=26:=by omega
  have hnO:=Dg.nOf_eq hw Ql
  refine⟨by omega,?_⟩
  obtain⟨p2,ha2,hz2,U4⟩:=hz.u32 (by omega)
  refine au p2 ha2 ?_
  have hz:=hz.pu (Pu.aY _)
  refine⟨_,U4 8 (by omega),⟨by omega,?_⟩⟩
  obtain⟨p3,ha3,hz3,Q4⟩:=hz.u32 (by omega)
  refine au p3 ha3 ⟨_,Q4 9 (by omega),?_⟩
  rintro n e_n
  obtain rfl:n=Dg.nOf l:=e_n.trans (by exact hnO.1)
  refine⟨by omega,⟨by omega,?_⟩⟩
  rintro QR WO QQ WM Ri WN
  have Wc:=Rd.cut (lo:=0) (hi:=(Int.toNat 8)) hz WO WM WN (by omega) (by omega) (by omega)
  refine⟨by omega,?_⟩
  obtain⟨p4,ha4,hz4,VL⟩:=Wc.u32 (by omega)
  refine au p4 ha4 ⟨_,_,_,_,_,_,_,_,⟨VL 0 (by omega),VL 1 (by omega),VL 2 (by omega),VL 3 (by omega),VL 4 (by omega),VL 5 (by omega),VL 6 (by omega),VL 7 (by omega)⟩,?_⟩
  have hp:=Ch.drew hp
  refine mkd fun gv wv Ng=>?_
  have Nx:=Ng.lo hp
  have M1:=Ng.blk
  refine⟨_,?_,fun _ PA M5 h=>h⟩
  refine⟨bXU [9] [] wv.drew (fun _=>False),?_⟩
  refine ax (fun c5=>?_) (fun c5=>?_)
  ·refine dH ?_
   have hp:=Ch.drew (Ch.made hp Ng)
   exact⟨none,congrArg Value.tuple (sj (rfl) (congrArg (Value.int .i64) (by rw [Dg.gx Ql (.inl c5)]))),fun h=>absurd h (by rw [Dg.gx Ql (.inl c5)];omega),hp⟩
  ·refine ax (fun c6=>?_) (fun c6=>?_)
   ·have M1:=Blk.drew M1
    refine⟨.inr ⟨by decide,bX.ld M1 (fun h=>h) _⟩,_,_,_,_,_,_,_,_,⟨M1.at2 rfl,M1.at2 rfl,M1.at2 rfl,M1.at2 rfl,M1.at2 rfl,M1.at2 rfl,M1.at2 rfl,M1.at2 rfl⟩,?_⟩
    refine Calls.mono (EX) ?_
    rintro e M5 ⟨_,rfl,rfl,Nb⟩
    refine⟨_,_,_,_,_,_,_,_,rfl,?_⟩
    refine bXU.gj Nb (by decide) ?_
    refine cf (fun c7=>?_) (fun c7=>?_)
    ·have Qj:Dg.lS l≠S8.first:=by intro h;simp [Dg.lS,S8.first]at h;simp [bp,eqL,jN,S8.first,h]at c7
     have hp:=Ch.pu (Ch.drew (Ch.made hp Ng)) Nb
     exact⟨none,congrArg Value.tuple (sj (rfl) (congrArg (Value.int .i64) (by rw [Dg.gx Ql (.inr ⟨c6,Qj⟩)]))),fun h=>absurd h (by rw [Dg.gx Ql (.inr ⟨c6,Qj⟩)];omega),hp⟩
    ·have Qj:Dg.lS l=S8.first:=by simp [bp,eqL,jN,S8.first]at c7;simp [Dg.lS,S8.first,c7]
     have hg:¬(Dg.nOf l>36028797018963968∨(Dg.nOf l<16∧Dg.lS l≠S8.first)):=by rintro(h | h);exact c5 h;exact h.2 Qj
     rintro waits Q2
     obtain rfl:waits=Dg.nOf l % 16:=Q2.trans (by rw [Int.tmod_eq_emod_of_nonneg hnO.2.1,aq (by omega)])
     refine⟨by(simp only [IntKind.wrap_i64];omega),?_⟩
     have hz:=((hz.pu Ng.pu).pu (Pu.aY _)).pu Nb
     rintro Pe R8 OA R6 PT R7
     have OJ:=Rd.from_ (lo:=(Int.toNat (i64.wrap (10+(Dg.nOf l % 16))))) hz R8 R6 R7 (by(rw [Dg.lo_eq];omega)) (by have:=hz.cap;omega)
     have hp:=Ch.pu (Ch.drew (Ch.made hp Ng)) Nb
     have M1:=Pu.blk Nb M1
     refine⟨fun mz Qt W=>mz=(OA - Qt).toNat∧(0≤Qt∧Qt≤OA)∧(∀(i:Nat)(x:U32),i<Qt.toNat→(l.drop (10+(Dg.nOf l % 16).toNat))[i]? =some x→x.v=0)∧Ch (fun _=>False) w W∧Rd W Z wordsA aQ wordsC l∧Blk W gv #[(.int .u32 ((((l.drop 0).take ((Int.toNat 8) - 0)).getD 0 ⟨0⟩).v)),(.int .u32 ((((l.drop 0).take ((Int.toNat 8) - 0)).getD 1 ⟨0⟩).v)),(.int .u32 ((((l.drop 0).take ((Int.toNat 8) - 0)).getD 2 ⟨0⟩).v)),(.int .u32 ((((l.drop 0).take ((Int.toNat 8) - 0)).getD 3 ⟨0⟩).v)),(.int .u32 ((((l.drop 0).take ((Int.toNat 8) - 0)).getD 4 ⟨0⟩).v)),(.int .u32 ((((l.drop 0).take ((Int.toNat 8) - 0)).getD 5 ⟨0⟩).v)),(.int .u32 ((((l.drop 0).take ((Int.toNat 8) - 0)).getD 6 ⟨0⟩).v)),(.int .u32 ((((l.drop 0).take ((Int.toNat 8) - 0)).getD 7 ⟨0⟩).v)),(.int .i64 (i64.wrap (Dg.nOf l))),(.slice none 0 0)] 191∧Rd W Z Pe OA PT (l.drop (Int.toNat (i64.wrap (10+(Dg.nOf l % 16))))),⟨_,rfl,(by omega),(by intro i x h;omega),hp,hz,M1,OJ⟩,?_⟩
     rintro _ _ Qt M6 ⟨rfl,h0,hq,hp,hz,M1,OJ⟩
     refine ax (fun c8=>?_) (fun c8=>?_)
     ·obtain⟨p9,x9,ha9,WZ,WY,hc9⟩:=OJ.ld (i:=Qt) (by omega) (by omega)
      refine⟨by constructor<;>omega,au p9 ha9 ⟨_,hc9 0 (by decide),?_⟩⟩
      refine aV (fun SL=>?_) (fun SL=>?_)
      ·exact⟨none,congrArg Value.tuple (sj (rfl) (congrArg (Value.int .i64) (by rw [Dg.lo_eq]at WZ;rw [Dg.fH Ql hg WZ SL]))),fun h=>absurd h (by rw [Dg.fH Ql hg (Dg.lo_eq▸WZ) SL];omega),hp⟩
      ·exact⟨_,by rw [IntKind.wrap_i64];omega,rfl,by rw [IntKind.wrap_i64];omega,by rw [aq (by omega)];intro i x hi hx;by_cases he:i=Qt.toNat;(subst he;(rw [Dg.lo_eq]at WZ;rw [hx]at WZ;injection WZ with e;rw [e];simpa using SL));exact hq i x (by omega) hx,hp,hz,M1,OJ⟩
     ·have WY:=hp
      have hgw:gv<M6.heap.size:=M1.lt
      refine⟨by(simp only [IntKind.wrap_i64];omega),⟨by(simp only [IntKind.wrap_i64];omega),⟨by(simp only [IntKind.wrap_i64];omega),?_⟩⟩⟩
      rintro UA R5 Q7 R3 Uz R4
      have RW:=Rd.cut (lo:=10) (hi:=(Int.toNat (i64.wrap (10+(Dg.nOf l % 16))))) hz R5 R3 R4 (by(rw [Dg.lo_eq];omega)) (by(rw [Dg.lo_eq];omega)) (by omega)
      refine nd Bg RW (by have:= @Dg.lo_eq l;omega) (by have:= @Dg.lo_eq l;omega) fun A_wv3 PQ Na OP Nu=>?_
      have M1:=Pu.blk Nu M1
      refine bx M1 (by simp) fun Nc Nv=>?_
      have M1:Blk Nc gv #[(.int .u32 ((((l.drop 0).take ((Int.toNat 8) - 0)).getD 0 ⟨0⟩).v)),(.int .u32 ((((l.drop 0).take ((Int.toNat 8) - 0)).getD 1 ⟨0⟩).v)),(.int .u32 ((((l.drop 0).take ((Int.toNat 8) - 0)).getD 2 ⟨0⟩).v)),(.int .u32 ((((l.drop 0).take ((Int.toNat 8) - 0)).getD 3 ⟨0⟩).v)),(.int .u32 ((((l.drop 0).take ((Int.toNat 8) - 0)).getD 4 ⟨0⟩).v)),(.int .u32 ((((l.drop 0).take ((Int.toNat 8) - 0)).getD 5 ⟨0⟩).v)),(.int .u32 ((((l.drop 0).take ((Int.toNat 8) - 0)).getD 6 ⟨0⟩).v)),(.int .u32 ((((l.drop 0).take ((Int.toNat 8) - 0)).getD 7 ⟨0⟩).v)),(.int .i64 (i64.wrap (Dg.nOf l))),(.slice A_wv3 Q7 PQ)] _:=Nv.blk.cast (by kernel_rfl)
      have OP:=OP.ch Nv.ch (fun k hx e=>absurd hx.1 (by omega))
      have hp:=Ch.call (Ch.pu hp Nu) Nv.ch (by exact fun k e=>.inr (e▸Nx))
      exact⟨_,congrArg Value.tuple (sj (rfl) (congrArg (Value.int .i64) (by rw [(Dg.qz Ql hg (fun i x hx=>hq i x (by have:=(List.getElem?_eq_some_iff.1 hx).1;rw [List.length_drop]at this;have:= @Dg.lo_eq l;omega) hx))]))),fun _=>⟨gv,⟨fun k=>(M6.heap.size≤k∧k<Na.heap.size)∧k<Nc.heap.size,A_wv3,Q7,PQ⟩,rfl,⟨⟨_,Blk.cast M1 (by simp [Dg.load,Dg.lS];have:=hnO.2;exact(aq (x:=Dg.nOf l) (by omega)).symm)⟩,by have h9:=(OP).rd;have h8:= @Dg.lo_eq l;have e:Dg.load l=⟨Dg.lS l,Dg.nOf l,(l.drop 10).take (Int.toNat (i64.wrap (10+Dg.nOf l % 16)) - 10)⟩:=(by rw [h8,Nat.add_sub_cancel_left];rfl);rw [e];exact h9,by intro h;exact absurd h.1.1 (by have:=Ng.num;have:=WY.size;omega)⟩,fun k hk=>hk.elim (fun e=>by rw [e];exact Nx) (fun h=>by have:=WY.size;have:=h.1.1;omega)⟩,hp⟩
   ·have hg:¬(Dg.nOf l>36028797018963968∨(Dg.nOf l<16∧Dg.lS l≠S8.first)):=by rintro(h | h);exact c5 h;exact c6 h.1
    refine eV ?_
    rintro waits Q2
    obtain rfl:waits=Dg.nOf l % 16:=Q2.trans (by rw [Int.tmod_eq_emod_of_nonneg hnO.2.1,aq (by omega)])
    refine⟨by(simp only [IntKind.wrap_i64];omega),?_⟩
    have hz:=(hz.pu Ng.pu).pu (Pu.aY _)
    rintro Pe R8 OA R6 PT R7
    have OJ:=Rd.from_ (lo:=(Int.toNat (i64.wrap (10+(Dg.nOf l % 16))))) hz R8 R6 R7 (by(rw [Dg.lo_eq];omega)) (by have:=hz.cap;omega)
    have hp:=Ch.drew (Ch.made hp Ng)
    have M1:=Blk.drew M1
    refine⟨fun mz Qt W=>mz=(OA - Qt).toNat∧(0≤Qt∧Qt≤OA)∧(∀(i:Nat)(x:U32),i<Qt.toNat→(l.drop (10+(Dg.nOf l % 16).toNat))[i]? =some x→x.v=0)∧Ch (fun _=>False) w W∧Rd W Z wordsA aQ wordsC l∧Blk W gv #[(.int .u32 ((((l.drop 0).take ((Int.toNat 8) - 0)).getD 0 ⟨0⟩).v)),(.int .u32 ((((l.drop 0).take ((Int.toNat 8) - 0)).getD 1 ⟨0⟩).v)),(.int .u32 ((((l.drop 0).take ((Int.toNat 8) - 0)).getD 2 ⟨0⟩).v)),(.int .u32 ((((l.drop 0).take ((Int.toNat 8) - 0)).getD 3 ⟨0⟩).v)),(.int .u32 ((((l.drop 0).take ((Int.toNat 8) - 0)).getD 4 ⟨0⟩).v)),(.int .u32 ((((l.drop 0).take ((Int.toNat 8) - 0)).getD 5 ⟨0⟩).v)),(.int .u32 ((((l.drop 0).take ((Int.toNat 8) - 0)).getD 6 ⟨0⟩).v)),(.int .u32 ((((l.drop 0).take ((Int.toNat 8) - 0)).getD 7 ⟨0⟩).v)),(.int .i64 (i64.wrap (Dg.nOf l))),(.slice none 0 0)] 191∧Rd W Z Pe OA PT (l.drop (Int.toNat (i64.wrap (10+(Dg.nOf l % 16))))),⟨_,rfl,(by omega),(by intro i x h;omega),hp,hz,M1,OJ⟩,?_⟩
    rintro _ _ Qt M6 ⟨rfl,h0,hq,hp,hz,M1,OJ⟩
    refine ax (fun Vb=>?_) (fun Vb=>?_)
    ·obtain⟨p12,Nj,adZ,SE,hz12,adS⟩:=OJ.ld (i:=Qt) (by omega) (by omega)
     refine⟨by constructor<;>omega,au p12 adZ ⟨_,adS 0 (by decide),?_⟩⟩
     refine aV (fun V0=>?_) (fun V0=>?_)
     ·exact⟨none,congrArg Value.tuple (sj (rfl) (congrArg (Value.int .i64) (by rw [Dg.lo_eq]at SE;rw [Dg.fH Ql hg SE V0]))),fun h=>absurd h (by rw [Dg.fH Ql hg (Dg.lo_eq▸SE) V0];omega),hp⟩
     ·exact⟨_,by rw [IntKind.wrap_i64];omega,rfl,by rw [IntKind.wrap_i64];omega,by rw [aq (by omega)];intro i x hi hx;by_cases he:i=Qt.toNat;(subst he;(rw [Dg.lo_eq]at SE;rw [hx]at SE;injection SE with e;rw [e];simpa using V0));exact hq i x (by omega) hx,hp,hz,M1,OJ⟩
    ·have WY:=hp
     have hgw:gv<M6.heap.size:=M1.lt
     refine⟨by(simp only [IntKind.wrap_i64];omega),⟨by(simp only [IntKind.wrap_i64];omega),⟨by(simp only [IntKind.wrap_i64];omega),?_⟩⟩⟩
     rintro UA R5 Q7 R3 Uz R4
     have RW:=Rd.cut (lo:=10) (hi:=(Int.toNat (i64.wrap (10+(Dg.nOf l % 16))))) hz R5 R3 R4 (by(rw [Dg.lo_eq];omega)) (by(rw [Dg.lo_eq];omega)) (by omega)
     refine nd Bg RW (by have:= @Dg.lo_eq l;omega) (by have:= @Dg.lo_eq l;omega) fun A_wv3 PQ Na OP Nu=>?_
     have M1:=Pu.blk Nu M1
     refine bx M1 (by simp) fun Nc Nv=>?_
     have M1:Blk Nc gv #[(.int .u32 ((((l.drop 0).take ((Int.toNat 8) - 0)).getD 0 ⟨0⟩).v)),(.int .u32 ((((l.drop 0).take ((Int.toNat 8) - 0)).getD 1 ⟨0⟩).v)),(.int .u32 ((((l.drop 0).take ((Int.toNat 8) - 0)).getD 2 ⟨0⟩).v)),(.int .u32 ((((l.drop 0).take ((Int.toNat 8) - 0)).getD 3 ⟨0⟩).v)),(.int .u32 ((((l.drop 0).take ((Int.toNat 8) - 0)).getD 4 ⟨0⟩).v)),(.int .u32 ((((l.drop 0).take ((Int.toNat 8) - 0)).getD 5 ⟨0⟩).v)),(.int .u32 ((((l.drop 0).take ((Int.toNat 8) - 0)).getD 6 ⟨0⟩).v)),(.int .u32 ((((l.drop 0).take ((Int.toNat 8) - 0)).getD 7 ⟨0⟩).v)),(.int .i64 (i64.wrap (Dg.nOf l))),(.slice A_wv3 Q7 PQ)] _:=Nv.blk.cast (by kernel_rfl)
     have OP:=OP.ch Nv.ch (fun k hx e=>absurd hx.1 (by omega))
     have hp:=Ch.call (Ch.pu hp Nu) Nv.ch (by exact fun k e=>.inr (e▸Nx))
     exact⟨_,congrArg Value.tuple (sj (rfl) (congrArg (Value.int .i64) (by rw [(Dg.qz Ql hg (fun i x hx=>hq i x (by have:=(List.getElem?_eq_some_iff.1 hx).1;rw [List.length_drop]at this;have:= @Dg.lo_eq l;omega) hx))]))),fun _=>⟨gv,⟨fun k=>(M6.heap.size≤k∧k<Na.heap.size)∧k<Nc.heap.size,A_wv3,Q7,PQ⟩,rfl,⟨⟨_,Blk.cast M1 (by simp [Dg.load,Dg.lS];have:=hnO.2;exact(aq (x:=Dg.nOf l) (by omega)).symm)⟩,by have h9:=(OP).rd;have h8:= @Dg.lo_eq l;have e:Dg.load l=⟨Dg.lS l,Dg.nOf l,(l.drop 10).take (Int.toNat (i64.wrap (10+Dg.nOf l % 16)) - 10)⟩:=(by rw [h8,Nat.add_sub_cancel_left];rfl);rw [e];exact h9,by intro h;exact absurd h.1.1 (by have:=Ng.num;have:=WY.size;omega)⟩,fun k hk=>hk.elim (fun e=>by rw [e];exact Nx) (fun h=>by have:=WY.size;have:=h.1.1;omega)⟩,hp⟩
end
end Go.Proofs.YtfmcaoaaiganbaaGreatDoor
namespace Go.Proofs.YtfmcaoaaiganbaaGreatDoor
open Go.Proofs.Tryz (prog)
open Go Go.RowKit V
open Go.IntKind (i64 u32 u64)
open Enc (enc)
section
namespace V
theorem Rd.Mh {α:Type} [Enc α] {P:Program} {w:World} {Z Y:Nat→Prop} {t ty e:TypeId} {z:Value} {bytes:Nat} {A:Option Addr} {n:Nat} {l l2:List α} {b:Addr} {m d:Nat}(hT:SN P t e z (Enc.size α) bytes)(h1:Rd w Z A n n l)(h2:Rd w Y (some b) m d l2)(hm:0<m)(QP:n+m≤9223372036854775807)(SI:(n+m)*bytes≤140737488355328)
 {K:Option Addr→Nat→Nat→World→Prop}(hK:∀A' c' w2,Own w2 (fun k=>w.heap.size≤k) e A' (n+m) c' (l++l2)→Pu w w2→K A' (n+m) c' w2):
 ∃(A':Option Addr)(n' c':Nat)(w2:World),(Builtin.append_ #[t,t] ty #[.slice A n n,.slice (some b) m d]:Sem Value).run P w= .ok (.slice A' n' c') w2∧K A' n' c' w2:=by
 obtain⟨i,hi,hz,ND,hb⟩:=hT.info
 cases A with
 | none=>
  obtain⟨Pz,hn⟩:=h1.KL
  subst Pz hn
  exact Own.apps (Own.nil (w:=w) (Z:=fun k=>w.heap.size≤k)) hT h2 QP SI (Nat.le_refl _) (fun A' c' w2 ho hc=>hK A' c' w2 ho hc.fresh) (fun h=>absurd h (by omega))
 | some a=>
  obtain⟨v',w2,hr,ho,hg⟩:=run_append_arg_grows (P:=P) w t ty e i z (Enc.size α) bytes hT.und hi hz ND hb hT.cells hT.pos a n n (l.flatMap enc) (by rw [dx,h1.len]) (h1.flat rfl) b m d (l2.flatMap enc) (by rw [dx,h2.len]) (h2.flat rfl) (by omega) (by simp only [maxLen];omega) SI
  rw [← List.flatMap_append]at ho
  rcases ho.2 with⟨_,SV⟩ | ⟨g,cap,cur,hv,hg',QZ,rest⟩
  ·omega
  ·subst hv
   exact⟨_,_,_,_,hr,hK _ _ _ ⟨⟨⟨ho.1,.inr ⟨g,cap,cur,rfl,Nat.zero_le _,QZ,rest⟩⟩,fun a ha=>by injection ha with ha;rw [← ha];exact hg'⟩,by rw [List.length_append,h1.len,h2.len]⟩ ⟨⟨hg.os,hg.tape,hg.output,hg.size,fun k hk=>hg.block k hk.1 (by simp)⟩⟩⟩
end V
def pL(l:List U32):List U32:=l++List.replicate ((30 - l.length % 16) % 16) (U32.mk 0)
theorem Ci {l:List U32}(h:¬l.length % 16=14):pL (l++ [U32.mk 0])=pL l:=by
 have e:(30 - l.length % 16) % 16=(30 - (l++ [U32.mk 0]).length % 16) % 16+1:=by rw [List.length_append,List.length_singleton];omega
 unfold pL
 rw [e,List.append_assoc,List.replicate_succ];rfl
theorem Cj {l:List U32}(h:l.length % 16=14):pL l=l:=by unfold pL;rw [h];simp
theorem Ba(l:List U32):l.length≤(pL l).length∧(pL l).length≤l.length+15:=by unfold pL;rw [List.length_append,List.length_replicate];omega
def Dg.fin(K:List Int)(d:Dg)(x hi lo:Int):S8:=(cR K d.st (pL (d.waits++ [U32.mk x])++ [U32.mk hi,U32.mk lo])).1
def Dg.sum(K:List Int)(d:Dg):S8:=d.fin K 2147483648 (u32.wrap ((u64.wrap (32*(u64.wrap d.n)):Int).fdiv (2 ^ 32))) (u32.wrap (u64.wrap (32*(u64.wrap d.n))))
def s8C(s:S8):Array Value:= #[.int .u32 s.a,.int .u32 s.b,.int .u32 s.c,.int .u32 s.d,.int .u32 s.e,.int .u32 s.f,.int .u32 s.g,.int .u32 s.h]
theorem Bj(x0 x1 x2 x3 x4 x5 x6 x7 y0 y1 y2 y3 y4 y5 y6 y7:Value):setAt #[x0,x1,x2,x3,x4,x5,x6,x7] 0 [y0,y1,y2,y3,y4,y5,y6,y7]= #[y0,y1,y2,y3,y4,y5,y6,y7]:=by kernel_rfl
theorem Kr:SN prog 31 23 (.int .u32 0) 1 4:=qh.sn
theorem H0 {w:World} {g:Nat} {x:Int} {T:TypeId}(b:Blk w g #[.int .u32 x] T):Rd w (fun k=>k=g) (some (Addr.mk g 0 none)) 1 1 [U32.mk x]:=
 ⟨rfl,Nat.le_refl _,fun k hk=>by rw [hk];exact b.lt,fun i z hz=>⟨_,rfl,rfl,fun j hj=>by
  have hj:j=0:=by have:Enc.size U32=1:=rfl;omega
  subst hj
  match i,hz with
  | 0,hz=>injection hz with hz;subst hz;exact b.at2 (i:=0) (j:=0) rfl
  | i+1,hz=>simp at hz⟩⟩
theorem HZ {w:World} {g:Nat} {x y:Int} {T:TypeId}(b:Blk w g #[.int .u32 x,.int .u32 y] T):Rd w (fun k=>k=g) (some (Addr.mk g 0 none)) 2 2 [U32.mk x,U32.mk y]:=
 ⟨rfl,Nat.le_refl _,fun k hk=>by rw [hk];exact b.lt,fun i z hz=>⟨_,rfl,rfl,fun j hj=>by
  have hj:j=0:=by have:Enc.size U32=1:=rfl;omega
  subst hj
  match i,hz with
  | 0,hz=>injection hz with hz;subst hz;exact b.at2 (i:=0) (j:=0) rfl
  | 1,hz=>injection hz with hz;subst hz;exact b.at2 (i:=1) (j:=0) rfl
  | i+2,hz=>simp at hz⟩⟩
attribute [local irreducible] cR gR
theorem MF {g:Nat} {L:DgL} {D:Dg} {K:List Int} {w:World}(h:jj w g L D)(hk:gz w 0 K)(hl:D.waits.length<16)(last long:Int):
 Calls prog 174 #[.pointer (some (Addr.mk g 0 none)),.int .u32 last,.int .u64 long] w fun e w'=>∃v,e= .returned v∧v= .agg (s8C (D.fin K last (u32.wrap ((long:Int).fdiv (2 ^ 32))) (u32.wrap long)))∧Pu w w':=by
 obtain⟨⟨T,hb⟩,hr,QY⟩:=h
 have hlen:=hr.len
 have U3:=hr.cap
 refine Al _ _ _ ?_
 refine mkd fun gv w1 m1=>?_
 have Nz:Pu w w1.drew:=m1.pu.trans (Pu.aY w1)
 have b1:=Nz.blk hb
 refine⟨bXU [3,7,12] [] w1.drew (fun _=>False),au _ rfl ⟨.inr ⟨rfl,bX.ld b1 (fun h=>h) 9⟩,_,_,_,b1.at rfl,au _ rfl ⟨.inr ⟨rfl,bX.ld b1 (fun h=>h) 9⟩,_,_,_,b1.at rfl,au _ rfl ⟨.inr ⟨rfl,bX.ld b1 (fun h=>h) 9⟩,_,_,_,b1.at rfl,⟨by omega,by omega⟩,⟨by omega,by omega⟩,?_⟩⟩⟩⟩
 rintro A1 hA1 N1 hN1 C1 hC1
 have hN1:N1=L.n:=by simpa using hN1
 have hC1:C1=L.n:=by simpa using hC1
 subst hN1
 subst hC1
 have r1:Rd w1.drew L.Y A1 L.n L.n D.waits:=by
  have:=(hr.pu Nz).cut (lo:=0) (hi:=L.n) (m:=L.n) (A':=A1) (n':=L.n) (c':=L.n) (by rw [Int.toNat_natCast]at hA1;exact hA1) (by omega) (by omega) (by omega) (by omega) (by omega)
  rwa [List.drop_zero,Nat.sub_zero,List.take_of_length_le (by omega)]at this
 refine mkd fun g2 w2 m2=>bXU.gj m2.pu rfl ?_
 have NN:Pu w w2:=Nz.trans m2.pu
 refine Rd.Mh Kr (r1.pu m2.pu) (H0 m2.blk) (by omega) (by omega) (by omega) fun A3 c3 w3 o3 p3=>bXU.gj p3 rfl ?_
 have hz:=Ba (D.waits++ [U32.mk last])
 rw [List.length_append,List.length_singleton]at hz
 refine⟨fun m A N C w'=>∃ll:List U32,Own w' (fun k=>w2.heap.size≤k) 23 A N C ll∧pL ll=pL (D.waits++ [U32.mk last])∧m=(30 - ll.length % 16) % 16∧Pu w2 w',⟨_,_,o3,rfl,rfl,p3⟩,?_⟩
 rintro m _ A4 N4 C4 w4 ⟨ll,o4,e4,rfl,p4⟩
 have s4:w2.heap.size≤w4.heap.size:=p4.size
 have hN4:=o4.len
 have hz4:=Ba ll
 rw [e4]at hz4
 have et:((N4:Nat):Int).tmod 16=((N4 % 16:Nat):Int):=by rw [Int.tmod_eq_emod_of_nonneg (by omega)];omega
 refine aV (fun Pb=>?_) (fun heq=>?_)
 ·have Pb:¬ll.length % 16=14:=by rw [et]at Pb;omega
  refine mkd fun g5 w5 m5=>?_
  refine Own.app (x:=U32.mk 0) (o4.pu m5.pu) Kr m5.blk rfl (by omega) (by omega) (Nat.le_trans s4 m5.pu.size) fun A6 c6 w6 o6 q6=>?_
  exact⟨_,by rw [List.length_append,List.length_singleton];omega,ll++ [U32.mk 0],o6,(Ci Pb).trans e4,rfl,(p4.trans m5.pu).call q6 fun k hk=>.inr hk⟩
 ·have heq:ll.length % 16=14:=by rw [et]at heq;omega
  rw [Cj heq]at e4
  refine mkd fun g5 w5 m5=>?_
  refine Own.apps (o4.pu m5.pu) Kr (HZ m5.blk) (by omega) (by omega) (Nat.le_trans s4 m5.pu.size) (fun A6 c6 w6 o6 q6=>?_) (fun h=>absurd h (by omega))
  have WW:Pu w2 w6:=(p4.trans m5.pu).call q6 fun k hk=>.inr hk
  have p6:Pu w w6:=NN.trans WW
  have b6:=p6.blk hb
  refine au _ rfl ⟨_,_,_,_,_,_,_,_,⟨b6.at2 rfl,b6.at2 rfl,b6.at2 rfl,b6.at2 rfl,b6.at2 rfl,b6.at2 rfl,b6.at2 rfl,b6.at2 rfl⟩,mkd fun g7 w7 m7=>bQ m7.blk (by simp) fun w8 s8=>?_⟩
  have p68:Pu w6 w8:=m7.pu.stored s8 (.inr (by rw [m7.num];exact Nat.le_refl _))
  have r8:Rd w8 (fun k=>w2.heap.size≤k∧k<w6.heap.size) A6 (N4+2) c6 (ll++ [U32.mk (u32.wrap ((long:Int).fdiv (2 ^ 32))),U32.mk (u32.wrap long)]):=o6.rd.pu p68
  have bgv:Blk w8 gv #[.int .u32 0,.int .u32 0,.int .u32 0,.int .u32 0,.int .u32 0,.int .u32 0,.int .u32 0,.int .u32 0] 24:=by
   have q:Pu w1 w2:=(Pu.aY w1).trans m2.pu
   exact Pu.blk ((q.trans WW).trans p68) m1.blk
  have g7lt:w6.heap.size=g7:=m7.num.symm
  obtain⟨LL,hLL⟩:∃LL,LL=ll++ [U32.mk (u32.wrap ((long:Int).fdiv (2 ^ 32))),U32.mk (u32.wrap long)]:=⟨_,rfl⟩
  have aea:LL.length % 16=0:=by rw [hLL,List.length_append];simp;omega
  rw [← hLL]at r8
  have i8:Blk w8 g7 (s8C D.st) 24:=by have h9:=s8.blk;rw [Bj]at h9;exact h9
  refine⟨fun m A N C w'=>∃(S:S8)(rr:List U32),Rd w' (fun k=>w2.heap.size≤k∧k<w6.heap.size) A N C rr∧cR K S rr=cR K D.st LL∧rr.length % 16=0∧m=rr.length∧Blk w' g7 (s8C S) 24∧Blk w' gv #[.int .u32 0,.int .u32 0,.int .u32 0,.int .u32 0,.int .u32 0,.int .u32 0,.int .u32 0,.int .u32 0] 24∧Pu w w',⟨LL.length,D.st,LL,r8,rfl,aea,rfl,i8,bgv,p6.trans p68⟩,?_⟩
  rintro m _ A9 N9 C9 w9 ⟨⟨sa,sb,sc,sd,se,sf,sg,sh⟩,rr,r9,e9,h16,rfl,b9,bv9,p9⟩
  have hN9:=r9.len
  have hC9:=r9.cap
  refine ax (fun Wl=>?_) (fun h0=>?_)
  ·have hlr:16≤rr.length:=by omega
   have pd:=Pu.aY w9
   have Q6:=pd.blk b9
   obtain⟨p,rfl,hp,hc⟩:=(r9.pu pd).u32 (by omega)
   refine⟨fun _ _=>True,trivial,_,_,_,_,_,_,_,_,⟨Q6.at rfl,Q6.at rfl,Q6.at rfl,Q6.at rfl,Q6.at rfl,Q6.at rfl,Q6.at rfl,Q6.at rfl⟩,by omega,au _ rfl ⟨trivial,_,_,_,_,_,_,_,_,_,_,_,_,_,_,_,_,⟨hc 0 (by omega),hc 1 (by omega),hc 2 (by omega),hc 3 (by omega),hc 4 (by omega),hc 5 (by omega),hc 6 (by omega),hc 7 (by omega),hc 8 (by omega),hc 9 (by omega),hc 10 (by omega),hc 11 (by omega),hc 12 (by omega),hc 13 (by omega),hc 14 (by omega),hc 15 (by omega)⟩,?_⟩⟩
   refine(EY (hk.pu (p9.trans pd)) _ _ _ _ _ _ _ _ _ _ _ _ _ _ _ _ _ _ _ _ _ _ _ _).mono ?_
   rintro e w11 ⟨_,rfl,rfl,p11⟩
   have pp:Pu w9 w11:=pd.trans p11
   refine⟨_,_,_,_,_,_,_,_,rfl,_,fun _ _ h=>h,bQ (pp.blk b9) (by simp [s8C]) fun w12 Py=>⟨_,fun _ _ h=>h,⟨by omega,by omega⟩,?_⟩⟩
   rintro A13 aef N13 ad5 C13 aed
   have r12:Rd w12 (fun k=>w2.heap.size≤k∧k<w6.heap.size) (some p) N9 C9 rr:=(r9.pu pp).ch Py.ch fun k hk e=>by omega
   refine⟨rr.length - 16,by omega,gR K ⟨sa,sb,sc,sd,se,sf,sg,sh⟩ ((rr.take 16).map U32.v),rr.drop 16,r12.from_ (m:=C9) (lo:=16) aef ad5 aed (by omega) (by omega),by rw [← fL hlr];exact e9,by rw [List.length_drop];omega,by rw [List.length_drop],?_,Py.old (pp.blk bv9) (fun e=>by have:=m1.blk.lt;have:=((Pu.aY w1).trans m2.pu).size;have:=p3.size;omega),p9.trans pp |>.stored Py (.inr ?_)⟩
   ·have h9:=Py.blk
    unfold s8C at h9 ⊢
    rw [Bj]at h9
    rw [jt hlr];exact h9
   ·rw [← g7lt];exact p6.size
  ·have Wo:rr= []:=List.eq_nil_of_length_eq_zero (by omega)
   subst Wo
   rw [fM (by simp)]at e9
   refine⟨_,_,_,_,_,_,_,_,⟨b9.at rfl,b9.at rfl,b9.at rfl,b9.at rfl,b9.at rfl,b9.at rfl,b9.at rfl,b9.at rfl⟩,bQ bv9 (by simp) fun w10 QE=>?_⟩
   have Q6:=QE.blk
   rw [Bj]at Q6
   refine⟨_,_,_,_,_,_,_,_,⟨Q6.at rfl,Q6.at rfl,Q6.at rfl,Q6.at rfl,Q6.at rfl,Q6.at rfl,Q6.at rfl,Q6.at rfl⟩,?_,p9.stored QE (.inr (by rw [m1.num];exact Nat.le_refl _))⟩
   have e:D.fin K last (u32.wrap ((long:Int).fdiv (2 ^ 32))) (u32.wrap long)=⟨sa,sb,sc,sd,se,sf,sg,sh⟩:=by
    unfold Dg.fin
    rw [← e4,← hLL,← e9]
   rw [e];rfl
theorem Lw {g:Nat} {L:DgL} {D:Dg} {K:List Int} {w:World}(h:jj w g L D)(hk:gz w 0 K)(hl:D.waits.length<16):
 Calls prog 115 #[.pointer (some (Addr.mk g 0 none))] w fun e w'=>∃v,e= .returned v∧v= .agg (s8C (D.sum K))∧Pu w w':=by
 refine oe _ ?_
 refine mkd fun gv w1 m1=>?_
 have h1:=h.pu m1.pu
 obtain⟨T,hb⟩:=h1.blk
 refine au _ rfl ⟨_,hb.at rfl,(MF h1 (hk.pu m1.pu) hl _ _).mono ?_⟩
 rintro e w2 ⟨_,rfl,rfl,p2⟩
 have e:D.sum K=D.fin K 2147483648 (u32.wrap ((u64.wrap (32*(u64.wrap D.n)):Int).fdiv (2 ^ 32))) (u32.wrap (u64.wrap (32*(u64.wrap D.n)))):=rfl
 rw [e]
 generalize D.fin K 2147483648 _ _=S
 obtain⟨sa,sb,sc,sd,se,sf,sg,sh⟩:=S
 refine⟨_,_,_,_,_,_,_,_,rfl,bQ (p2.blk m1.blk) (by simp) fun w3 s3=>?_⟩
 have b3:=s3.blk
 unfold s8C at *
 rw [Bj]at b3
 exact⟨_,_,_,_,_,_,_,_,⟨b3.at rfl,b3.at rfl,b3.at rfl,b3.at rfl,b3.at rfl,b3.at rfl,b3.at rfl,b3.at rfl⟩,rfl,(m1.pu.trans p2).stored s3 (.inr (by rw [m1.num];exact Nat.le_refl _))⟩
end
section
theorem sB8:S1 prog 187 5 (.int .u8 0) 1:=S1.of (by kernel_rfl) (by kernel_rfl) rfl
theorem rdB {α:Type} [Enc α] {w:World} {g:Nat} {cs:Array Value} {T:TypeId} {l:List α}(b:Blk w g cs T)(h:cs.toList=l.flatMap enc) {n c:Nat}(hn:l.length=n)(hc:n≤c):Rd w (fun k=>k=g) (some (Addr.mk g 0 none)) n c l:=
 ⟨hn,hc,fun k hk=>hk▸b.lt,fun i x hx=>⟨_,rfl,rfl,fun j hj=>by
  have h1:=flat_get l i j x hx hj
  have hv:(enc x)[j]? =some ((enc x)[j]'(by rw [bV];exact hj)):=List.getElem?_eq_getElem _
  rw [hv]
  exact b.at2 (by rw [← Array.getElem?_toList,h,h1,hv])⟩⟩
theorem CT {α:Type} [Enc α] {P:Program} {w:World} {t e:TypeId} {z:Value} {bytes:Nat}(h:S1 P t e z bytes)(hs:Enc.size α=1) {n:Int}(h0:0≤n)(hn:(bytes:Int)*n≤281474976710656)(QP:n≤9223372036854775807) {K:Option Addr→Nat→Nat→World→Prop}
 (hK:∀A C w2,Own w2 (fun k=>w.heap.size≤k) e A 0 C ([]:List α)→Pu w w2→K A 0 C w2):
 ∃(A:Option Addr)(N C:Nat)(w2:World),(Instr.makeSlice t (.int .i64 0) (.int .i64 n):Sem Value).run P w= .ok (.slice A N C) w2∧K A N C w2:=by
 obtain⟨i,hi,hz,ND,hb⟩:=h.info
 have en:n=((n.toNat:Nat):Int):=by omega
 have eb:((bytes*n.toNat:Nat):Int)=(bytes:Int)*n:=by rw [Int.natCast_mul,← en]
 obtain⟨w2,hr,ho,hg⟩:=run_make_own (P:=P) w w.heap.size t e i z 1 h.und hi hz ND .i64 .i64 n.toNat (by rw [hb];omega) (by simp only [maxLen];omega) (Nat.le_refl _)
 rw [← en]at hr
 refine⟨_,_,_,_,hr,hK _ _ _ ⟨⟨?_,fun a ha=>?_⟩,rfl⟩ ⟨⟨hg.os,hg.tape,hg.output,hg.size,fun k hk=>hg.block k hk.1 (by simp)⟩⟩⟩
 ·rw [hs]
  rcases ho with⟨h1,h2⟩
  refine⟨h1,?_⟩
  rcases h2 with h2 | ⟨g,cap,cur,hv,QZ,rest⟩
  ·exact .inl h2
  ·exact .inr ⟨g,cap,cur,hv,Nat.zero_le _,rest⟩
 ·injection ha with ha;rw [← ha];exact Nat.le_refl _
def byW(x:Int)(k:Nat):U8:=⟨IntKind.u8.wrap (x.fdiv (2 ^ k))⟩
def zW(x:U32):List U8:= [byW x.v 24,byW x.v 16,byW x.v 8,byW x.v 0]
def gg(l:List U32):List U8:=l.flatMap zW
theorem xF {l:List U32} {k:Nat} {x:U32}(h:l[k]? =some x):gg (l.take (k+1))=gg (l.take k)++zW x:=by
 unfold gg
 rw [List.take_add_one,h,List.flatMap_append];simp
theorem HJ {w:World} {Y:Nat→Prop} {A:Option Addr} {n c:Nat} {l:List U32}(h:Rd w Y A n c l)(hn:n≤1099511627776):
 Calls prog 169 #[.slice A n c] w fun e w'=>∃v,e= .returned v∧∃A' c',v= .slice A' (4*n) c'∧Own w' (fun k=>w.heap.size≤k) 5 A' (4*n) c' (gg l)∧Pu w w':=by
 have hl:=h.len
 refine sm _ _ _ ?_
 refine CT (α:=U8) sB8 rfl (by rw [aq (by omega)];omega) (by rw [aq (by omega)];omega) (by rw [aq (by omega)];omega) fun A0 C0 w0 o0 p0=>?_
 refine⟨fun m A' N' C' i w'=>∃k:Nat,i=(k:Int)∧k≤n∧m=n - k∧N'=4*k∧Own w' (fun a=>w.heap.size≤a) 5 A' (4*k) C' (gg (l.take k))∧Pu w w',⟨n,0,rfl,Nat.zero_le _,rfl,rfl,o0,p0⟩,?_⟩
 rintro m _ A' _ C' _ w1 ⟨k,rfl,hk,rfl,rfl,ho,q⟩
 refine ax (fun hb=>?_) (fun hb=>?_)
 ·refine⟨by omega,?_⟩
  obtain⟨p,x,hA,hx,hz,hc⟩:=(h.pu q).ld (i:=(k:Int)) (by omega) (by omega)
  rw [Int.toNat_natCast]at hx hc
  refine au p hA ⟨x.v,by rw [Int.toNat_natCast];have:=hc 0 (by decide);exact this,?_⟩
  intro gv w2 hg hw
  have hM:=made hg hw
  refine Own.apps (l2:=zW x) (m:=4) (d:=4) (ho.pu hM.pu) sB8.sn (rdB hM.blk rfl rfl (Nat.le_refl _)) (by omega) (by omega) (by have:=hM.pu.size;have:=q.size;omega) (fun A3 c3 w3 o3 q3=>?_) (fun h=>absurd h (by omega))
  refine⟨n - (k+1),by omega,k+1,by rw [aq (by omega)];omega,by omega,rfl,by omega,?_,(q.trans hM.pu).call q3 fun a ha=>.inr ha⟩
  rw [xF hx];exact o3
 ·obtain rfl:k=n:=by omega
  refine⟨_,_,rfl,?_,q⟩
  rwa [List.take_of_length_le (by omega)]at ho
def be(a b c d:Int):Int:=u32.wrap (BitVec.ofInt u32.bits (u32.wrap (BitVec.ofInt u32.bits (u32.wrap (BitVec.ofInt u32.bits (u32.wrap ((u32.wrap a:Int)*2 ^ 24)) ||| BitVec.ofInt u32.bits (u32.wrap ((u32.wrap b:Int)*2 ^ 16))).toNat) ||| BitVec.ofInt u32.bits (u32.wrap ((u32.wrap c:Int)*2 ^ 8))).toNat) ||| BitVec.ofInt u32.bits (u32.wrap ((u32.wrap d:Int)*2 ^ 0))).toNat
theorem K9(a b c d:Int):0≤be a b c d∧be a b c d<4294967296:=bL _
def uq(l:List U8)(i:Nat):U32:=⟨be (l.getD (4*i) ⟨0⟩).v (l.getD (4*i+1) ⟨0⟩).v (l.getD (4*i+2) ⟨0⟩).v (l.getD (4*i+3) ⟨0⟩).v⟩
def lO(l:List U8):List U32:=(List.range (l.length / 4)).map (uq l)
theorem zf(l:List U8):(lO l).length=l.length / 4:=by unfold lO;rw [List.length_map,List.length_range]
theorem ze {l:List U8}:∀x∈lO l,0≤x.v∧x.v<4294967296:=by
 intro x hx
 obtain⟨i,_,rfl⟩:=List.mem_map.1 hx
 exact K9 _ _ _ _
def aQ(l:List U8)(k:Nat):List U32:=(List.range k).map (uq l)++List.replicate (l.length / 4 - k) ⟨0⟩
theorem vK {l:List U8} {k:Nat}(hk:k<l.length / 4):(aQ l k).set k (uq l k)=aQ l (k+1):=by
 unfold aQ
 rw [List.set_append_right _ _ (by simp),List.range_succ,List.map_append,List.append_assoc]
 congr 1
 rw [show l.length / 4 - k=(l.length / 4 - (k+1))+1 by omega,List.replicate_succ]
 simp
theorem LB {w:World} {Z:Nat→Prop} {A:Option Addr} {n c:Nat} {l:List U8}(h:Rd w Z A n c l)(h0:0<n):∃p,A=some p∧∀i,i<n→w.cell? (p.add i)=some (.int .u8 (l.getD i ⟨0⟩).v):=by
 obtain⟨p,x,hA,hx,hz,hc⟩:=h.ld (i:=0) (by omega) (by omega)
 refine⟨p,hA,fun i hi=>?_⟩
 obtain⟨p',x',Qq,Vx,_,SH⟩:=h.ld (i:=(i:Int)) (by omega) (by omega)
 rw [hA]at Qq
 injection Qq with e
 subst e
 rw [Int.toNat_natCast]at Vx SH
 have:=SH 0 (by decide)
 rw [List.getD_eq_getElem?_getD,Vx]
 rw [show(p.add (i*Enc.size U8)).add 0=p.add i by rw [add_add,Nat.add_zero,show i*Enc.size U8=i from Nat.mul_one i]]at this
 exact this
theorem HI {w:World} {Y:Nat→Prop} {A:Option Addr} {n c:Nat} {l:List U8}(h:Rd w Y A n c l)(hn:n≤1048576)(h4:n % 4=0):
 Calls prog 170 #[.slice A n c] w fun e w'=>∃v,e= .returned v∧∃A' c',v= .tuple #[.slice A' (n / 4) c',.int .i64 0]∧Own w' (fun k=>w.heap.size≤k) 23 A' (n / 4) c' (lO l)∧Pu w w':=by
 have hl:=h.len
 have U3:=h.cap
 have et:(n:Int).tmod 4=0:=by rw [Int.tmod_eq_emod_of_nonneg (by omega)];omega
 have ed:i64.wrap ((n:Int).tdiv 4)=((n / 4:Nat):Int):=by
  have:(n:Int).tdiv 4=(n:Int) / 4:=Int.tdiv_eq_ediv_of_nonneg (by omega)
  rw [this,aq (by omega)];omega
 refine sk _ _ _ ?_
 refine ax (fun hb=>by omega) (fun hb=>?_)
 refine aV (fun hb=>absurd et hb) (fun _=>?_)
 refine wO qh (⟨0⟩:U32) rfl (by omega) (by omega) (by omega) fun g w0 hM0 o0=>?_
 have eN:(i64.wrap ((n:Int).tdiv 4)).toNat=n / 4:=by omega
 rw [eN]at o0 ⊢
 have p0:Pu w w0:=hM0.pu
 have hg:w.heap.size≤g:=by rw [hM0.num];exact Nat.le_refl _
 refine⟨fun m i w'=>∃k:Nat,i=(k:Int)∧k≤n / 4∧m=n / 4 - k∧Own w' (fun a=>a=g) 23 (some (Addr.mk g 0 none)) (n / 4) (n / 4) (aQ l k)∧Pu w w',⟨n / 4,0,rfl,Nat.zero_le _,rfl,by unfold aQ;rw [hl];exact o0,p0⟩,?_⟩
 rintro m _ _ w1 ⟨k,rfl,hk,rfl,ho,q⟩
 refine ax (fun hb=>?_) (fun hb=>?_)
 ·have e4:i64.wrap (4*(k:Int))=((4*k:Nat):Int):=by rw [aq (by omega)];omega
  rw [e4]
  refine⟨by omega,?_⟩
  rintro A2 hA2 N2 hN2 C2 hC2
  rw [Int.toNat_natCast]at hA2 hN2 hC2
  have r2:Rd w1 Y A2 N2 C2 (l.drop (4*k)):=(h.pu q).from_ (m:=c) (lo:=4*k) hA2 hN2 hC2 (by omega) U3
  obtain⟨p,rfl,hc⟩:=LB r2 (by omega)
  have hd:∀j,(l.drop (4*k)).getD j ⟨0⟩=l.getD (4*k+j) ⟨0⟩:=fun j=>by rw [List.getD_eq_getElem?_getD,List.getElem?_drop,List.getD_eq_getElem?_getD]
  refine⟨fun _ _=>True,by omega,au p rfl ⟨trivial,_,hc 0 (by omega),by omega,au p rfl ⟨trivial,_,hc 1 (by omega),by omega,au p rfl ⟨trivial,_,hc 2 (by omega),by omega,au p rfl ⟨trivial,_,hc 3 (by omega),by omega,au _ rfl ?_⟩⟩⟩⟩⟩
  rw [Int.toNat_natCast]
  have hw:(aQ l k)[k]? =some ⟨0⟩:=by
   unfold aQ
   rw [List.getElem?_append_right (by simp),List.getElem?_replicate,if_pos (by simp;omega)]
  refine(ho.pu (Pu.aY w1)).st0 rfl (i:=k) (by omega) hw (y:=uq l k) (by simp only [hd];rfl) fun w2 o2 q2=>?_
  refine⟨_,fun _ _ h=>h,n / 4 - (k+1),by omega,k+1,by rw [aq (by omega)];omega,by omega,rfl,?_,(q.trans (Pu.aY w1)).call q2 fun a ha=>.inr (by have:a=g:=ha;omega)⟩
  rw [← vK (by omega)];exact o2
 ·obtain rfl:k=n / 4:=by omega
  refine⟨_,_,rfl,?_,q⟩
  have e:aQ l (n / 4)=lO l:=by unfold aQ lO;rw [hl,Nat.sub_self];simp
  rw [e]at ho
  exact ho.mono fun a ha=>by have:a=g:=ha;omega
def J6(x p:Int):Int:=IntKind.u8.wrap (BitVec.ofInt IntKind.u8.bits x ^^^ BitVec.ofInt IntKind.u8.bits p).toNat
def full(l:List U8):List U8:=l++List.replicate (64 - l.length) ⟨0⟩
def zB(l:List U8)(p:Int):List U8:=(full l).map fun x=>⟨J6 x.v p⟩
theorem ki {l:List U8}(h:l.length≤64):(full l).length=64:=by unfold full;rw [List.length_append,List.length_replicate];omega
theorem fF {l:List U8}(h:l.length≤64)(p:Int):(zB l p).length=64:=by unfold zB;rw [List.length_map,ki h]
def oZ(l:List U8)(p:Int)(k:Nat):List U8:=(zB l p).take k++(full l).drop k
theorem Fg {l:List U8} {p:Int}(h:l.length≤64) {k:Nat}(hk:k≤64):(oZ l p k).length=64:=by unfold oZ;rw [List.length_append,List.length_take,List.length_drop,fF h,ki h];omega
theorem Fh {l:List U8} {p:Int}(h:l.length≤64) {k:Nat}(hk:k<64):(oZ l p k)[k]? =some ((full l).getD k ⟨0⟩):=by
 unfold oZ
 rw [List.getElem?_append_right (by rw [List.length_take,fF h];omega),List.length_take,fF h,List.getElem?_drop,show k+(k - min k 64)=k by omega,List.getD_eq_getElem?_getD,List.getElem?_eq_getElem (by rw [ki h];exact hk)];rfl
theorem CL {l:List U8} {p:Int}(h:l.length≤64) {k:Nat}(hk:k<64):(oZ l p k).set k ⟨J6 ((full l).getD k ⟨0⟩).v p⟩=oZ l p (k+1):=by
 have hf:=ki h
 unfold oZ
 have hx:(full l)[k]? =some ((full l).getD k ⟨0⟩):=by rw [List.getD_eq_getElem?_getD,List.getElem?_eq_getElem (by omega)];rfl
 have hp:(zB l p)[k]? =some ⟨J6 ((full l).getD k ⟨0⟩).v p⟩:=by unfold zB;rw [List.getElem?_map,hx];rfl
 rw [List.take_add_one,hp,List.set_append_right _ _ (by rw [List.length_take,fF h];omega),List.length_take,fF h,show k - min k 64=0 by omega,List.append_assoc]
 congr 1
 have Ol:k<(full l).length:=by omega
 rw [List.drop_eq_getElem_cons Ol];rfl
theorem K6(l:List U8):(l.map fun x:U8=>Value.int .u8 x.v)=l.flatMap enc:=by
 induction l with
 | nil=>rfl
 | cons x r ih=>rw [List.map_cons,List.flatMap_cons,ih];rfl
theorem E8 {w:World} {Z:Nat→Prop} {A:Option Addr} {n c:Nat} {l:List U8}(h:Rd w Z A n c l):de w Z .u8 A n c (l.map U8.v):=
 ⟨by rw [List.length_map];exact h.len,h.cap,fun j x hx=>by
  rw [List.getElem?_map]at hx
  obtain⟨y,hy,rfl⟩:=Option.map_eq_some_iff.1 hx
  obtain⟨p,hA,hz,hc⟩:=h.cell j y hy
  have:=hc 0 (by decide)
  rw [show(p.add (j*Enc.size U8)).add 0=p.add j by rw [add_add,Nat.add_zero,show j*Enc.size U8=j from Nat.mul_one j]]at this
  exact⟨p,hA,hz,this⟩⟩
theorem ES {l:List U8}(h:l.length≤64):(setAt (Array.replicate 64 (.int .u8 0)) 0 (((l.map U8.v).take (min l.length 64)).map (Value.int .u8))).toList=(full l).map fun x:U8=>Value.int .u8 x.v:=by
 apply List.ext_getElem?
 intro i
 rw [Array.getElem?_toList,dC _ _ _ _ (by simp;omega)]
 unfold full
 simp only [List.length_map,List.length_take,List.getElem?_map,List.getElem?_append,List.getElem?_replicate,List.getElem?_take,Array.getElem?_replicate]
 rw [show min l.length 64=l.length by omega,Nat.min_self]
 by_cases hi:i<l.length
 ·rw [if_pos ⟨by omega,by omega⟩,if_pos hi,if_pos (by omega)]
  simp [List.getElem?_eq_getElem hi]
 ·rw [if_neg (by omega),if_neg hi]
  by_cases RR:i<64
  ·rw [if_pos RR,if_pos (by omega)];rfl
  ·rw [if_neg RR,if_neg (by omega)];rfl
theorem Iv {w:World} {Y:Nat→Prop} {A:Option Addr} {n c:Nat} {l:List U8}(h:Rd w Y A n c l)(hn:n≤64)(pad:Int):
 Calls prog 171 #[.slice A n c,.int .u8 pad] w fun e w'=>∃v,e= .returned v∧∃g,v= .slice (some (Addr.mk g 0 none)) 64 64∧Rd w' (fun k=>k=g) (some (Addr.mk g 0 none)) 64 64 (zB l pad)∧w.heap.size≤g∧Pu w w':=by
 have hl:=h.len
 have RR:l.length≤64:=by omega
 refine sK _ _ _ _ ?_
 refine⟨fun A' n' c' w'=>w'=w∧A'=A∧n'=n∧c'=c,ax (fun hb=>by omega) (fun _=>⟨rfl,rfl,rfl,rfl⟩),?_⟩
 rintro _ _ _ _ wv ⟨rfl,rfl,rfl,rfl⟩
 refine pz sB8 (n:=64) (by decide) (by decide) (by decide) fun g w1 m1=>?_
 have hg:wv.heap.size≤g:=by rw [m1.num];exact Nat.le_refl _
 refine pG sB8 (o:=0) m1.blk ((E8 h).pu m1.pu) (by simp;omega) fun w2 s2=>?_
 have b2:Blk w2 g ((oZ l pad 0).map fun x:U8=>Value.int .u8 x.v).toArray 5:=by
  refine s2.blk.cast ?_
  apply Array.ext'
  rw [← hl]
  have:=ES RR
  unfold oZ
  rw [List.take_zero,List.nil_append,List.drop_zero]
  exact this.symm
 have p2:Pu wv w2:=m1.pu.stored s2 (.inr hg)
 refine⟨fun m i w'=>∃k:Nat,i=(k:Int)∧k≤64∧m=64 - k∧Blk w' g ((oZ l pad k).map fun x:U8=>Value.int .u8 x.v).toArray 5∧Pu wv w',⟨64,0,rfl,by omega,rfl,b2,p2⟩,?_⟩
 rintro m _ _ w3 ⟨k,rfl,hk,rfl,b3,p3⟩
 refine ax (fun hb=>?_) (fun hb=>?_)
 ·have abq:k<64:=by have hb:(k:Int)<((64:Nat):Int):=hb;omega
  have OL:=Fh (p:=pad) RR abq
  have hc:((oZ l pad k).map fun x:U8=>Value.int .u8 x.v).toArray[k*1]? =some (.int .u8 ((full l).getD k ⟨0⟩).v):=by
   rw [Nat.mul_one,List.getElem?_toArray,List.getElem?_map,OL];rfl
  refine⟨⟨by omega,by show(k:Int)<((64:Nat):Int);omega⟩,au _ rfl ⟨_,by rw [Int.toNat_natCast];exact b3.at hc,⟨by omega,by show(k:Int)<((64:Nat):Int);omega⟩,au _ rfl ?_⟩⟩
  rw [Int.toNat_natCast]
  refine bx b3 (by simp [Fg RR hk];omega) fun w4 s4=>?_
  refine⟨64 - (k+1),by omega,k+1,by rw [aq (by omega)];omega,by omega,rfl,?_,p3.stored s4 (.inr hg)⟩
  refine s4.blk.cast ?_
  rw [nM,Nat.mul_one]
  apply Array.ext'
  rw [Array.toList_setIfInBounds,← CL RR abq,List.map_set]
  rfl
 ·obtain rfl:k=64:=by have hb:¬(k:Int)<((64:Nat):Int):=hb;omega
  refine⟨g,rfl,rdB b3 ?_ (fF RR pad) (Nat.le_refl _),hg,p3⟩
  rw [← K6]
  unfold oZ
  rw [List.take_of_length_le (by rw [fF RR];exact Nat.le_refl _),List.drop_of_length_le (by rw [ki RR];exact Nat.le_refl _),List.append_nil]
attribute [local irreducible] cR gR
theorem zn(K:List Int) {d:Dg}(h:d.Ok):(d.sum K).ok:=tT _ _ _ h.st
theorem Dg.Ok.lt {d:Dg}(h:d.Ok):d.waits.length<16:=by have:=h.len;have:=h.n;omega
def s8L(s:S8):List U32:= [⟨s.a⟩,⟨s.b⟩,⟨s.c⟩,⟨s.d⟩,⟨s.e⟩,⟨s.f⟩,⟨s.g⟩,⟨s.h⟩]
theorem Ly {w:World} {g:Nat} {L:DgL} {D:Dg}(h:jj w g L D)(OQ:D.Ok):
 Calls prog 116 #[.pointer (some (Addr.mk g 0 none))] w fun e w'=>∃v,e= .returned v∧∃(g2:Nat)(L2:DgL),v= .pointer (some (Addr.mk g2 0 none))∧jj w' g2 L2 D∧(∀k,L2.X g2 k→w.heap.size≤k)∧Pu w w':=by
 obtain⟨⟨T,b⟩,hr,QY⟩:=h
 have hlen:=hr.len
 have hw:=OQ.lt
 refine yq _ ?_
 refine au _ rfl ⟨_,_,_,_,_,_,_,_,_,_,_,_,⟨b.at rfl,b.at rfl,b.at rfl,b.at rfl,b.at rfl,b.at rfl,b.at rfl,b.at rfl,b.at rfl,b.at rfl⟩,mkd fun gv w1 m1=>dB m1.blk rfl fun w2 s2=>?_⟩
 have hg:w.heap.size≤gv:=by rw [m1.num];exact Nat.le_refl _
 have p2:Pu w w2:=m1.pu.stored s2 (.inr hg)
 have b2:=p2.blk b
 refine au _ rfl ⟨_,_,_,b2.at rfl,?_⟩
 refine nd qh.sn (hr.pu p2) (by omega) (by omega) fun sA sC w3 o3 q3=>?_
 have p3:Pu w w3:=p2.trans q3
 have b3:=q3.blk s2.blk
 refine bx b3 (by simp) fun w4 s4=>?_
 have q4:Ch (fun k=>k=gv) w3 w4:=s4.ch
 have hgw:gv<w2.heap.size:=s2.blk.lt
 refine⟨gv,⟨fun k=>w2.heap.size≤k∧k<w3.heap.size,sA,L.n,sC⟩,rfl,⟨⟨_,s4.blk⟩,?_,fun e=>by have:=e.1;omega⟩,?_,p3.call q4 fun k hk=>.inr (by have:k=gv:=hk;omega)⟩
 ·have:=o3.rd
  exact(this.ch q4 fun k hk e=>by have:k=gv:=e;have:=hk.1;omega).mono (fun k hk=>hk.1) fun k hk=>by have:=hk.2;have:=q4.size;omega
 ·rintro k (rfl | hk)
  ·exact hg
  ·have:=hk.1;have:=p2.size;omega
def wP(K:List Int)(kb:List U8)(pad:Int):Dg:=Dg.new.add K (lO (zB kb pad))
theorem mQ(K:List Int)(kb:List U8)(pad:Int):(wP K kb pad).Ok:=Dg.me Dg.nV ze
def cp(K:List Int)(key msg:List U32):S8:=((wP K (gg key) 92).add K (s8L (((wP K (gg key) 54).add K msg).sum K))).sum K
theorem FN {w:World} {Y:Nat→Prop} {A:Option Addr} {n c:Nat} {l:List U8} {K:List Int}(h:Rd w Y A n c l)(hk:gz w 0 K)(hn:n≤64)(pad:Int):
 Calls prog 113 #[.slice A n c,.int .u8 pad] w fun e w'=>∃v,e= .returned v∧∃(g:Nat)(L:DgL),v= .pointer (some (Addr.mk g 0 none))∧jj w' g L (wP K l pad)∧(∀k,L.X g k→w.heap.size≤k)∧Pu w w':=by
 have hl:=h.len
 refine vu _ _ _ _ ?_
 refine ME.mono ?_
 rintro e w1 ⟨_,rfl,g,L,rfl,hD,hg,p1⟩
 refine⟨_,rfl,(Iv (h.pu p1) hn pad).mono ?_⟩
 rintro e w2 ⟨_,rfl,g2,rfl,r2,hg2,p2⟩
 refine⟨_,_,_,rfl,(HI r2 (by omega) (by decide)).mono ?_⟩
 rintro e w3 ⟨_,rfl,A3,c3,rfl,o3,p3⟩
 have hpl:=fF (l:=l) (by omega) pad
 have SQ:Pu w1 w3:=p2.trans p3
 have QZ:=hg g (.inl rfl)
 have hg1:=hD.lt g (.inl rfl)
 have Xa:=hk.lt _ rfl
 have Uu:=p2.size
 refine⟨_,_,_,_,rfl,(Kt (hD.pu SQ) o3.rd (hk.pu (p1.trans SQ)) Dg.nV (by rw [zf,hpl];decide) (fun e=>by have:=e.1;omega) (by omega)).mono ?_⟩
 rintro e w4 ⟨_,rfl,L4,rfl,hD4,hg4,q4⟩
 exact⟨rfl,g,L4,rfl,hD4,fun k hk=>(hg4 k hk).elim (hg k) fun h9=>by have:=SQ.size;have:=p1.size;omega,(p1.trans SQ).call q4 fun k hk=>.inr (hg k hk)⟩
theorem KV {w:World} {Y:Nat→Prop} {A:Option Addr} {n c:Nat} {l:List U32}(h:Rd w Y A n c l)(hn:n≤16):
 Calls prog 112 #[.slice A n c] w fun e w'=>∃v,e= .returned v∧∃A' c',v= .slice A' (4*n) c'∧Own w' (fun k=>w.heap.size≤k) 5 A' (4*n) c' (gg l)∧Pu w w':=by
 refine vt _ _ _ (ax (fun hb=>by omega) fun _=>?_)
 refine(HJ h (by omega)).mono ?_
 rintro e w1 ⟨_,rfl,A',c',rfl,ho,p⟩
 exact⟨_,_,_,rfl,_,_,rfl,ho,p⟩
structure Mu(w:World)(g:Nat)(X:Nat→Prop)(D1 D2:Dg):Prop where
 ex:∃(T:TypeId)(g1 g2:Nat)(L1 L2:DgL),Blk w g #[.pointer (some (Addr.mk g1 0 none)),.pointer (some (Addr.mk g2 0 none))] T∧jj w g1 L1 D1∧jj w g2 L2 D2∧(∀k,L1.X g1 k→X k)∧(∀k,L2.X g2 k→X k)∧(∀k,L1.X g1 k→¬L2.X g2 k)∧¬L1.X g1 g∧¬L2.X g2 g
theorem MU {w:World} {Y:Nat→Prop} {A:Option Addr} {n c:Nat} {l:List U32} {K:List Int}(h:Rd w Y A n c l)(hk:gz w 0 K)(hn:n≤16):
 Calls prog 64 #[.slice A n c] w fun e w'=>∃v,e= .returned v∧∃(g:Nat),v= .pointer (some (Addr.mk g 0 none))∧Mu w' g (fun k=>w.heap.size≤k) (wP K (gg l) 54) (wP K (gg l) 92)∧w.heap.size≤g∧Pu w w':=by
 refine AH _ _ _ ?_
 refine(KV h hn).mono ?_
 rintro e w1 ⟨_,rfl,A1,c1,rfl,o1,p1⟩
 refine⟨_,_,_,rfl,(FN o1.rd (hk.pu p1) (by omega) 54).mono ?_⟩
 rintro e w2 ⟨_,rfl,g2,L2,rfl,d2,hg2,p2⟩
 refine⟨_,rfl,(FN (o1.pu p2).rd (hk.pu (p1.trans p2)) (by omega) 92).mono ?_⟩
 rintro e w3 ⟨_,rfl,g3,L3,rfl,d3,hg3,p3⟩
 refine⟨_,rfl,mkd fun gv w4 m4=>?_⟩
 have s1:=p1.size;have s2:=p2.size;have s3:=p3.size
 have Qu:=d2.lt;have Sm:=d3.lt
 have e4:=m4.num
 refine⟨gv,rfl,⟨_,g2,g3,L2,L3,m4.blk,d2.pu (p3.trans m4.pu),d3.pu m4.pu,fun k hk=>?_,fun k hk=>?_,fun k hk hk3=>?_,fun hk=>?_,fun hk=>?_⟩,by omega,(p1.trans p2).trans (p3.trans m4.pu)⟩
 ·have:=hg2 k hk;omega
 ·have:=hg3 k hk;omega
 ·have:=Qu k hk;have:=hg3 k hk3;omega
 ·have:=Qu _ hk;omega
 ·have:=Sm _ hk;omega
theorem Iu {w:World} {g:Nat} {X:Nat→Prop} {D1 D2:Dg} {K:List Int}(h:Mu w g X D1 D2)(hk:gz w 0 K)(h1:D1.Ok)(h2:D2.Ok):
 Calls prog 66 #[.pointer (some (Addr.mk g 0 none))] w fun e w'=>∃v,e= .returned v∧v= .agg (s8C ((D2.add K (s8L (D1.sum K))).sum K))∧Pu w w':=by
 obtain⟨T,g1,g2,L1,L2,hb,d1,d2,_⟩:=h
 refine sI _ ?_
 refine mkd fun gv w1 m1=>au _ rfl ⟨_,(m1.pu.blk hb).at rfl,(Lw (d1.pu m1.pu) (hk.pu m1.pu) h1.lt).mono ?_⟩
 rintro e w2 ⟨_,rfl,rfl,p2⟩
 obtain⟨S,hS⟩:∃S,S=D1.sum K:=⟨_,rfl⟩
 rw [← hS]
 refine⟨_,_,_,_,_,_,_,_,rfl,mkd fun gs w3 m3=>dB m3.blk rfl fun w4 s4=>?_⟩
 have q12:Pu w w2:=m1.pu.trans p2
 have hgs:w2.heap.size≤gs:=by rw [m3.num];exact Nat.le_refl _
 have q24:Pu w2 w4:=m3.pu.stored s4 (.inr hgs)
 have q4:Pu w w4:=q12.trans q24
 refine au _ rfl ⟨_,(q4.blk hb).at rfl,(Ly (d2.pu q4) h2).mono ?_⟩
 rintro e w5 ⟨_,rfl,g5,L5,rfl,d5,Xc,p5⟩
 refine⟨_,rfl,?_⟩
 rintro A6 hA6 N6 hN6 C6 hC6
 have b5:=p5.blk s4.blk
 have r6:Rd w5 (fun k=>k=gs) A6 N6 C6 (s8L S):=by
  subst hA6 hN6 hC6
  exact rdB (l:=s8L S) b5 rfl rfl (Nat.le_refl _)
 have Xa:=hk.lt _ rfl
 have hgsl:=s4.blk.lt
 have Py:=q12.size;have s24:=q24.size
 refine(Kt d5 r6 (hk.pu (q4.trans p5)) h2 (show 8≤1099511627776 by decide) (fun e=>by have:=Xc g5 (.inl rfl);have:g5=gs:=e;omega) (by have:=Xc g5 (.inl rfl);omega)).mono ?_
 rintro e w6 ⟨_,rfl,L6,rfl,d6,hg6,q6⟩
 have q56:Pu w w6:=(q4.trans p5).call q6 fun k hk=>.inr (by have:=Xc k hk;omega)
 have hr:∀x∈s8L S,0≤x.v∧x.v<4294967296:=by
  have:=zn K h1
  rw [← hS]at this
  obtain⟨a1,a2,a3,a4,a5,a6,a7,a8⟩:=this
  intro x hx
  simp only [s8L,List.mem_cons,List.not_mem_nil,or_false]at hx
  rcases hx with rfl | rfl | rfl | rfl | rfl | rfl | rfl | rfl<;>assumption
 refine⟨rfl,(Lw d6 (hk.pu q56) (Dg.me h2 hr).lt).mono ?_⟩
 rintro e w7 ⟨_,rfl,rfl,p7⟩
 generalize Dg.sum K (Dg.add K D2 (s8L S))=R
 have hgv:w.heap.size≤gv:=by rw [m1.num];exact Nat.le_refl _
 have q17:Pu w1 w7:=((p2.trans q24).trans p5).call q6 (fun k hk=>.inr (by have:=Xc k hk;have:=p2.size;omega)) |>.trans p7
 refine⟨_,_,_,_,_,_,_,_,rfl,dB (Pu.blk q17 m1.blk) rfl fun w8 s8=>?_⟩
 have b8:=s8.blk
 exact⟨_,_,_,_,_,_,_,_,⟨b8.at rfl,b8.at rfl,b8.at rfl,b8.at rfl,b8.at rfl,b8.at rfl,b8.at rfl,b8.at rfl⟩,rfl,(m1.pu.trans q17).stored s8 (.inr hgv)⟩
theorem JU {w:World} {Y Z:Nat→Prop} {kA mA:Option Addr} {kn kc mn mc:Nat} {key msg:List U32} {K:List Int}(h1:Rd w Y kA kn kc key)(h2:Rd w Z mA mn mc msg)(hk:gz w 0 K)(OF:kn≤16)(hmn:mn≤1099511627776)(hr:∀x∈msg,0≤x.v∧x.v<4294967296):
 Calls prog 20 #[.slice kA kn kc,.slice mA mn mc] w fun e w'=>∃v,e= .returned v∧v= .agg (s8C (cp K key msg))∧Pu w w':=by
 refine yO _ _ _ _ _ _ ?_
 refine mkd fun gv w1 m1=>?_
 refine(MU (h1.pu m1.pu) (hk.pu m1.pu) OF).mono ?_
 rintro e w2 ⟨_,rfl,g,rfl,⟨T,g1,g2,L1,L2,hb,d1,d2,x1,x2,ne,n1,n2⟩,hg,p2⟩
 have p12:=m1.pu.trans p2
 have r2:=h2.pu p12
 have hz:=h2.lt
 have Xa:=hk.lt _ rfl
 have e1:=x1 g1 (.inl rfl)
 have sz:=m1.size
 refine⟨_,rfl,au _ rfl ⟨_,hb.at rfl,(Kt d1 r2 (hk.pu p12) (mQ ..) (by rw [h2.len];exact hmn) (fun hh=>by have:=hz _ hh;omega) (by omega)).mono ?_⟩⟩
 rintro e w3 ⟨_,rfl,L3,rfl,d3,hg3,q3⟩
 have Ug:=hb.lt
 refine⟨rfl,(Iu (X:=fun _=>True) ⟨T,g1,g2,L3,L2,q3.blk hb n1,d3,d2.ch q3 (fun k hk Pl=>ne k Pl hk),fun _ _=>trivial,fun _ _=>trivial,fun k hk Ol=>(hg3 k hk).elim (fun h=>ne k h Ol) (fun h=>by have:=d2.lt k Ol;omega),fun h=>(hg3 g h).elim n1 (fun h=>by omega),n2⟩ ((hk.pu p12).ch q3 fun k hk Pl=>?_) (Dg.me (mQ ..) hr) (mQ ..)).mono ?_⟩
 ·have:=x1 k Pl;omega
 rintro e w4 ⟨_,rfl,rfl,p4⟩
 have eq:((wP K (gg key) 92).add K (s8L (((wP K (gg key) 54).add K msg).sum K))).sum K=cp K key msg:=rfl
 rw [eq]
 generalize cp K key msg=R
 have hgv:w.heap.size≤gv:=by rw [m1.num];exact Nat.le_refl _
 have q14:Pu w1 w4:=(p2.call q3 fun k hk=>.inr (x1 k hk)).trans p4
 refine⟨_,_,_,_,_,_,_,_,rfl,dB (Pu.blk q14 m1.blk) rfl fun w5 s5=>?_⟩
 have b5:=s5.blk
 exact⟨_,_,_,_,_,_,_,_,⟨b5.at rfl,b5.at rfl,b5.at rfl,b5.at rfl,b5.at rfl,b5.at rfl,b5.at rfl,b5.at rfl⟩,rfl,(m1.pu.trans q14).stored s5 (.inr hgv)⟩
theorem cC {s:S8}(h:s.ok):∀x∈s8L s,0≤x.v∧x.v<4294967296:=by
 obtain⟨a1,a2,a3,a4,a5,a6,a7,a8⟩:=h
 intro x hx
 simp only [s8L,List.mem_cons,List.not_mem_nil,or_false]at hx
 rcases hx with rfl | rfl | rfl | rfl | rfl | rfl | rfl | rfl<;>assumption
def bO(K:List Int)(k m d:S8):S8:=cp K (s8L k) (s8L m++s8L d)
theorem Be(K:List Int)(k:S8) {m d:S8}(hm:m.ok)(hd:d.ok):(bO K k m d).ok:=by
 refine zn K (Dg.me (mQ ..) (cC (zn K (Dg.me (mQ ..) ?_))))
 intro x hx
 rcases List.mem_append.1 hx with h | h
 ·exact cC hm x h
 ·exact cC hd x h
theorem Mj {w:World} {K:List Int}(hk:gz w 0 K) {k m d:S8}(hm:m.ok)(hd:d.ok):
 Calls prog 187 #[.agg (s8C k),.agg (s8C m),.agg (s8C d)] w fun e w'=>∃v,e= .returned v∧v= .agg (s8C (bO K k m d))∧Pu w w':=by
 have hmr:∀x∈s8L m++s8L d,0≤x.v∧x.v<4294967296:=fun x hx=>(List.mem_append.1 hx).elim (cC hm x) (cC hd x)
 refine AY _ _ _ _ _ _ _ _ _ _ _ _ _ _ _ _ _ _ _ _ _ _ _ _ ?_
 refine mkd fun gk w1 m1=>mkd fun gm w2 m2=>mkd fun gd w3 m3=>mkd fun gr w4 m4=>?_
 have We:Pu w2 w4:=m3.pu.trans m4.pu
 have SC:Pu w1 w4:=m2.pu.trans We
 have pd:=Pu.aY w4
 refine⟨fun _ _=>False,?_⟩
 rintro A7 hA7 N7 hN7 C7 hC7
 refine⟨by decide,by decide,?_⟩
 rintro A8 hA8 N8 hN8 C8 hC8 A9 hA9 N9 hN9 C9 hC9
 have rk:Rd w4.drew (fun j=>j=gk) A7 N7 C7 (s8L k):=by subst hA7 hN7 hC7;exact rdB (l:=s8L k) (Pu.blk (SC.trans pd) m1.blk) rfl rfl (Nat.le_refl _)
 have rm:Rd w4.drew (fun j=>j=gm) A8 N8 C8 (s8L m):=by subst hA8 hN8 hC8;exact rdB (l:=s8L m) (Pu.blk (We.trans pd) m2.blk) rfl rfl (Nat.le_refl _)
 have rd:Rd w4.drew (fun j=>j=gd) A9 N9 C9 (s8L d):=by subst hA9 hN9 hC9;exact rdB (l:=s8L d) (Pu.blk (m4.pu.trans pd) m3.blk) rfl rfl (Nat.le_refl _)
 obtain rfl:C8=8:=hC8
 obtain rfl:N8=8:=hN8
 obtain rfl:N9=8:=hN9
 have hA9:A9=some (Addr.mk gd 0 none):=hA9
 subst hA9
 refine Rd.Mh qh.sn rm rd (by omega) (by omega) (by omega) fun A3 c3 w5 o5 p5=>?_
 refine⟨p5.iI fun j hj=>by simp [du]at hj,fun _ _=>False,fun _ _ h=>h,?_⟩
 have pw:Pu w w4:=m1.pu.trans SC
 obtain rfl:N7=8:=hN7
 refine(JU (rk.pu p5) o5.rd (hk.pu ((pw.trans pd).trans p5)) (by omega) (by omega) hmr).mono ?_
 rintro e w6 ⟨_,rfl,rfl,p6⟩
 have eq:cp K (s8L k) (s8L m++s8L d)=bO K k m d:=rfl
 rw [eq]
 generalize bO K k m d=R
 have q46:Pu w4 w6:=(pd.trans p5).trans p6
 have hgr:w.heap.size≤gr:=by rw [m4.num];exact(m1.pu.trans (m2.pu.trans m3.pu)).size
 refine⟨_,_,_,_,_,_,_,_,rfl,fun _ _=>False,fun _ _ h=>h,dB (Pu.blk q46 m4.blk) rfl fun w7 s7=>⟨fun _ _=>False,fun _ _ h=>h,?_⟩⟩
 have b7:=s7.blk
 exact⟨_,_,_,_,_,_,_,_,⟨b7.at rfl,b7.at rfl,b7.at rfl,b7.at rfl,b7.at rfl,b7.at rfl,b7.at rfl,b7.at rfl⟩,rfl,(pw.trans q46).stored s7 (.inr hgr)⟩
theorem Ig {x y:Int}(hx:0≤x)(hy:0≤y):nor x y=0↔x=0∧y=0:=by
 unfold nor
 rw [show((x.toNat ||| y.toNat:Nat):Int)=0↔x.toNat ||| y.toNat=0 by omega,Nat.or_eq_zero_iff]
 omega
theorem HF {a b:Nat}:a ^^^ b=0↔a=b:=
 ⟨fun h=>by have:=congrArg (· ^^^ b) h;simpa [Nat.xor_assoc]using this,fun h=>by rw [h,Nat.xor_self]⟩
theorem Fv {x y:Int}(hx:0≤x)(hy:0≤y):CN x y=0↔x=y:=by
 unfold CN
 rw [show((x.toNat ^^^ y.toNat:Nat):Int)=0↔x.toNat ^^^ y.toNat=0 by omega,HF]
 omega
theorem HS {a b:S8}(h:∀j,j<8→(s8L a).getD j ⟨0⟩=(s8L b).getD j ⟨0⟩):a=b:=by
 have e:∀j,j<8→((s8L a).getD j ⟨0⟩).v=((s8L b).getD j ⟨0⟩).v:=fun j hj=>by rw [h j hj]
 exact S8.ext (e 0 (by omega)) (e 1 (by omega)) (e 2 (by omega)) (e 3 (by omega)) (e 4 (by omega)) (e 5 (by omega)) (e 6 (by omega)) (e 7 (by omega))
theorem LR {w:World} {a b:S8}(ha:a.ok)(hb:b.ok):
 Calls prog 221 #[.agg (s8C a),.agg (s8C b)] w fun e w'=>∃v,e= .returned v∧v= .tuple #[.bool (decide (a=b)),.int .i64 8]∧Pu w w':=by
 refine yQ _ _ _ _ _ _ _ _ _ _ _ _ _ _ _ _ ?_
 refine mkd fun ga w1 m1=>mkd fun gb w2 m2=>?_
 rintro _ rfl
 refine⟨fun m i x j w'=>∃k:Nat,j=(k:Int)∧i=(k:Int)∧k≤8∧m=8 - k∧(0≤x∧x<4294967296)∧(x=0↔∀n,n<k→(s8L a).getD n ⟨0⟩=(s8L b).getD n ⟨0⟩)∧Pu w2 w',⟨8,0,rfl,rfl,by omega,rfl,by omega,⟨fun _ n hn=>by omega,fun _=>rfl⟩,Ch.refl _ _⟩,?_⟩
 rintro m _ _ x _ w3 ⟨k,rfl,rfl,hk,rfl,hx,aby,p⟩
 refine ax (fun NO=>?_) (fun SW=>?_)
 ·have hk8:k<8:=by omega
  have pd:=p.trans (Pu.aY w3)
  have ra:=rdB (l:=s8L a) (Pu.blk (m2.pu.trans pd) m1.blk) rfl rfl (Nat.le_refl _)
  have rb:=rdB (l:=s8L b) (Pu.blk pd m2.blk) rfl rfl (Nat.le_refl _)
  obtain⟨pa,xa,hA,hxa,_,hca⟩:=ra.ld (i:=(k:Int)) (by omega) (by show(k:Int)<8;omega)
  obtain⟨pb,xb,hB,hxb,_,hcb⟩:=rb.ld (i:=(k:Int)) (by omega) (by show(k:Int)<8;omega)
  injection hA with hA
  injection hB with hB
  subst hA hB
  rw [Int.toNat_natCast]at hxa hxb
  have va:=cC ha xa (List.mem_of_getElem? hxa)
  have vb:=cC hb xb (List.mem_of_getElem? hxb)
  have da:(s8L a).getD k ⟨0⟩=xa:=by rw [List.getD_eq_getElem?_getD,hxa];rfl
  have db:(s8L b).getD k ⟨0⟩=xb:=by rw [List.getD_eq_getElem?_getD,hxb];rfl
  refine⟨by omega,xa.v,by have:=hca 0 (by decide);exact this,by omega,xb.v,by have:=hcb 0 (by decide);exact this,?_⟩
  rintro _ rfl
  rw [HE va vb,nS hx (lX va vb)]
  refine⟨8 - (k+1),by omega,k+1,by rw [aq (by omega)];omega,by rw [aq (by omega)];omega,by omega,rfl,CO hx (lX va vb),?_,pd⟩
  rw [Ig hx.1 (lX va vb).1,Fv va.1 vb.1,aby]
  constructor
  ·rintro⟨h1,h2⟩ n hn
   rcases Nat.lt_or_ge n k with h | h
   ·exact h1 n h
   ·obtain rfl:n=k:=by omega
    rw [da,db]
    cases xa;cases xb;exact congrArg U32.mk h2
  ·intro h
   refine⟨fun n hn=>h n (by omega),?_⟩
   have:=h k (by omega)
   rw [da,db]at this
   rw [this]
 ·obtain rfl:k=8:=by omega
  refine⟨?_,m1.pu.trans (m2.pu.trans p)⟩
  have e:(x==0)=decide (a=b):=by
   rw [Bool.eq_iff_iff,beq_iff_eq,decide_eq_true_iff,aby]
   exact⟨HS,fun h n _=>by rw [h]⟩
  rw [e];rfl
theorem IM {w:World} {K:List Int}(hk:gz w 0 K) {k m d t:S8}(hm:m.ok)(hd:d.ok)(ht:t.ok):
 Calls prog 190 #[.agg (s8C k),.agg (s8C m),.agg (s8C d),.agg (s8C t)] w fun e w'=>∃v,e= .returned v∧v= .bool (decide (bO K k m d=t))∧Pu w w':=by
 refine sQ _ _ _ _ _ _ _ _ _ _ _ _ _ _ _ _ _ _ _ _ _ _ _ _ _ _ _ _ _ _ _ _ ?_
 refine mkd fun gk w1 m1=>mkd fun gm w2 m2=>mkd fun gd w3 m3=>mkd fun gt w4 m4=>?_
 have We:Pu w2 w4:=m3.pu.trans m4.pu
 have SC:Pu w1 w4:=m2.pu.trans We
 have pd:=Pu.aY w4
 have bk:=Pu.blk (SC.trans pd) m1.blk
 have bm:=Pu.blk (We.trans pd) m2.blk
 have bd:=Pu.blk (m4.pu.trans pd) m3.blk
 have bt:=Pu.blk pd m4.blk
 refine⟨fun _ j=>j<w4.heap.size,bk.lt,_,_,_,_,_,_,_,_,⟨bk.at rfl,bk.at rfl,bk.at rfl,bk.at rfl,bk.at rfl,bk.at rfl,bk.at rfl,bk.at rfl⟩,bm.lt,_,_,_,_,_,_,_,_,⟨bm.at rfl,bm.at rfl,bm.at rfl,bm.at rfl,bm.at rfl,bm.at rfl,bm.at rfl,bm.at rfl⟩,bd.lt,_,_,_,_,_,_,_,_,⟨bd.at rfl,bd.at rfl,bd.at rfl,bd.at rfl,bd.at rfl,bd.at rfl,bd.at rfl,bd.at rfl⟩,bt.lt,_,_,_,_,_,_,_,_,⟨bt.at rfl,bt.at rfl,bt.at rfl,bt.at rfl,bt.at rfl,bt.at rfl,bt.at rfl,bt.at rfl⟩,?_⟩
 have pw:Pu w w4.drew:=(m1.pu.trans SC).trans pd
 refine(Mj (k:=k) (hk.pu pw) hm hd).mono ?_
 rintro e w5 ⟨_,rfl,rfl,p5⟩
 have OQ:=Be K k hm hd
 generalize bO K k m d=R at OQ ⊢
 refine⟨_,_,_,_,_,_,_,_,rfl,p5.iI fun j hj=>by simpa [du]using hj,fun _ _=>True,fun _ _ _=>trivial,(LR OQ ht).mono ?_⟩
 rintro e w6 ⟨_,rfl,rfl,p6⟩
 exact⟨_,_,rfl,fun _ _=>True,fun _ _ _=>trivial,rfl,pw.trans (p5.trans p6)⟩
end
end Go.Proofs.YtfmcaoaaiganbaaGreatDoor
namespace Go.Proofs.YtfmcaoaaiganbaaGreatDoor
open Go.Proofs.Tryz (prog)
open Go Go.RowKit V Go.ChangeShapes Go.WideShapes Go.ChangeAt
open Go.IntKind (i64 u32 u64)
open Enc (enc)
section
section
variable {P:Program} {W:World} {H:Type} {enc:TypeId×Value→H}
theorem H7 {t e:TypeId} {v:Value} {d:DataW H} {p:List MemPlace}(ht:P.underlying t=some (.array 8 e))(ue:P.underlying e=some (.int .u32))(ce:P.cellsOf e=1)(ct:P.cellsOf t=8) {base:Nat}(hv:Value.okWide P W .any base t v)(h:DataW.Trod enc P W 0 (fun _=>true) true t v d p):
 ∃s:S8,v= .agg (s8C s)∧s.ok∧p= []:=by
 simp only [Value.okWide,ht]at hv
 obtain⟨⟨cs⟩,rfl,hc,_⟩:=hv
 rw [ct]at hc
 obtain⟨fuel,hf⟩:=h
 obtain⟨xs,m,_,hx,hl,hxl,hel⟩:=DataW.trod_array ht hf
 have each:∀i:Nat,i<8→∃x:Int,cs[i]? =some (.int .u32 x)∧(0≤x∧x<4294967296)∧∃y,xs[i]? =some (y,[]):=by
  intro i hi
  have h1:=hel i hi
  have hc:cs.length=8:=hc
  have SG:i<cs.length:=by omega
  rw [ce,Nat.mul_one]at h1
  rw [show((Value.agg ⟨cs⟩).cells.toList.drop i).take 1= [cs[i]]from by show(cs.drop i).take 1=_;rw [List.drop_eq_getElem_cons SG];rfl,List.getElem?_eq_getElem (by omega)]at h1
  obtain⟨x,e1,e2,e3⟩:=DataW.trod_int ue h1
  injection e1 with e1 _
  refine⟨x,by rw [List.getElem?_eq_getElem SG,e1],wf_u32 e3,_,by rw [List.getElem?_eq_getElem (by omega),e2]⟩
 obtain⟨a,a1,a2,a3,a4⟩:=each 0 (by omega)
 obtain⟨b,b1,b2,b3,b4⟩:=each 1 (by omega)
 obtain⟨c,c1,c2,c3,c4⟩:=each 2 (by omega)
 obtain⟨d',d1,d2,d3,d4⟩:=each 3 (by omega)
 obtain⟨e',e1,e2,e3,e4⟩:=each 4 (by omega)
 obtain⟨f,f1,f2,f3,f4⟩:=each 5 (by omega)
 obtain⟨g,g1,g2,g3,g4⟩:=each 6 (by omega)
 obtain⟨i,i1,i2,i3,i4⟩:=each 7 (by omega)
 have hc:cs.length=8:=hc
 simp only [Prod.mk.injEq]at hx
 match cs,hc,xs,hxl with
 | [_,_,_,_,_,_,_,_],_,[x0,x1,x2,x3,x4,x5,x6,x7],_=>
  injection a1 with a1;injection b1 with b1;injection c1 with c1;injection d1 with d1
  injection e1 with e1;injection f1 with f1;injection g1 with g1;injection i1 with i1
  injection a4 with a4;injection b4 with b4;injection c4 with c4;injection d4 with d4
  injection e4 with e4;injection f4 with f4;injection g4 with g4;injection i4 with i4
  subst a1 b1 c1 d1 e1 f1 g1 i1
  refine⟨⟨a,b,c,d',e',f,g,i⟩,rfl,⟨a2,b2,c2,d2,e2,f2,g2,i2⟩,?_⟩
  rw [hx.2,a4,b4,c4,d4,e4,f4,g4,i4];rfl
theorem CM {n:Nat} {e:TypeId} {k:IntKind} {t:TypeId} {fuel base:Nat} {sp:Nat→Bool} {held:Bool} {cs:List Value} {l:List Int} {q:List MemPlace}(ht:P.underlying t=some (.array n e))(ue:P.underlying e=some (.int k))(ce:P.cellsOf e=1)
 (h:DataW.trod enc P W base sp held fuel t cs=some (.agg (l.map fun x=>.lit (.int k x)),q))(hct:P.cellsOf t=n):cs=l.map (Value.int k):=by
 obtain⟨xs,m,rfl,hx,hl,hxl,hel⟩:=DataW.trod_array ht h
 have hc:cs.length=n:=hl.trans hct
 simp only [Prod.mk.injEq,DataW.agg.injEq]at hx
 have hn:l.length=n:=by have:=congrArg List.length hx.1;simpa [hxl]using this
 refine List.ext_getElem? fun i=>?_
 by_cases hi:i<n
 ·have h1:=hel i hi
  rw [ce,Nat.mul_one]at h1
  have SG:i<cs.length:=by omega
  rw [show(cs.drop i).take 1= [cs[i]]from by rw [List.drop_eq_getElem_cons SG];rfl]at h1
  have hi3:i<xs.length:=by omega
  rw [List.getElem?_eq_getElem hi3]at h1
  obtain⟨x,e1,e2,_⟩:=DataW.trod_int ue h1
  have e3:=congrArg (fun z=>z[i]?) hx.1
  simp only [List.getElem?_map,List.getElem?_eq_getElem hi3,Option.map_some,e2]at e3
  have hi4:i<l.length:=by omega
  simp only [List.getElem?_eq_getElem hi4,Option.map_some,Option.some.injEq]at e3
  injection e3 with e3
  injection e3 with _ e3
  injection e1 with e1 _
  rw [List.getElem?_eq_getElem SG,e1,List.getElem?_map,List.getElem?_eq_getElem hi4,Option.map_some,e3]
 ·rw [List.getElem?_eq_none (by omega),List.getElem?_eq_none (by simp;omega)]
theorem Fm {n:String} {g:Nat} {cs:Array Value} {ps:List MemPlace}(hg:P.globalNamed n=some g)(hv:W.var? P n=some cs)(h0:0<cs.size)(hps:MemPlace.row ⟨g,0,none⟩ cs.size ⊆ ps)(hc:∀b off,MemPlace.cell b off∈ps→(∃c t,W.heap[b]? =some (.cells c t (0,0)))∧∀u v,W.cell? ⟨b,off,none⟩=some (.iface u v)→Value.okWide P W .any 0 u v):∃T,Blk W g cs T:=by
 have h1:MemPlace.cell g 0∈ps:=hps (by unfold MemPlace.row;exact List.mem_map.2 ⟨0,List.mem_range.2 h0,rfl⟩)
 obtain⟨⟨c,t,h2⟩,_⟩:=hc _ _ h1
 unfold World.var? at hv
 rw [hg]at hv
 simp only [Option.bind_some,h2,Option.some.injEq]at hv
 subst hv
 exact⟨t,h2⟩
end
section
variable {H:Type} {enc:TypeId×Value→H} {P:Program} {w:World} {base:Nat} {spare:Nat→Bool} {held:Bool}
theorem ux {t0 t1 t2 t3 t4:TypeId} {args:Array Value} {ds:List (DataW H)} {ps:List MemPlace}(h:DataW.TrodAll enc P w base spare held [t0,t1,t2,t3,t4] args.toList ds ps):
 ∃v0 v1 v2 v3 v4 d0 d1 d2 d3 d4 p0 p1 p2 p3 p4,args= #[v0,v1,v2,v3,v4]∧ds= [d0,d1,d2,d3,d4]∧ps=p0++p1++p2++p3++p4∧DataW.Trod enc P w base spare held t0 v0 d0 p0∧DataW.Trod enc P w base spare held t1 v1 d1 p1∧DataW.Trod enc P w base spare held t2 v2 d2 p2∧DataW.Trod enc P w base spare held t3 v3 d3 p3∧DataW.Trod enc P w base spare held t4 v4 d4 p4:=by
 obtain⟨v0,vs,d0,ds',p,q,PL,rfl,rfl,h0,T4⟩:=trodAll_cons h
 obtain⟨v1,v2,v3,v4,d1,d2,d3,d4,p1,p2,p3,p4,hv,rfl,rfl,h1,h2,h3,h4⟩:=trodAll_four (args:=⟨vs⟩) T4
 injection hv with hv
 exact⟨v0,v1,v2,v3,v4,d0,d1,d2,d3,d4,p,p1,p2,p3,p4,by cases args;simp_all,rfl,by simp,h0,h1,h2,h3,h4⟩
theorem vN {t0 t1 t2 t3 t4:TypeId} {v0 v1 v2 v3 v4:Value} {d0 d1 d2 d3 d4:DataW H} {p0 p1 p2 p3 p4:List MemPlace}(h0:DataW.Trod enc P w base spare held t0 v0 d0 p0)(h1:DataW.Trod enc P w base spare held t1 v1 d1 p1)(h2:DataW.Trod enc P w base spare held t2 v2 d2 p2)(h3:DataW.Trod enc P w base spare held t3 v3 d3 p3)(h4:DataW.Trod enc P w base spare held t4 v4 d4 p4):
 DataW.TrodAll enc P w base spare held [t0,t1,t2,t3,t4] [v0,v1,v2,v3,v4] [d0,d1,d2,d3,d4] (p0++(p1++(p2++(p3++p4)))):=
 trodAll_cons_mk h0 (trodAll_cons_mk h1 (trodAll_cons_mk h2 (trodAll_cons_mk h3 (by have:=trodAll_cons_mk h4 (trodAll_mk0 (H:=H) (enc:=enc) (P:=P) (w:=w) (base:=base) (spare:=spare) (held:=held));rwa [List.append_nil]at this))))
end
end
end Go.Proofs.YtfmcaoaaiganbaaGreatDoor
namespace Go.Proofs.YtfmcaoaaiganbaaGreatDoor
open Go.Proofs.Tryz (prog)
open Go Go.RowKit V
open Go.IntKind (i64 u32 u64)
section
namespace V
section
variable {U:Uni}
theorem bP.more {rs:List (Res U)} {X:Nat→Nat→Prop} {w w':World} {Q:Ou U→Prop} {v:Value} {k:Option Kn} {Z:Nat→Prop} {r:Res U}(hs:Sat rs X w)(q:Pu w w')(hr:RS Z w' r)(hz:∀k,Z k→w.heap.size≤k)(hQ:Q ⟨v,k,[],[r],[]⟩)(hk:KnO (rs++ [r]) v k):bP rs [] X w Q (.returned v) w':=by
 refine⟨_,rs,fun i=>if i=rs.length then Z else X i,fc hk,hQ,rfl,⟨⟨fun i r' Nr=>?_,fun i j hi hj Og k Pl Ol=>?_⟩,q.mono fun k hk=>hk.elim,fun i hi _=>if_neg (by omega),fun i hi=>(by cases hi),fun i h1 h2 k hk=>?_,.inr hk,fun _ k hk=>by cases hk⟩⟩
 ·by_cases hi:i<rs.length
  ·rw [bu,if_pos hi]at Nr
   simp only [if_neg (show ¬i=rs.length by omega)]
   exact(hs.res i r' Nr).ch q fun _ _ h=>h
  ·have h1:=aR Nr
   simp at h1
   obtain rfl:i=rs.length:=by omega
   rw [bu,if_neg (by omega),Nat.sub_self]at Nr
   obtain rfl:r=r':=by simpa [nth]using Nr
   simpa using hr
 ·simp at hi hj
  by_cases h1:i=rs.length
  ·have h2:¬j=rs.length:=by omega
   simp only [h1,if_true,if_neg h2]at Pl Ol
   have:=hs.lt (i:=j) (by omega) k Ol
   have:=hz k Pl
   omega
  ·simp only [if_neg h1]at Pl
   by_cases h2:j=rs.length
   ·simp only [h2,if_true]at Ol
    have:=hs.lt (i:=i) (by omega) k Pl
    have:=hz k Ol
    omega
   ·simp only [if_neg h2]at Ol
    exact hs.dis i j (by omega) (by omega) Og k Pl Ol
 ·simp at h2
  obtain rfl:i=rs.length:=by omega
  simp only [if_true]at hk
  exact hz k hk
theorem KH {t:Nat} {T:TypeId} {A:Option Addr} {n c:Nat} {l:List (U.el t)} {Z:Nat→Prop} {w:World}(h:Own w Z T A n c l):RS (U:=U) (fun k=>Z k∧k<w.heap.size) w (.lst t true T A c l):=by
 have hl:=h.len
 subst hl
 exact⟨h.within,fun k hk=>hk.2⟩
end
end V
section
variable {r rm:Nat→Nat} {E:Pd} {m:Mem} {X:Nat→Nat→Prop} {w w':World}
theorem tu(hs:Sat (U:=Un) [.ob 0 rm m] X w):∃L:fi,rm 0=L.g∧cS w L m∧∀k,L.X k↔X 0 k:=by
 obtain⟨L,h1,h2,h3⟩:=(hs.res 0 _ rfl:dI 0 rm m (X 0) w)
 exact⟨L,h1,h3,h2⟩
theorem CJ(hs:Sat (U:=Un) [.ob 1 r E,.ob 0 rm m] X w)(hl:aE (U:=Un) [.ob 1 r E,.ob 0 rm m] fr0 [(.l 0 1,.p (.obj 1 0 0))])(hn:E.n=m.S):
 ∃(a:Nat)(L:fi),rm 0=L.g∧r 1=L.g∧DBP w ⟨r 0,a,L⟩ (E.on m)∧(∀k,(k=r 0∨k=a)↔X 0 k)∧(∀k,L.X k↔X 1 k):=by
 obtain⟨a,h1,h2⟩:=(hs.res 0 _ rfl:dI 1 r E (X 0) w)
 obtain⟨L,h3,h4,h5⟩:=(hs.res 1 _ rfl:dI 0 rm m (X 1) w)
 obtain⟨t',r',s',hn1,hk⟩:=hl _ _ (List.mem_singleton.2 rfl)
 simp only [nth,Option.some.injEq,Res.ob.injEq]at hn1
 obtain⟨rfl,rfl,_⟩:=hn1
 have hk:some (Value.pointer (some ⟨rm 0,0,none⟩))=some (Value.pointer (some ⟨r 1,0,none⟩)):=hk
 simp only [Option.some.injEq,Value.pointer.injEq,Addr.mk.injEq]at hk
 have hg:r 1=L.g:=by rw [← h3];exact hk.1.symm
 rw [hg]at h2
 have hx:∀k,(k=r 0∨k=a)→¬L.X k:=fun k hk hL=>hs.dis 0 1 (by simp) (by simp) (by omega) k ((h1 k).1 hk) ((h4 k).1 hL)
 exact⟨a,L,h3,hg,h2.db h5 hn ⟨hx _ (.inl rfl),hx _ (.inr rfl)⟩,h1,h4⟩
theorem Fe {a:Nat} {L:fi} {D:DB} {Q:Ou Un→Prop} {v:Value} {k:Option Kn}(hs:Sat (U:=Un) [.ob 1 r E,.ob 0 rm m] X w)(SZ:∀k,(k=r 0∨k=a)↔X 0 k)(Uk:∀k,L.X k↔X 1 k)(hg:rm 0=L.g)(hr:r 1=L.g)(h:DBP w' ⟨r 0,a,L⟩ D)(q:Ch (gB.X ⟨r 0,a,L⟩) w w')
 (hQ:Q ⟨v,k,[.ob 1 D.pd,.ob 0 D.mem],[],[]⟩)(hk:KnO (U:=Un) [.ob 1 r D.pd,.ob 0 rm D.mem] v k):bP (U:=Un) [.ob 1 r E,.ob 0 rm m] [0,1] X w Q (.returned v) w':=by
 refine⟨_,[.ob 1 r D.pd,.ob 0 rm D.mem],X,fc hk,hQ,by simp [bJ,cQ,nth,bR],⟨⟨fun i r' Nr=>?_,hs.dis⟩,q.mono fun k hk=>?_,fun i hi hm=>rfl,fun i hi k hk=>.inl hk,fun i h1 h2=>by simp at h1 h2;omega,.inr (by simpa using hk),fun _ k hk=>by cases hk⟩⟩
 ·match i with
  | 0=>
   simp only [List.append_nil,nth,Option.some.injEq]at Nr
   subst Nr
   exact(⟨a,SZ,by rw [hr];exact h.pd⟩:dI 1 r D.pd (X 0) w')
  | 1=>
   simp only [List.append_nil,nth,Option.some.injEq]at Nr
   subst Nr
   exact(⟨L,hg,Uk,h.mem⟩:dI 0 rm D.mem (X 1) w')
  | i+2=>simp [nth]at Nr
 ·rcases hk with hk | hk | hk
  ·exact⟨0,by simp,(SZ k).1 (.inl hk)⟩
  ·exact⟨0,by simp,(SZ k).1 (.inr hk)⟩
  ·exact⟨1,by simp,(Uk k).1 hk⟩
end
end
namespace Mem
def cl(m:Mem):Nat→Mem
 | 0=>m
 | k+1=>(cl m k).zero true k
theorem J4(m:Mem)(s:Bool)(p:Int):(m.zero s p).S=m.S:=by unfold zero;split<;>rfl
theorem J5(m:Mem)(s:Bool)(p:Int):(m.zero s p).I=m.I:=by unfold zero;split<;>rfl
@[simp] theorem jm(m:Mem):∀k,(m.cl k).S=m.S
 | 0=>rfl
 | k+1=>by rw [cl,J4,jm m k]
@[simp] theorem HD(m:Mem):∀k,(m.cl k).I=m.I
 | 0=>rfl
 | k+1=>by rw [cl,J5,HD m k]
theorem pM(m:Mem) {p:Int}(h:0≤p∧p<9000000000000000000):m.cl (i64.wrap (p+1)).toNat=(m.cl p.toNat).zero true p:=by
 rw [aq (by omega),show(p+1).toNat=p.toNat+1 by omega,cl,show((p.toNat:Nat):Int)=p by omega]
end Mem
def DB.new(m:Mem):DB:=⟨m.cl m.S,0,fun _=>.free⟩
theorem DB.wB(m:Mem):(DB.new m).S=m.S:=m.jm _
theorem DB.nV(m:Mem)(h:1≤m.S):(DB.new m).Ok:=⟨fun p hp=>⟨Ent.BO,by show(0:Int)<((DB.new m).S:Nat);rw [DB.wB];omega⟩,by show(0:Int)≤0∧(0:Int)≤64;omega⟩
def DB.ws(D:DB):List Int:=(List.range D.S).flatMap fun p=>[(D.ent p).w0,(D.ent p).w1]
theorem Bb {α:Type}(f g:Nat→α):∀n,((List.range n).flatMap fun p=>[f p,g p]).length=2*n
 | 0=>rfl
 | n+1=>by rw [List.range_succ,List.flatMap_append,List.length_append,Bb f g n];simp;omega
theorem DB.zb(D:DB):D.ws.length=2*D.S:=Bb _ _ _
theorem DB.words_eq(D:DB):D.words=D.aD::D.ws:=rfl
theorem DB.lay {D:DB} {n:Nat}(hn:n=1+2*D.S):qf ((List.replicate n 0).set 0 D.aD) 1 (D.ws.take (min (2*D.S) (n - 1)))=D.words:=by
 subst hn
 rw [List.take_of_length_le (by rw [D.zb];omega),show 1+2*D.S=(2*D.S)+1 by omega,List.replicate_succ,List.set_cons_zero]
 have:=vV [D.aD] D.ws [] (List.replicate (2*D.S) 0) (by rw [D.zb];simp)
 simpa [D.words_eq]using this
theorem DB.nH(D:DB):D.words.length=1+2*D.S:=by rw [D.words_eq,List.length_cons,D.zb];omega
def DB.dE(D:DB)(s:Int)(n:Nat):List I64:=((List.range n).filter (D.fy s)).map fun(p:Nat)=>I64.mk (p:Int)
theorem DB.wq(D:DB)(s:Int) {p:Int}(h:0≤p∧p<64):D.dE s (i64.wrap (p+1)).toNat=if D.fy s p.toNat then D.dE s p.toNat++ [I64.mk p]else D.dE s p.toNat:=by
 unfold DB.dE
 rw [aq (by omega),show(p+1).toNat=p.toNat+1 by omega,List.range_succ,List.filter_append,List.map_append]
 cases hq:D.fy s p.toNat
 ·simp [List.filter,hq]
 ·simp [List.filter,hq,show((p.toNat:Nat):Int)=p by omega]
theorem DB.zC(D:DB)(s:Int)(n:Nat):(D.dE s n).length≤n:=by
 unfold DB.dE
 rw [List.length_map]
 exact Nat.le_trans (List.length_filter_le _ _) (by simp)
def DB.wd(l:List U32)(i:Nat):Int:=(l.getD i ⟨0⟩).v
def DB.load(m:Mem)(l:List U32):DB:=⟨m,DB.wd l 0,fun p=>Ent.dec (DB.wd l (1+2*p)) (DB.wd l (2+2*p))⟩
def DB.FU(m:Mem)(l:List U32)(p:Nat):Bool:=Ent.fZ (DB.wd l (1+2*p)) (DB.wd l (2+2*p))==0 && decide ((Ent.dec (DB.wd l (1+2*p)) (DB.wd l (2+2*p))).owner<m.S)
def DB.cj(m:Mem)(l:List U32):Int:=
 if l.length≠1+2*m.S then 110 else if DB.wd l 0>64 then 110 else if(List.range m.S).all (DB.FU m l)then 0 else 110
theorem Bn {n:Nat} {v:Value} {i:Nat}(h:i<n):(Array.replicate n v)[i]? =some v:=by simp [h]
end Go.Proofs.YtfmcaoaaiganbaaGreatDoor
namespace Go.Proofs.YtfmcaoaaiganbaaGreatDoor
open Go.Proofs.Tryz (prog)
open Go Go.RowKit V
open Go.IntKind (i64 u32 u64)
section
set_option maxRecDepth 100000
set_option maxHeartbeats 1000000
attribute [local irreducible] Vc2 VcD
attribute [local grind=] Pd.cI Pd.cg Pd.iH Pd.iS Pd.gi Pd.eJ Pd.eY Pd.fw Pd.lB DB.eF
attribute [local grind .] Pd.Ok.ent
attribute [local grind→] Pd.Ok.eg
def gY:Ctr Un:=⟨[.one (.obj 0 0),.agg [.bool,.int .i64],.one (.int .i64),.one (.int .u32)],[],[.ob 2 []],[0],fun fa fb off v rm m K=>(0≤(v:Int)∧(v:Int)<4294967296)∧K ⟨(.int .i64 (m.err fa fb off)),none,[.ob 2 (m.write fa fb off v)],[],[]⟩⟩
theorem rA:LV Un prog 55 gY:=by
 show ∀(fa:Bool)(fb:Int)(off:Int)(v:Int)(rm:Nat→Nat)(m:Mem),∀Q:Ou Un→Prop,((0≤(v:Int)∧(v:Int)<4294967296)∧Q ⟨(.int .i64 (m.err fa fb off)),none,[.ob 2 (m.write fa fb off v)],[],[]⟩)→∀(X:Nat→Nat→Prop)(w:World),Sat (U:=Un) [(.ob 2 rm m)] X w→aE (U:=Un) [(.ob 2 rm m)] fr0 []→Calls prog 55 #[(.pointer (some (Addr.mk (rm 0) 0 none))),(.agg #[(.bool fa),(.int .i64 fb)]),(.int .i64 off),(.int .u32 v)] w (bP (U:=Un) [(.ob 2 rm m)] [0] X w Q)
 intro fa fb off v rm m Q hQ X w hs hl
 obtain⟨hv,hQ⟩:=hQ
 obtain⟨L,hX,hM⟩:=(hs.res 0 _ rfl:dI 2 rm m (X 0) w)
 refine(E9 hM fa fb off v hv).mono ?_
 rintro e w' ⟨u,rfl,L1,rfl,h2,hg,q⟩
 exact bP.one (Z:=L1.X) (q.mono fun k hk=>(hX k).1 hk) (show dI 2 rm _ L1.X w' from⟨L1,fun _=>Iff.rfl,h2⟩) (fun k hk=>(hg k hk).imp (fun h=>(hX k).1 h) id) hQ trivial
def oh:Ctr Un:=⟨[.one (.obj 0 0),.agg [.bool,.int .i64]],[],[.ob 2 []],[0],fun fa fb rm m K=>K ⟨(.int .i64 (m.gp fa fb)),none,[.ob 2 (m.zero fa fb)],[],[]⟩⟩
theorem DX:LV Un prog 82 oh:=by
 show ∀(fa:Bool)(fb:Int)(rm:Nat→Nat)(m:Mem),∀Q:Ou Un→Prop,(Q ⟨(.int .i64 (m.gp fa fb)),none,[.ob 2 (m.zero fa fb)],[],[]⟩)→∀(X:Nat→Nat→Prop)(w:World),Sat (U:=Un) [(.ob 2 rm m)] X w→aE (U:=Un) [(.ob 2 rm m)] fr0 []→Calls prog 82 #[(.pointer (some (Addr.mk (rm 0) 0 none))),(.agg #[(.bool fa),(.int .i64 fb)])] w (bP (U:=Un) [(.ob 2 rm m)] [0] X w Q)
 intro fa fb rm m Q hQ X w hs hl
 obtain⟨L,hX,hM⟩:=(hs.res 0 _ rfl:dI 2 rm m (X 0) w)
 refine(H3 hM fa fb).mono ?_
 rintro e w' ⟨u,rfl,L1,rfl,h2,hg,q⟩
 exact bP.one (Z:=L1.X) (q.mono fun k hk=>(hX k).1 hk) (show dI 2 rm _ L1.X w' from⟨L1,fun _=>Iff.rfl,h2⟩) (fun k hk=>(hg k hk).imp (fun h=>(hX k).1 h) id) hQ trivial
def eM:Ctr Un:=⟨[.one (.int .i64)],[],[],[],fun p K=>K ⟨(.agg #[(.bool true),(.int .i64 p)]),none,[],[],[]⟩⟩
def Ao(p:Int)(Q:Ou Un→Prop):Prop:=
 ∀(gv:Nat),
 Q ⟨(.agg #[(.bool true),(.int .i64 p)]),none,[],[],[]⟩
theorem Ap:Vc2 Un prog (aU []) [] Tryz.f83 .leaf [] eM=(∀p,∀Q,(eM.body p Q)→Ao p Q):=by kernel_rfl
theorem ry:LV Un prog 83 eM:=verify Tryz.func83 aj (tb:= []) trivial (by kernel_rfl) (Ap.mpr fun p Q h gv=>h)
section
attribute [local grind=] DB.turns
end
def ny:Ctr Un:=⟨[.one (.obj 0 0),.one (.int .i64),.one (.int .i64)],[],[.ob 3 []],[],fun p t r E K=>K ⟨(.bool (decide (0≤p∧p<(E.n:Int)) && (E.ent p.toNat).typ==t)),none,[],[],[]⟩⟩
def Jk(p:Int)(t:Int)(r:Nat→Nat)(E:Pd)(Q:Ou Un→Prop):Prop:=
 Pd.Ok E→
 ∃J:Bool→Prop,(
  split (decide (p≥0)) (
   split (decide (p<((Pd.aA E).length:Int))) (
    (0≤p∧p<((Pd.aA E).length:Int))∧
    J (((Pd.aA E).getD p.toNat Ent.free).typ==t)) (
    J false)) (
   J false))∧∀(OO:Nat→Value)(x6:Bool),J x6→
 Q ⟨(.bool x6),none,[],[],[]⟩
theorem Jl:Vc2 Un prog (aU []) [] Tryz.f90 (.r' (.two (.node [] (some ⟨[(6,(.one .bool))],[],upN 6 24,[]⟩) [] [] .leaf .leaf) .leaf)) [] ny=(∀p t r (E:Pd),∀Q,(ny.body p t r E Q)→Jk p t r E Q):=by kernel_rfl
theorem Jj:LV Un prog 90 ny:=verify Tryz.func90 aj (tb:= []) trivial (by kernel_rfl) (Jl.mpr fun p t r E Q h f1=>bS ((decide ((p:Int)≥0)) && ((decide ((p:Int)<(((Pd.aA E).length:Nat):Int))) && ((((Pd.aA E).getD p.toNat Ent.free).typ:Int)==t))) (ao (fun c1=>ao (fun c2=>ak (by grind) fun s2=>(by grind)) fun c2=>(by grind)) fun c1=>(by grind))<| bG h (by grind))
def je:Ctr Un:=⟨[.one (.obj 0 0),.one (.int .i64),.one (.int .i64),.one (.int .i64)],[],[.ob 3 [(1,1,0)],.ob 2 []],[0,1],fun p t o r E rm m K=>E.n=m.S∧K ⟨(.int .i64 ((E.on m).cB p t o)),none,[.ob 3 (((E.on m).take p t o).pd),.ob 2 (((E.on m).take p t o).mem)],[],[]⟩⟩
def DS(p:Int)(t:Int)(o:Int)(r:Nat→Nat)(E:Pd)(rm:Nat→Nat)(m:Mem)(Q:Ou Un→Prop):Prop:=
 Pd.Ok E→
 Mem.Wf m→
 ∃J:Bool→Prop,(
  split (decide (p<0)) (
   J true) (
   J (decide (p≥((Pd.aA E).length:Int)))))∧∀(OO:Nat→Value)(PB:Bool),J PB→
 split PB (
  Q ⟨(.int .i64 5),none,[.ob 3 E,.ob 2 m],[],[]⟩) (
  ∃J1:Bool→Prop,(
   split (t !=2) (
    split (t !=4) (
     split (t !=5) (
      J1 (t !=6)) (
      J1 false)) (
     J1 false)) (
    J1 false))∧∀(Nt:Nat→Value)(Vl:Bool),J1 Vl→
  split Vl (
   Q ⟨(.int .i64 124),none,[.ob 3 E,.ob 2 m],[],[]⟩) (
   ∃J2:Bool→Prop,(
    split (!(decide (0≤o∧o<E.n) && (E.ent o.toNat).typ==1)) (
     J2 true) (
     (0≤o∧o<((Pd.aA E).length:Int))∧
     J2 (decide (((Pd.aA E).getD o.toNat Ent.free).refs≥63))))∧∀(Pw:Nat→Value)(x50:Bool),J2 x50→
   split x50 (
    Q ⟨(.int .i64 122),none,[.ob 3 E,.ob 2 m],[],[]⟩) (
    (0≤p∧p<((Pd.aA E).length:Int))∧
    split (((Pd.aA E).getD p.toNat Ent.free).typ !=0) (
     Q ⟨(.int .i64 120),none,[.ob 3 E,.ob 2 m],[],[]⟩) (
     (0≤p∧p<((Pd.aA E).length:Int))∧
     (Ent.ok (Ent.mk t o 0 0 false)=true∧Ent.owner (Ent.mk t o 0 0 false)<(Pd.n E:Int))∧
     ∀(E1:Pd),E1=(Pd.set E p.toNat (Ent.mk t o 0 0 false))→
     Pd.Ok E1→
     (0≤o∧o<((Pd.aA E1).length:Int))∧
     (0≤o∧o<((Pd.aA E1).length:Int))∧
     (Ent.ok (Ent.mk (((Pd.aA E1).getD o.toNat Ent.free).typ) (((Pd.aA E1).getD o.toNat Ent.free).owner) (i64.wrap ((((Pd.aA E1).getD o.toNat Ent.free).refs)+1)) (((Pd.aA E1).getD o.toNat Ent.free).state) (((Pd.aA E1).getD o.toNat Ent.free).br))=true∧Ent.owner (Ent.mk (((Pd.aA E1).getD o.toNat Ent.free).typ) (((Pd.aA E1).getD o.toNat Ent.free).owner) (i64.wrap ((((Pd.aA E1).getD o.toNat Ent.free).refs)+1)) (((Pd.aA E1).getD o.toNat Ent.free).state) (((Pd.aA E1).getD o.toNat Ent.free).br))<(Pd.n E1:Int))∧
     ∀(E2:Pd),E2=(Pd.set E1 o.toNat (Ent.mk (((Pd.aA E1).getD o.toNat Ent.free).typ) (((Pd.aA E1).getD o.toNat Ent.free).owner) (i64.wrap ((((Pd.aA E1).getD o.toNat Ent.free).refs)+1)) (((Pd.aA E1).getD o.toNat Ent.free).state) (((Pd.aA E1).getD o.toNat Ent.free).br)))→
     Pd.Ok E2→
     Q ⟨(.int .i64 0),none,[.ob 3 E2,.ob 2 m],[],[]⟩))))
theorem DT:Vc2 Un prog (aU [(90,ny)]) [] Tryz.f43 (.r' (.two (.two (.node [] (some ⟨[(20,(.one .bool))],[],upN 10 11,[]⟩) [] [] .leaf .leaf) .leaf) (.two (.two (.node [] (some ⟨[(34,(.one .bool))],[],upN 21 14,[]⟩) [] [] .leaf .leaf) .leaf) (.r' (.two (.two (.node [] (some ⟨[(50,(.one .bool))],[],upN 38 13,[]⟩) [] [] .leaf .leaf) .leaf) .leaf))))) [] je=(∀p t o r (E:Pd) rm (m:Mem),∀Q,(je.body p t o r E rm m Q)→DS p t o r E rm m Q):=by kernel_rfl
section
attribute [local grind=] DB.take DB.cB DB.eU DB.more DB.Fq DB.turns
theorem DR:LV Un prog 43 je:=verify Tryz.func43 aj (tb:= [(90,ny)]) ⟨Jj,trivial⟩ (by kernel_rfl) (DT.mpr fun p t o r E rm m Q h=>by
 obtain⟨NF,h⟩:=h
 exact fun f1 f2=>bS ((decide ((p:Int)<0)) || (decide ((p:Int)≥(((Pd.aA E).length:Nat):Int)))) (ao (fun c1=>(by grind)) fun c1=>(by grind))<| aW (fun c2=>aL h (bj (by grind)) (ai (uO3 (by grind)) (ai (uO2 (by grind)) rfl)) rfl) fun c2=>bS (((t:Int) !=2) && (((t:Int) !=4) && (((t:Int) !=5) && ((t:Int) !=6)))) (ao (fun c3=>ao (fun c4=>ao (fun c5=>(by grind)) fun c5=>(by grind)) fun c4=>(by grind)) fun c3=>(by grind))<| cE (fun c6=>aL h (bj (by grind)) (ai (uO3 (by grind)) (ai (uO2 (by grind)) rfl)) rfl) fun c6=>bS ((!(decide (0≤o∧o<(E.n:Int)) && (E.ent o.toNat).typ==1)) || (decide ((((Pd.aA E).getD o.toNat Ent.free).refs:Int)≥63))) (ao (fun c7=>(by grind)) fun c7=>ak (by grind) fun s3=>(by grind))<| aW (fun c8=>aL h (bj (by grind)) (ai (uO3 (by grind)) (ai (uO2 (by grind)) rfl)) rfl) fun c8=>ak (by grind) fun s4=>aV (fun c9=>aL h (bj (by grind)) (ai (uO3 (by grind)) (ai (uO2 (by grind)) rfl)) rfl) fun c9=>ak ‹_› fun s5=>ak (by grind) fun s6 E1 NX f7=>ak (by grind) fun s8=>ak ‹_› fun s9=>ak (by(have he:E1.ent o.toNat=E.ent o.toNat:=by grind);(have h5:=f1.ent o.toNat (by grind));have h6:=Ent.eo h5.1;rw [Pd.cg (by grind),he,aq (by omega)];exact⟨DB.uH h5.1 (by grind) (by grind),by rw [NX];exact h5.2⟩) fun QE E2 Ob f11=>aL h (bj (by grind)) (ai (uO3 (by(have h8:=Ent.eo (f1.ent o.toNat (by grind)).1);have h9:E1.ent o.toNat=E.ent o.toNat:=(by grind);rw [DB.take,if_pos (by grind),DB.eU,Pd.eY,DB.more,Pd.eY,Pd.gi _ _ (by exact NF),← NX,Ob,Pd.cg (by grind),aq (by rw [h9];omega)];rfl)) (ai (uO2 (by grind)) rfl)) rfl)
end
section
attribute [local grind=] DB.zk DB.pr DB.zj Pd.ka Mem.Aj DB.KK Mem.gp DB.Ik
end
def eB:Ctr Un:=⟨[.one (.obj 0 0),.one (.int .i64),.one (.int .i64)],[],[.ob 3 [(1,1,0)],.ob 2 []],[0,1],fun p t r E rm m K=>E.n=m.S∧K ⟨(.int .i64 ((E.on m).bH p t)),none,[.ob 3 (((E.on m).setState p t).pd),.ob 2 (((E.on m).setState p t).mem)],[],[]⟩⟩
def sD(p:Int)(t:Int)(r:Nat→Nat)(E:Pd)(rm:Nat→Nat)(m:Mem)(Q:Ou Un→Prop):Prop:=
 Pd.Ok E→
 Mem.Wf m→
 ∃J:Bool→Prop,(
  split (decide (p<0)) (
   J true) (
   J (decide (p≥((Pd.aA E).length:Int)))))∧∀(OO:Nat→Value)(OR:Bool),J OR→
 split OR (
  Q ⟨(.int .i64 5),none,[.ob 3 E,.ob 2 m],[],[]⟩) (
  (0≤p∧p<((Pd.aA E).length:Int))∧
  split (((Pd.aA E).getD p.toNat Ent.free).typ !=1) (
   Q ⟨(.int .i64 124),none,[.ob 3 E,.ob 2 m],[],[]⟩) (
   ∃J1:Bool→Prop,(
    split (t !=3) (
     split (t !=2) (
      J1 true) (
      (0≤p∧p<((Pd.aA E).length:Int))∧
      J1 (((Pd.aA E).getD p.toNat Ent.free).state !=1))) (
     J1 false))∧∀(Nt:Nat→Value)(PA:Bool),J1 PA→
   split PA (
    Q ⟨(.int .i64 3),none,[.ob 3 E,.ob 2 m],[],[]⟩) (
    (0≤p∧p<((Pd.aA E).length:Int))∧
    (Ent.ok (Ent.mk (((Pd.aA E).getD p.toNat Ent.free).typ) (((Pd.aA E).getD p.toNat Ent.free).owner) (((Pd.aA E).getD p.toNat Ent.free).refs) t (((Pd.aA E).getD p.toNat Ent.free).br))=true∧Ent.owner (Ent.mk (((Pd.aA E).getD p.toNat Ent.free).typ) (((Pd.aA E).getD p.toNat Ent.free).owner) (((Pd.aA E).getD p.toNat Ent.free).refs) t (((Pd.aA E).getD p.toNat Ent.free).br))<(Pd.n E:Int))∧
    ∀(E1:Pd),E1=(Pd.set E p.toNat (Ent.mk (((Pd.aA E).getD p.toNat Ent.free).typ) (((Pd.aA E).getD p.toNat Ent.free).owner) (((Pd.aA E).getD p.toNat Ent.free).refs) t (((Pd.aA E).getD p.toNat Ent.free).br)))→
    Pd.Ok E1→
    Q ⟨(.int .i64 0),none,[.ob 3 E1,.ob 2 m],[],[]⟩)))
theorem sF:Vc2 Un prog (aU []) [] Tryz.f49 (.r' (.two (.two (.node [] (some ⟨[(17,(.one .bool))],[],upN 7 11,[]⟩) [] [] .leaf .leaf) .leaf) (.r' (.two (.two (.node [] (some ⟨[(43,(.one .bool))],[],upN 27 17,[]⟩) [] [] .leaf .leaf) .leaf) .leaf)))) [] eB=(∀p t r (E:Pd) rm (m:Mem),∀Q,(eB.body p t r E rm m Q)→sD p t r E rm m Q):=by kernel_rfl
section
attribute [local grind=] DB.setState DB.bH DB.JJ
theorem sB:LV Un prog 49 eB:=verify Tryz.func49 aj (tb:= []) trivial (by kernel_rfl) (sF.mpr fun p t r E rm m Q h=>by
 obtain⟨NF,h⟩:=h
 exact fun f1 f2=>bS ((decide ((p:Int)<0)) || (decide ((p:Int)≥(((Pd.aA E).length:Nat):Int)))) (ao (fun c1=>(by grind)) fun c1=>(by grind))<| aW (fun c2=>aL h (bj (by grind)) (ai (uO3 (by grind)) (ai (uO2 (by grind)) rfl)) rfl) fun c2=>ak (by grind) fun s3=>aV (fun c3=>aL h (bj (by grind)) (ai (uO3 (by grind)) (ai (uO2 (by grind)) rfl)) rfl) fun c3=>bS (((t:Int) !=3) && (((t:Int) !=2) || ((((Pd.aA E).getD p.toNat Ent.free).state:Int) !=1))) (ao (fun c4=>ao (fun c5=>(by grind)) fun c5=>ak ‹_› fun s4=>(by grind)) fun c4=>(by grind))<| cE (fun c6=>aL h (bj (by grind)) (ai (uO3 (by grind)) (ai (uO2 (by grind)) rfl)) rfl) fun c6=>ak ‹_› fun s5=>ak (by grind) fun s6 E1 NX f7=>aL h (bj (by grind)) (ai (uO3 (by grind)) (ai (uO2 (by grind)) rfl)) rfl)
end
section
attribute [local grind=] DB.zw DB.lD DB.zE
end
section
attribute [local grind=] DB.MV DB.BM DB.FO DB.more Pd.ka Mem.Aj DB.uH Ent.BO
end
def dX:Ctr Un:=⟨[.one (.obj 0 0),.one (.int .i64),.one (.int .i64)],[],[.ob 3 [(1,1,0)],.ob 2 []],[0,1],fun p q r E rm m K=>E.n=m.S∧K ⟨(.int .i64 ((E.on m).aS p q)),none,[.ob 3 (((E.on m).aG p q).pd),.ob 2 (((E.on m).aG p q).mem)],[],[]⟩⟩
def rq(p:Int)(q:Int)(r:Nat→Nat)(E:Pd)(rm:Nat→Nat)(m:Mem)(Q:Ou Un→Prop):Prop:=
 Pd.Ok E→
 Mem.Wf m→
 ∃J:Bool→Prop,(
  split (decide (p<0)) (
   J true) (
   split (decide (p≥((Pd.aA E).length:Int))) (
    J true) (
    split (decide (q<0)) (
     J true) (
     J (decide (q≥((Pd.aA E).length:Int)))))))∧∀(OO:Nat→Value)(Od:Bool),J Od→
 split Od (
  Q ⟨(.int .i64 5),none,[.ob 3 E,.ob 2 m],[],[]⟩) (
  split (p==q) (
   Q ⟨(.int .i64 1),none,[.ob 3 E,.ob 2 m],[],[]⟩) (
   ∃J1:Bool→Prop,(
    (0≤p∧p<((Pd.aA E).length:Int))∧
    split (((Pd.aA E).getD p.toNat Ent.free).typ !=0) (
     J1 true) (
     (0≤q∧q<((Pd.aA E).length:Int))∧
     J1 (((Pd.aA E).getD q.toNat Ent.free).typ !=0)))∧∀(Nt:Nat→Value)(Yw:Bool),J1 Yw→
   split Yw (
    Q ⟨(.int .i64 120),none,[.ob 3 E,.ob 2 m],[],[]⟩) (
    split (decide ((Pd.aD E)≥64)) (
     Q ⟨(.int .i64 240),none,[.ob 3 E,.ob 2 m],[],[]⟩) (
     (0≤q∧q<((Pd.aA E).length:Int))∧
     (Ent.ok (Ent.mk 3 p 0 0 false)=true∧Ent.owner (Ent.mk 3 p 0 0 false)<(Pd.n E:Int))∧
     ∀(E1:Pd),E1=(Pd.set E q.toNat (Ent.mk 3 p 0 0 false))→
     Pd.Ok E1→
     (0≤p∧p<((Pd.aA E1).length:Int))∧
     (Ent.ok (Ent.mk 1 p 1 1 false)=true∧Ent.owner (Ent.mk 1 p 1 1 false)<(Pd.n E1:Int))∧
     ∀(E2:Pd),E2=(Pd.set E1 p.toNat (Ent.mk 1 p 1 1 false))→
     Pd.Ok E2→
     (0≤(u32.wrap q)∧(u32.wrap q)<4294967296)∧
     ∀(m1:Mem),m1=(m.write true p 0 (u32.wrap q))→
     Mem.Wf m1→
     (0≤(u32.wrap (Pd.aD E2))∧(u32.wrap (Pd.aD E2))<4294967296)∧
     ∀(m2:Mem),m2=(m1.write true p 1 (u32.wrap (Pd.aD E2)))→
     Mem.Wf m2→
     (0≤(0:Int)∧(0:Int)<4294967296)∧
     ∀(m3:Mem),m3=(m2.write true p 2 0)→
     Mem.Wf m3→
     (0≤(i64.wrap ((Pd.aD E2)+1))∧(i64.wrap ((Pd.aD E2)+1))≤64)∧
     ∀(E3:Pd),E3=(Pd.eT E2 (i64.wrap ((Pd.aD E2)+1)))→
     Pd.Ok E3→
     Q ⟨(.int .i64 0),none,[.ob 3 E3,.ob 2 m3],[],[]⟩))))
theorem ru:Vc2 Un prog (aU [(83,eM),(55,gY)]) [] Tryz.f41 (.r' (.two (.two (.node [] (some ⟨[(30,(.one .bool))],[],upN 7 24,[]⟩) [] [] .leaf .leaf) .leaf) (.r' (.two (.two (.node [] (some ⟨[(53,(.one .bool))],[],upN 34 20,[]⟩) [] [] .leaf .leaf) .leaf) (.r' (.r' (.r' (.two (.node [] none [] [(3,[0])] .leaf .leaf) (.two (.node [] none [] [(3,[0]),(9,[0])] .leaf .leaf) (.two (.node [] none [] [(3,[0])] .leaf .leaf) .leaf)))))))))) [] dX=(∀p q r (E:Pd) rm (m:Mem),∀Q,(dX.body p q r E rm m Q)→rq p q r E rm m Q):=by kernel_rfl
section
attribute [local grind=] DB.aG DB.aS DB.bM Pd.qq Pd.wx Pd.tp Pd.HH Mem.dJ aq cG Ent.ok Pd.zv DB.mem_set DB.CR DB.wI
attribute [local grind→] Pd.Ok.aD
theorem rp:LV Un prog 41 dX:=verify Tryz.func41 aj (tb:= [(83,eM),(55,gY)]) ⟨ry,rA,trivial⟩ (by kernel_rfl) (ru.mpr fun p q r E rm m Q h=>by
 obtain⟨NF,h⟩:=h
 exact fun f1 f2=>bS ((decide ((p:Int)<0)) || ((decide ((p:Int)≥(((Pd.aA E).length:Nat):Int))) || ((decide ((q:Int)<0)) || (decide ((q:Int)≥(((Pd.aA E).length:Nat):Int)))))) (ao (fun c1=>(by grind)) fun c1=>ao (fun c2=>(by grind)) fun c2=>ao (fun c3=>(by grind)) fun c3=>(by grind))<| aW (fun c4=>aL h (bj (by grind)) (ai (uO3 (by grind)) (ai (uO2 (by grind)) rfl)) rfl) fun c4=>aO (fun c5=>aL h (bj (by grind)) (ai (uO3 (by grind)) (ai (uO2 (by grind)) rfl)) rfl) fun c5=>bS (((((Pd.aA E).getD p.toNat Ent.free).typ:Int) !=0) || ((((Pd.aA E).getD q.toNat Ent.free).typ:Int) !=0)) (ak (by grind) fun s3=>ao (fun c6=>(by grind)) fun c6=>ak (by grind) fun s4=>(by grind))<| aW (fun c7=>aL h (bj (by grind)) (ai (uO3 (by grind)) (ai (uO2 (by grind)) rfl)) rfl) fun c7=>ax (fun c8=>aL h (bj (by grind)) (ai (uO3 (by grind)) (ai (uO2 (by grind)) rfl)) rfl) fun c8=>ak (by grind) fun s5=>ak (by grind) fun s6 E1 NX f7=>ak (by grind) fun s8=>ak (by grind) fun s9 E2 Ob f10=>ak (bL _) fun OW m1 Nq f12=>ak (bL _) fun NG m2 Q1 f14=>ak (by omega) fun Qx m3 Np f16=>ak (by grind) fun s17 E3 WE f18=>aL h (bj (by grind)) (ai (uO3 (by(rw [DB.aG,if_pos (by grind)];dsimp only [DB.bM];rw [DB.set_comm _ (by grind),Pd.eY,Pd.eY,Pd.qq,Pd.wx,Pd.gi _ _ (by simp only [Mem.dJ];exact NF),← NX,← Ob,WE,aq (by have:=f10.aD;omega),Ob,NX];rfl))) (ai (uO2 (by(rw [DB.aG,if_pos (by grind)];dsimp only [DB.bM,DB.eT,DB.bn];(have hb:E2.aD=E.aD:=by rw [Ob,NX];rfl);(have h7:=f1.aD);(have h8:=f1.eg);rw [Np,Q1,Nq,cG (x:=E2.aD) (by rw [hb];omega),cG (x:=q) (by grind),hb];rfl))) rfl)) rfl)
end
def own(D:DB)(s:Int):List I64:=if D.eF s then D.dE s D.S else []
end
end Go.Proofs.YtfmcaoaaiganbaaGreatDoor
namespace Go.Proofs.YtfmcaoaaiganbaaGreatDoor
open Go.Proofs.Tryz (prog)
open Go Go.RowKit V
open Go.IntKind (i64 u32 u64)
namespace Ent
theorem or0 {e:Ent}(h:e.ok=true):u32.wrap (BitVec.ofInt u32.bits (u32.wrap (BitVec.ofInt u32.bits (u32.wrap ((u32.wrap e.typ:Int)*2 ^ 0)) ||| BitVec.ofInt u32.bits (u32.wrap ((u32.wrap e.state:Int)*2 ^ 4))).toNat) ||| BitVec.ofInt u32.bits (u32.wrap ((u32.wrap e.owner:Int)*2 ^ 16))).toNat=e.typ+16*e.state+65536*e.owner:=by
 have h1:=eo h
 have h2:=kd h
 rw [cG (x:=e.typ) (by omega),cG (x:=e.state) (by omega),cG (x:=e.owner) (by omega),cG (x:=e.typ*2 ^ 0) (by omega),cG (x:=e.state*2 ^ 4) (by omega),cG (x:=e.owner*2 ^ 16) (by omega),nS (x:=e.typ*2 ^ 0) (by omega) (by omega),mM,
  show e.state*2 ^ 4=2 ^ 4*e.state by omega,fA 4 (by omega) (by omega) (by omega),nS (by omega) (by omega),mM,show e.owner*2 ^ 16=2 ^ 16*e.owner by omega,fA 16 (by omega) (by omega) (by omega)]
 omega
theorem or1 {x:Int}(h:∃a b:Int,x=a+512*b∧0≤a∧a<256∧0≤b∧b<8388608):u32.wrap (BitVec.ofInt u32.bits x ||| BitVec.ofInt u32.bits 256).toNat=x+256:=by
 obtain⟨a,b,rfl,h1,h2,h3,h4⟩:=h
 have e1:nor (2 ^ 8*1) a=2 ^ 8*1+a:=fA 8 (by omega) h1 h2
 have e2:nor (2 ^ 9*b) a=2 ^ 9*b+a:=fA 9 h3 h1 (by omega)
 have e3:nor (2 ^ 9*b) (256+a)=2 ^ 9*b+(256+a):=fA 9 h3 (by omega) (by omega)
 rw [nS (by omega) (by omega)]
 have assoc:∀x y z:Int,nor (nor x y) z=nor x (nor y z):=by
  intro x y z;unfold nor;simp [Nat.or_assoc]
 rw [show a+512*b=2 ^ 9*b+a by omega,← e2,assoc,mM a 256,show nor 256 a=256+a by simpa using e1,e3,e2]
 omega
theorem mask(k:Nat) {x:Int}(m:Int)(hm:m=2 ^ k - 1)(hk:k≤31)(hx:0≤x∧x<4294967296):i64.wrap (u32.wrap (BitVec.ofInt u32.bits x &&& BitVec.ofInt u32.bits m).toNat)=x % 2 ^ k:=by
 have h2:(2:Int) ^ k≤2 ^ 31:=by exact_mod_cast Nat.pow_le_pow_right (n:=2) (by omega) hk
 have h3:(0:Int)<2 ^ k:=Int.pow_pos (by omega)
 have h4:=Int.emod_nonneg x (Int.ne_of_gt h3)
 have h5:=Int.emod_lt_of_pos x h3
 subst hm
 rw [pH hx (by omega),nW k hx.1,aq (by omega)]
theorem LI(k:Nat) {x:Int}(m:Int)(hm:m=2 ^ k - 1)(hk:k≤31)(hx:0≤x∧x<4294967296):u32.wrap (BitVec.ofInt u32.bits x &&& BitVec.ofInt u32.bits m).toNat=x % 2 ^ k:=by
 have h2:(2:Int) ^ k≤2 ^ 31:=by exact_mod_cast Nat.pow_le_pow_right (n:=2) (by omega) hk
 have h3:(0:Int)<2 ^ k:=Int.pow_pos (by omega)
 subst hm
 rw [pH hx (by omega),nW k hx.1]
theorem kT {x:Int}(n:Nat)(hx:0≤x∧x<4294967296):0≤x.fdiv (2 ^ n)∧x.fdiv (2 ^ n)<4294967296:=by
 rw [lF]
 have h3:(0:Int)<2 ^ n:=Int.pow_pos (by omega)
 refine⟨Int.ediv_nonneg hx.1 (by omega),?_⟩
 have:=Int.ediv_le_self (2 ^ n) hx.1
 omega
theorem parts_eq {a b:Int}(ha:0≤a∧a<4294967296)(hb:0≤b∧b<4294967296):
 i64.wrap (u32.wrap (BitVec.ofInt u32.bits ((a:Int).fdiv (2 ^ 0)) &&& BitVec.ofInt u32.bits 7).toNat)=(parts a b).typ∧
 i64.wrap (u32.wrap (BitVec.ofInt u32.bits ((a:Int).fdiv (2 ^ 16)) &&& BitVec.ofInt u32.bits 63).toNat)=(parts a b).owner∧
 i64.wrap (u32.wrap (BitVec.ofInt u32.bits b &&& BitVec.ofInt u32.bits 63).toNat)=(parts a b).refs∧
 i64.wrap (u32.wrap (BitVec.ofInt u32.bits ((a:Int).fdiv (2 ^ 4)) &&& BitVec.ofInt u32.bits 3).toNat)=(parts a b).state∧
 ((u32.wrap (BitVec.ofInt u32.bits ((a:Int).fdiv (2 ^ 8)) &&& BitVec.ofInt u32.bits 1).toNat:Int)==1)=(parts a b).br:=by
 refine⟨?_,?_,?_,?_,?_⟩
 ·rw [mask 3 7 (by decide) (by decide) (kT 0 ha),lF];simp [parts]
 ·rw [mask 6 63 (by decide) (by decide) (kT 16 ha),lF];simp [parts]
 ·rw [mask 6 63 (by decide) (by decide) hb];simp [parts]
 ·rw [mask 2 3 (by decide) (by decide) (kT 4 ha),lF];simp [parts]
 ·rw [LI 1 1 (by decide) (by decide) (kT 8 ha),lF];simp only [parts];rw [Bool.eq_iff_iff];simp
theorem eqW(a b c d:Int):bp #[.int .u32 a,.int .u32 b] #[.int .u32 c,.int .u32 d]=(decide (a=c) && decide (b=d)):=by
 simp [bp,eqL,jN];rfl
end Ent
end Go.Proofs.YtfmcaoaaiganbaaGreatDoor
namespace Go.Proofs.YtfmcaoaaiganbaaGreatDoor
open Go.Proofs.Tryz (prog)
open Go Go.RowKit V
open Go.IntKind (i64 u32 u64)
section
set_option maxRecDepth 100000
set_option maxHeartbeats 1000000
attribute [local irreducible] Vc2 VcD
theorem Ent.eqC(a b c d a' b' c' d':Int)(e e':Bool):bp #[.int .i64 a,.int .i64 b,.int .i64 c,.int .i64 d,.bool e] #[.int .i64 a',.int .i64 b',.int .i64 c',.int .i64 d',.bool e']=decide (a=a'∧b=b'∧c=c'∧d=d'∧e=e'):=by
 simp [bp,eqL,jN];rw [Bool.eq_iff_iff];simp
theorem Ent.FK {e:Ent}:(if e.ok then(0:Int)else 110)=0↔e.ok=true:=by cases e.ok<;>simp
def nE:Ctr Un:=⟨[.one (.int .i64)],[],[],[],fun n K=>K ⟨(.bool (decide (0≤n∧n≤63))),none,[],[],[]⟩⟩
def Jw(n:Int)(Q:Ou Un→Prop):Prop:=
 ∃J:Bool→Prop,(
  split (decide (n≥0)) (
   J (decide (n≤63))) (
   J false))∧∀(OO:Nat→Value)(x2:Bool),J x2→
 Q ⟨(.bool x2),none,[],[],[]⟩
theorem Jy:Vc2 Un prog (aU []) [] Tryz.f226 (.r' (.two (.node [] (some ⟨[(2,(.one .bool))],[],upN 2 7,[]⟩) [] [] .leaf .leaf) .leaf)) [] nE=(∀n,∀Q,(nE.body n Q)→Jw n Q):=by kernel_rfl
theorem Jv:LV Un prog 226 nE:=verify Tryz.func226 aj (tb:= []) trivial (by kernel_rfl) (Jy.mpr fun n Q h=>bS ((decide ((n:Int)≥0)) && (decide ((n:Int)≤63))) (ao (fun c1=>(by show _=_;rw [Bool.eq_iff_iff];simp_all<;>omega)) fun c1=>(by show _=_;rw [Bool.eq_iff_iff];simp_all<;>omega))<| bG h (by rw [Bool.eq_iff_iff];simp))
def kM:Ctr Un:=⟨[.agg [.int .i64,.int .i64,.int .i64,.int .i64,.bool]],[],[],[],fun ea eb ec ed ee K=>K ⟨(.int .i64 (if(Ent.mk ea eb ec ed ee).ok then 0 else 110)),none,[],[],[]⟩⟩
def Hx(ea:Int)(eb:Int)(ec:Int)(ed:Int)(ee:Bool)(Q:Ou Un→Prop):Prop:=
 ∀(gv:Nat),
 ∀(Nd:Nat),
 ∃J:Bool→Prop,(
  split (decide (ea≥0)) (
   ∀ok:Bool,ok=(decide ((ea:Int)<7))→
   J ok) (
   ∀ok:Bool,ok=false→
   J ok))∧∀(Pw:Nat→Value)(ok:Bool),J ok→
 ∃J1:Bool→Int→Int→Int→Int→Bool→Prop,(
  split (ea !=0) (
   ∃J2:Bool→Prop,(
    split ok (
     ∀QJ:Bool,QJ=(decide (0≤eb∧eb≤63))→
     J2 QJ) (
     ∀QJ:Bool,QJ=false→
     J2 QJ))∧∀(Sc:Nat→Value)(QJ:Bool),J2 QJ→
   J1 QJ ea eb 0 0 false) (
   J1 ok ea 0 0 0 false))∧∀(Sc:Nat→Value)(QJ:Bool) Up Uo RT Vd (Vc:Bool),J1 QJ Up Uo RT Vd Vc→
 ∀Od:Bool,Od=((ea:Int)==1)→
 split Od (
  ∃J2:Bool→Prop,(
   split QJ (
    split (decide (0≤ec∧ec≤63)) (
     split (decide (ed>0)) (
      ∀Si:Bool,Si=(decide ((ed:Int)<4))→
      J2 Si) (
      ∀Si:Bool,Si=false→
      J2 Si)) (
     ∀Si:Bool,Si=false→
     J2 Si)) (
    ∀Si:Bool,Si=false→
    J2 Si))∧∀(P4:Nat→Value)(Si:Bool),J2 Si→
  ∃J3:Bool→Prop,(
   split (!Si) (
    J3 true) (
    J3 (!(bp #[(.int .i64 ea),(.int .i64 eb),(.int .i64 ec),(.int .i64 ed),(.bool ee)] #[(.int .i64 Up),(.int .i64 Uo),(.int .i64 ec),(.int .i64 ed),(.bool Vc)]))))∧∀(ab4:Nat→Value)(Vh:Bool),J3 Vh→
  split Vh (
   Q ⟨(.int .i64 110),none,[],[],[]⟩) (
   Q ⟨(.int .i64 0),none,[],[],[]⟩)) (
  ∀Yv:Bool,Yv=((ea:Int)==2)→
  split Yv (
   ∃J2:Bool→Prop,(
    split (!QJ) (
     J2 true) (
     J2 (!(bp #[(.int .i64 ea),(.int .i64 eb),(.int .i64 ec),(.int .i64 ed),(.bool ee)] #[(.int .i64 Up),(.int .i64 Uo),(.int .i64 RT),(.int .i64 Vd),(.bool ee)]))))∧∀(P4:Nat→Value)(Vh:Bool),J2 Vh→
   split Vh (
    Q ⟨(.int .i64 110),none,[],[],[]⟩) (
    Q ⟨(.int .i64 0),none,[],[],[]⟩)) (
   ∃J2:Bool→Prop,(
    split (!QJ) (
     J2 true) (
     J2 (!(bp #[(.int .i64 ea),(.int .i64 eb),(.int .i64 ec),(.int .i64 ed),(.bool ee)] #[(.int .i64 Up),(.int .i64 Uo),(.int .i64 RT),(.int .i64 Vd),(.bool Vc)]))))∧∀(P4:Nat→Value)(Vh:Bool),J2 Vh→
   split Vh (
    Q ⟨(.int .i64 110),none,[],[],[]⟩) (
    Q ⟨(.int .i64 0),none,[],[],[]⟩)))
theorem Hy:Vc2 Un prog (aU [(226,nE)]) [4,30,54] Tryz.f199 (.r' (.r' (.two (.node [] (some ⟨[(4,(.one .bool))],[],[4]++upN 8 8,[]⟩) [] [] .leaf .leaf) (.two (.r' (.node [] (some ⟨[(4,(.one .bool))],[],[4]++upN 19 9,[(1,(.blk [(.v (.int .i64)),(.v (.int .i64)),(.v (.int .i64)),(.v (.int .i64)),(.v .bool)]))]⟩) [] [] (.r' (.node [] (some ⟨[(4,(.one .bool))],[],[4]++upN 22 6,[]⟩) [] [] .leaf .leaf)) .leaf)) (.two (.r' (.two (.r' (.two (.two (.node [] none [] [(1,[0]),(3,[0])] .leaf .leaf) (.node [] (some ⟨[(4,(.one .bool))],[],[4]++upN 38 16,[]⟩) [] [] .leaf .leaf)) .leaf)) .leaf)) (.two (.two (.node [] (some ⟨[(65,(.one .bool))],[],upN 59 7,[]⟩) [] [] .leaf .leaf) .leaf) .leaf)))))) [] kM=(∀ea eb ec ed ee,∀Q,(kM.body ea eb ec ed ee Q)→Hx ea eb ec ed ee Q):=by kernel_rfl
section
attribute [local grind=] Ent.ok Ent.eqC
theorem Hw:LV Un prog 199 kM:=verify Tryz.func199 aj (tb:= [(226,nE)]) ⟨Jv,trivial⟩ (by kernel_rfl) (Hy.mpr fun ea eb ec ed ee Q h gv Nd=>bS ((decide ((ea:Int)≥0)) && (decide ((ea:Int)<7))) (ao (fun c1=>allEq<| (by grind)) fun c1=>allEq<| (by grind))<| ⟨fun QJ Up Uo RT Vd Vc=>(QJ=(decide (0≤ea∧ea<7) && (ea==0 || decide (0≤eb∧eb≤63))))∧(Up=ea∧Uo=(if ea=0 then 0 else eb)∧RT=0∧Vd=0∧Vc=false),aV (fun c2=>bS (((decide ((ea:Int)≥0)) && (decide ((ea:Int)<7))) && (decide (0≤eb∧eb≤63))) (ao (fun c3=>allEq<| (by grind)) fun c3=>allEq<| (by grind))<| ⟨(by grind),(by grind)⟩) fun c2=>⟨(by grind),(by grind)⟩,fun _ QJ Up Uo RT Vd Vc ⟨g1,g2⟩=>allEq<| aO (fun c4=>bS (QJ && ((decide (0≤ec∧ec≤63)) && ((decide ((ed:Int)>0)) && (decide ((ed:Int)<4))))) (ao (fun c5=>ao (fun c6=>ao (fun c7=>allEq<| (by grind)) fun c7=>allEq<| (by grind)) fun c6=>allEq<| (by grind)) fun c5=>allEq<| (by grind))<| bS ((!(QJ && ((decide (0≤ec∧ec≤63)) && ((decide ((ed:Int)>0)) && (decide ((ed:Int)<4)))))) || (!(bp #[(.int .i64 ea),(.int .i64 eb),(.int .i64 ec),(.int .i64 ed),(.bool ee)] #[(.int .i64 Up),(.int .i64 Uo),(.int .i64 ec),(.int .i64 ed),(.bool Vc)]))) (ao (fun c8=>(by grind)) fun c8=>(by grind))<| aW (fun c9=>fk h (by grind)) fun c9=>fk h (by grind)) fun c4=>allEq<| aO (fun SL=>bS ((!QJ) || (!(bp #[(.int .i64 ea),(.int .i64 eb),(.int .i64 ec),(.int .i64 ed),(.bool ee)] #[(.int .i64 Up),(.int .i64 Uo),(.int .i64 RT),(.int .i64 Vd),(.bool ee)]))) (ao (fun Vb=>(by grind)) fun Vb=>(by grind))<| aW (fun Q5=>fk h (by grind)) fun Q5=>fk h (by grind)) fun SL=>bS ((!QJ) || (!(bp #[(.int .i64 ea),(.int .i64 eb),(.int .i64 ec),(.int .i64 ed),(.bool ee)] #[(.int .i64 Up),(.int .i64 Uo),(.int .i64 RT),(.int .i64 Vd),(.bool Vc)]))) (ao (fun V0=>(by grind)) fun V0=>(by grind))<| aW (fun VZ=>fk h (by grind)) fun VZ=>fk h (by grind)⟩)
end
section
attribute [local grind=] Ent.ok
end
def ji:Ctr Un:=⟨[.agg [.int .i64,.int .i64,.int .i64,.int .i64,.bool]],[],[],[],fun ea eb ec ed ee K=>∀(x:Int)(y:Int)(z:Int),((x=(if(Ent.mk ea eb ec ed ee).ok then(Ent.mk ea eb ec ed ee).w0 else 0)∧y=(if(Ent.mk ea eb ec ed ee).ok then(Ent.mk ea eb ec ed ee).w1 else 0)∧z=(if(Ent.mk ea eb ec ed ee).ok then 0 else 110)))→K ⟨(.tuple #[(.agg #[(.int .u32 x),(.int .u32 y)]),(.int .i64 z)]),(some (.t [none,none])),[],[],[]⟩⟩
def Ek(ea:Int)(eb:Int)(ec:Int)(ed:Int)(ee:Bool)(Q:Ou Un→Prop):Prop:=
 ∀(gv:Nat),
 ∀(Nd:Nat),
 split (((if(Ent.mk ea eb ec ed ee).ok then 0 else 110):Int) !=0) (
  Q ⟨(.tuple #[(.agg #[(.int .u32 0),(.int .u32 0)]),(.int .i64 110)]),(some (.t [none,none])),[],[],[]⟩) (
  ∀wv:Int,wv=(u32.wrap (BitVec.ofInt u32.bits (u32.wrap (BitVec.ofInt u32.bits (u32.wrap ((u32.wrap ea:Int)*2 ^ 0)) ||| BitVec.ofInt u32.bits (u32.wrap ((u32.wrap ed:Int)*2 ^ 4))).toNat) ||| BitVec.ofInt u32.bits (u32.wrap ((u32.wrap eb:Int)*2 ^ 16))).toNat)→
  split ee (
   ∀M5:Int,M5=(u32.wrap (BitVec.ofInt u32.bits wv ||| BitVec.ofInt u32.bits 256).toNat)→
   Q ⟨(.tuple #[(.agg #[(.int .u32 M5),(.int .u32 (u32.wrap ec))]),(.int .i64 0)]),(some (.t [none,none])),[],[],[]⟩) (
   Q ⟨(.tuple #[(.agg #[(.int .u32 wv),(.int .u32 (u32.wrap ec))]),(.int .i64 0)]),(some (.t [none,none])),[],[],[]⟩))
theorem El:Vc2 Un prog (aU [(199,kM)]) [4] Tryz.f147 .leaf [] ji=(∀ea eb ec ed ee,∀Q,(ji.body ea eb ec ed ee Q)→Ek ea eb ec ed ee Q):=by kernel_rfl
theorem uc:LV Un prog 147 ji:=verify Tryz.func147 aj (tb:= [(199,kM)]) ⟨Hw,trivial⟩ (by kernel_rfl) (El.mpr fun ea eb ec ed ee Q h gv Nd=>aV (fun c1=>(h 0 0 110 (by grind))) fun c1=>allEq<| ao (fun c2=>allEq<| aL (h (u32.wrap (BitVec.ofInt u32.bits (u32.wrap (BitVec.ofInt u32.bits (u32.wrap (BitVec.ofInt u32.bits (u32.wrap ((u32.wrap ea:Int)*2 ^ 0)) ||| BitVec.ofInt u32.bits (u32.wrap ((u32.wrap ed:Int)*2 ^ 4))).toNat) ||| BitVec.ofInt u32.bits (u32.wrap ((u32.wrap eb:Int)*2 ^ 16))).toNat) ||| BitVec.ofInt u32.bits 256).toNat) (u32.wrap ec) 0 (by have hk:=Ent.FK.1 c1;have h1:=Ent.eo hk;have h2:=Ent.kd hk;simp only at h1 h2;rw [if_pos hk,if_pos hk,if_pos hk];refine⟨?_,cG (x:=ec) (by omega),rfl⟩;have h3:=Ent.or0 hk;simp only at h3;rw [h3,Ent.or1 ⟨ea+16*ed,128*eb,by omega⟩];simp [Ent.w0,c2])) (congrArg (fun l=>Value.tuple (List.toArray l)) (ai (congrArg (fun l=>Value.agg (List.toArray l)) (ai rfl (ai (bU (by rfl)) rfl))) (ai rfl rfl))) rfl rfl) fun c2=>aL (h (u32.wrap (BitVec.ofInt u32.bits (u32.wrap (BitVec.ofInt u32.bits (u32.wrap ((u32.wrap ea:Int)*2 ^ 0)) ||| BitVec.ofInt u32.bits (u32.wrap ((u32.wrap ed:Int)*2 ^ 4))).toNat) ||| BitVec.ofInt u32.bits (u32.wrap ((u32.wrap eb:Int)*2 ^ 16))).toNat) (u32.wrap ec) 0 (by have hk:=Ent.FK.1 c1;have h1:=Ent.eo hk;have h2:=Ent.kd hk;simp only at h1 h2;rw [if_pos hk,if_pos hk,if_pos hk];refine⟨?_,cG (x:=ec) (by omega),rfl⟩;have h3:=Ent.or0 hk;simp only at h3;rw [h3];simp [Ent.w0,c2])) (congrArg (fun l=>Value.tuple (List.toArray l)) (ai (congrArg (fun l=>Value.agg (List.toArray l)) (ai rfl (ai (bU (by rfl)) rfl))) (ai rfl rfl))) rfl rfl)
theorem Ent.IA {a b x y z:Int}(h:x=(if(parts a b).ok then(parts a b).w0 else 0)∧y=(if(parts a b).ok then(parts a b).w1 else 0)∧z=(if(parts a b).ok then 0 else 110))(c:(z !=0)=true∨(!(bp #[.int .u32 x,.int .u32 y] #[.int .u32 a,.int .u32 b]))=true):dec a b=free∧fZ a b=110:=by
 obtain⟨rfl,rfl,rfl⟩:=h
 rw [eqW]at c
 cases hk:(parts a b).ok<;>simp [hk]at c
 ·simp [dec,fZ,hk]
 ·have h2:¬((parts a b).w0=a∧(parts a b).w1=b):=by rcases c with c | c<;>simp [c]
  simp [dec,fZ,hk,h2]
theorem Ent.FZ {a b x y z:Int}(h:x=(if(parts a b).ok then(parts a b).w0 else 0)∧y=(if(parts a b).ok then(parts a b).w1 else 0)∧z=(if(parts a b).ok then 0 else 110))(c:(z !=0)=false∧(!(bp #[.int .u32 x,.int .u32 y] #[.int .u32 a,.int .u32 b]))=false):dec a b=parts a b∧fZ a b=0:=by
 obtain⟨rfl,rfl,rfl⟩:=h
 rw [eqW]at c
 cases hk:(parts a b).ok<;>simp [hk]at c
 simp [dec,fZ,hk,c]
def oo:Ctr Un:=⟨[.agg [.int .u32,.int .u32]],[],[],[],fun wa wb K=>(0≤(wa:Int)∧(wa:Int)<4294967296)∧(0≤(wb:Int)∧(wb:Int)<4294967296)∧K ⟨(.tuple #[(.agg #[(.int .i64 ((Ent.dec wa wb).typ)),(.int .i64 ((Ent.dec wa wb).owner)),(.int .i64 ((Ent.dec wa wb).refs)),(.int .i64 ((Ent.dec wa wb).state)),(.bool ((Ent.dec wa wb).br))]),(.int .i64 (Ent.fZ wa wb))]),(some (.t [none,none])),[],[],[]⟩⟩
def En(wa:Int)(wb:Int)(Q:Ou Un→Prop):Prop:=
 ∀(gv:Nat),
 ∀(Nd:Nat),
 (0≤(0:Int)∧(0:Int)<(2:Int))∧
 ∀Nm:Int,Nm=(i64.wrap (u32.wrap (BitVec.ofInt u32.bits ((wa:Int).fdiv (2 ^ 0)) &&& BitVec.ofInt u32.bits 7).toNat))→
 (0≤(0:Int)∧(0:Int)<(2:Int))∧
 ∀OB:Int,OB=(i64.wrap (u32.wrap (BitVec.ofInt u32.bits ((wa:Int).fdiv (2 ^ 4)) &&& BitVec.ofInt u32.bits 3).toNat))→
 (0≤(0:Int)∧(0:Int)<(2:Int))∧
 ∀Om:Bool,Om=((u32.wrap (BitVec.ofInt u32.bits ((wa:Int).fdiv (2 ^ 8)) &&& BitVec.ofInt u32.bits 1).toNat:Int)==1)→
 (0≤(0:Int)∧(0:Int)<(2:Int))∧
 ∀P8:Int,P8=(i64.wrap (u32.wrap (BitVec.ofInt u32.bits ((wa:Int).fdiv (2 ^ 16)) &&& BitVec.ofInt u32.bits 63).toNat))→
 (0≤(1:Int)∧(1:Int)<(2:Int))∧
 ∀Od:Int,Od=(i64.wrap (u32.wrap (BitVec.ofInt u32.bits wb &&& BitVec.ofInt u32.bits 63).toNat))→
 ∀(NC:Nat),
 ∀(x:Int)(y:Int)(z:Int),
 ((x=(if(Ent.mk Nm P8 Od OB Om).ok then(Ent.mk Nm P8 Od OB Om).w0 else 0)∧y=(if(Ent.mk Nm P8 Od OB Om).ok then(Ent.mk Nm P8 Od OB Om).w1 else 0)∧z=(if(Ent.mk Nm P8 Od OB Om).ok then 0 else 110)))→
 ∀(Nh:Nat),
 ∃J:Bool→Prop,(
  split (z !=0) (
   J true) (
   J (!(bp #[(.int .u32 x),(.int .u32 y)] #[(.int .u32 wa),(.int .u32 wb)]))))∧∀(P4:Nat→Value)(PA:Bool),J PA→
 split PA (
  Q ⟨(.tuple #[(.agg #[(.int .i64 0),(.int .i64 0),(.int .i64 0),(.int .i64 0),(.bool false)]),(.int .i64 110)]),(some (.t [none,none])),[],[],[]⟩) (
  Q ⟨(.tuple #[(.agg #[(.int .i64 Nm),(.int .i64 P8),(.int .i64 Od),(.int .i64 OB),(.bool Om)]),(.int .i64 0)]),(some (.t [none,none])),[],[],[]⟩)
theorem Eo:Vc2 Un prog (aU [(147,ji)]) [11,16,21,26,30] Tryz.f146 (.r' (.r' (.two (.r' (.two (.node [] (some ⟨[(43,(.one .bool))],[],upN 37 7,[]⟩) [] [] .leaf .leaf) .leaf)) .leaf))) [] oo=(∀wa wb,∀Q,(oo.body wa wb Q)→En wa wb Q):=by kernel_rfl
theorem Em:LV Un prog 146 oo:=verify Tryz.func146 aj (tb:= [(147,ji)]) ⟨uc,trivial⟩ (by kernel_rfl) (Eo.mpr fun wa wb Q h=>by
 obtain⟨e1,e2,e3,e4,e5⟩:=Ent.parts_eq h.1 h.2.1
 obtain⟨NF,Nz,h⟩:=h
 exact fun gv Nd=>ak (by omega) fun s1 Nm PN=>ak ‹_› fun s2 OB VR=>ak ‹_› fun s3 Om VP=>ak ‹_› fun s4 P8 VO=>ak (by omega) fun s5 Od VN NC x y z f6=>(by rw [e1]at PN;rw [e2]at VO;rw [e3]at VN;rw [e4]at VR;rw [e5]at VP;subst PN VO VN VR VP;exact fun Nh=>bS (((z:Int) !=0) || (!(bp #[(.int .u32 x),(.int .u32 y)] #[(.int .u32 wa),(.int .u32 wb)]))) (ao (fun c1=>(by grind)) fun c1=>(by grind))<| aW (fun c2=>(by have hd:=Ent.IA (a:=wa) (b:=wb) f6 c2;exact aL h (by rw [hd.1,hd.2]<;>rfl) rfl rfl)) fun c2=>(by have hd:=Ent.FZ (a:=wa) (b:=wb) f6 c2;exact aL h (by rw [hd.1,hd.2]<;>rfl) rfl rfl)))
theorem puC {P:Program} {f:Nat} {args:Array Value} {w:World} {v:Value} {k:Option Kn}(h:∀X:Nat→Nat→Prop,Sat (U:=Un) [] X w→aE (U:=Un) [] fr0 []→Calls P f args w (bP (U:=Un) [] [] X w (fun o=>o=⟨v,k,[],[],[]⟩)))(hk:jS k v= .returned v:=by rfl):Calls P f args w fun e w'=>∃u,e= .returned u∧u=v∧Pu w w':=by
 refine(h (fun _ _=>False) ⟨fun i r h=>by simp [nth]at h,fun _ _ _ _ _ _ h=>h.elim⟩ (fun _ _ h=>by cases h)).mono ?_
 rintro e w' ⟨out,rs',X',rfl,rfl,_,hp⟩
 exact⟨_,hk,rfl,hp.ch.mono fun k ⟨j,hj,_⟩=>by cases hj⟩
theorem Iy {w:World}(ea eb ec ed:Int)(ee:Bool):
 Calls prog 147 #[(.agg #[(.int .i64 ea),(.int .i64 eb),(.int .i64 ec),(.int .i64 ed),(.bool ee)])] w fun e w'=>∃v,e= .returned v∧v= .tuple #[(.agg #[(.int .u32 (if(Ent.mk ea eb ec ed ee).ok then(Ent.mk ea eb ec ed ee).w0 else 0)),(.int .u32 (if(Ent.mk ea eb ec ed ee).ok then(Ent.mk ea eb ec ed ee).w1 else 0))]),(.int .i64 (if(Ent.mk ea eb ec ed ee).ok then 0 else 110))]∧Pu w w':=
 puC fun X=>uc ea eb ec ed ee (fun o=>o=_) (fun x y z h=>by obtain⟨rfl,rfl,rfl⟩:=h;rfl) X w
theorem Iz {w:World}(wa wb:Int)(ha:0≤wa∧wa<4294967296)(hb:0≤wb∧wb<4294967296):
 Calls prog 146 #[(.agg #[(.int .u32 wa),(.int .u32 wb)])] w fun e w'=>∃v,e= .returned v∧v=(.tuple #[(.agg #[(.int .i64 ((Ent.dec wa wb).typ)),(.int .i64 ((Ent.dec wa wb).owner)),(.int .i64 ((Ent.dec wa wb).refs)),(.int .i64 ((Ent.dec wa wb).state)),(.bool ((Ent.dec wa wb).br))]),(.int .i64 (Ent.fZ wa wb))])∧Pu w w':=
 puC fun X=>Em wa wb (fun o=>o=_) ⟨ha,hb,rfl⟩ X w
end
end Go.Proofs.YtfmcaoaaiganbaaGreatDoor
namespace Go.Proofs.YtfmcaoaaiganbaaGreatDoor
open Go.Proofs.Tryz (prog)
open Go Go.RowKit V
open Go.IntKind (i64 u32 u64)
section
set_option maxRecDepth 10000
set_option maxHeartbeats 1000000
theorem K3 {w:World}(t:Int):
 Calls prog 87 #[(.int .i64 t)] w fun e w'=>∃v,e= .returned v∧v= .bool (DB.turns t)∧Pu w w':=by
 refine vv _ ?_
 have hp:=Ch.refl (fun _=>False) w
 refine⟨fun x w'=>x=(((t:Int)==4) || (((t:Int)==5) || ((t:Int)==6)))∧Pu w w',?_,?_⟩
 ·refine ao (fun c1=>?_) (fun c1=>?_)
  ·exact⟨by simp only [c1,Bool.true_and,Bool.and_true,Bool.false_and,Bool.and_false,Bool.true_or,Bool.or_true,Bool.false_or,Bool.or_false,Bool.not_true,Bool.not_false,if_true,if_false,Bool.false_eq_true],Ch.refl _ _⟩
  ·refine ao (fun c2=>?_) (fun c2=>?_)
   ·exact⟨by simp only [c1,c2,Bool.true_and,Bool.and_true,Bool.false_and,Bool.and_false,Bool.true_or,Bool.or_true,Bool.false_or,Bool.or_false,Bool.not_true,Bool.not_false,if_true,if_false,Bool.false_eq_true],Ch.refl _ _⟩
   ·exact⟨by simp only [c1,c2,Bool.true_and,Bool.and_true,Bool.false_and,Bool.and_false,Bool.true_or,Bool.or_true,Bool.false_or,Bool.or_false,Bool.not_true,Bool.not_false,if_true,if_false,Bool.false_eq_true],Ch.refl _ _⟩
 rintro _ _ wv ⟨rfl,Nl⟩
 have hp:=Ch.pu hp Nl
 exact⟨congrArg Value.bool (by simp [DB.turns,Bool.or_assoc]),hp⟩
theorem pF {w:World}(ay:Int):
 Calls prog 80 #[(.int .i64 ay)] w fun e w'=>∃v,e= .returned v∧v= .agg #[(.bool true),(.int .i64 ay)]∧Pu w w':=by
 refine sO _ ?_
 have hp:=Ch.refl (fun _=>False) w
 refine mkd fun gv wv Ng=>?_
 have Nx:=Ng.lo hp
 have M1:=Ng.blk
 refine bQ M1 (by simp) fun M5 Ry=>?_
 have M1:Blk M5 gv #[(.bool true),(.int .i64 ay)] _:=Ry.blk
 refine⟨_,_,⟨M1.at rfl,M1.at rfl⟩,?_⟩
 have hp:=Ch.call (Ch.made hp Ng) Ry.ch (by exact fun k e=>.inr (e▸Nx))
 exact⟨rfl,hp⟩
theorem zU {L:gB} {D:DB} {w:World}(h:DBP w L D):
 Calls prog 70 #[(.pointer (some (Addr.mk L.g 0 none)))] w fun e w'=>∃v,e= .returned v∧v= .int .i64 (D.S:Int)∧w'=w:=by
 refine vB (some (Addr.mk L.g 0 none)) ?_
 obtain⟨_,dhd_h⟩:=h.hd
 refine au _ rfl ⟨_,_,_,dhd_h.at rfl,?_⟩
 exact⟨congrArg (Value.int .i64) (by have:=h.S64;rw [aq (by rw [Int.tdiv_eq_ediv_of_nonneg (by omega)];unfold DB.S DB.n2 at *;omega)];rw [Int.tdiv_eq_ediv_of_nonneg (by omega)];unfold DB.S DB.n2;omega),rfl⟩
theorem Dd {L:gB} {D:DB} {w:World}(h:DBP w L D)(ay:Int):
 Calls prog 84 #[(.pointer (some (Addr.mk L.g 0 none))),(.int .i64 ay)] w fun e w'=>∃v,e= .returned v∧v= .bool (D.has ay)∧Pu w w':=by
 refine AT (some (Addr.mk L.g 0 none)) _ ?_
 have hp:=Ch.refl (fun _=>False) w
 have Pk:=h.lt
 refine⟨fun x w'=>x=((decide ((ay:Int)≥0)) && (decide ((ay:Int)<(D.S:Int))))∧Pu w w',?_,?_⟩
 ·refine ao (fun c1=>?_) (fun c1=>?_)
  ·refine Calls.mono (zU h) ?_
   rintro e w9 ⟨_,rfl,rfl,e9⟩
   obtain rfl:=e9.symm
   refine⟨_,rfl,?_⟩
   exact⟨by simp only [c1,Bool.true_and,Bool.and_true,Bool.false_and,Bool.and_false,Bool.true_or,Bool.or_true,Bool.false_or,Bool.or_false,Bool.not_true,Bool.not_false,if_true,if_false,Bool.false_eq_true],Ch.refl _ _⟩
  ·exact⟨by simp only [c1,Bool.true_and,Bool.and_true,Bool.false_and,Bool.and_false,Bool.true_or,Bool.or_true,Bool.false_or,Bool.or_false,Bool.not_true,Bool.not_false,if_true,if_false,Bool.false_eq_true],Ch.refl _ _⟩
 rintro _ _ wv ⟨rfl,Nl⟩
 have hp:=Ch.pu hp Nl
 exact⟨congrArg Value.bool (by rw [Bool.eq_iff_iff];simp [DB.has]),hp⟩
theorem dAt {L:gB} {D:DB} {w:World}(h:DBP w L D)(ay:Int)(hp:D.has ay=true):
 Calls prog 85 #[.pointer (some (Addr.mk L.g 0 none)),.int .i64 ay] w fun e w'=>∃v,e= .returned v∧v= .agg #[.int .i64 (D.at_ ay).typ,.int .i64 (D.at_ ay).owner,.int .i64 (D.at_ ay).refs,.int .i64 (D.at_ ay).state,.bool (D.at_ ay).br]∧Pu w w':=by
 refine Ex _ _ ?_
 refine mkd fun gv wv m=>?_
 have h1:=h.pu m.pu
 obtain⟨T,hd⟩:=h1.hd
 obtain⟨T2,cs,hr,ND,hw⟩:=h1.ws
 have hn:=DB.dt hp
 have ho:=DB.cN hp
 have RR:=h.S64
 have e0:i64.wrap (2*ay)=2*ay:=aq (by omega)
 have e1:(2*ay).toNat=2*ay.toNat:=by omega
 have e2:D.n2=2*D.S:=rfl
 refine au _ rfl ⟨_,_,_,hd.at rfl,by rw [e0,e2];omega,?_⟩
 rintro _ rfl _ rfl _ rfl
 rw [e0,e1,e2]
 refine⟨by omega,au (Addr.mk L.a (2*ay.toNat) none) (by rw [if_neg (by omega)];simp [Addr.add];omega) ?_⟩
 refine⟨_,_,⟨by rw [bF];exact hr.cell (hw _ hn).1,by rw [bF];exact hr.cell (hw _ hn).2⟩,?_⟩
 have OQ:=(h.ok.ent _ hn).1
 refine Calls.mono (Iz _ _ (Ent.EC OQ) (Ent.EB OQ)) ?_
 rw [(Ent.BT OQ).1,(Ent.BT OQ).2]
 rintro e w1 ⟨_,rfl,rfl,q1⟩
 refine⟨_,_,_,_,_,_,rfl,?_⟩
 refine mkd fun g1 w2 m1=>?_
 have b1:=m1.blk
 have b0:=m1.old (q1.blk m.blk)
 have ne:=m1.ne (q1.blk m.blk)
 refine bQ b1 (by simp) fun w3 s3=>?_
 have b1':Blk w3 g1 #[.int .i64 (D.at_ ay).typ,.int .i64 (D.at_ ay).owner,.int .i64 (D.at_ ay).refs,.int .i64 (D.at_ ay).state,.bool (D.at_ ay).br] _:=s3.blk
 refine⟨_,_,_,_,_,⟨b1'.at rfl,b1'.at rfl,b1'.at rfl,b1'.at rfl,b1'.at rfl⟩,?_⟩
 refine bQ (s3.old b0 ne) (by simp) fun w4 s4=>?_
 have b0':Blk w4 gv #[.int .i64 (D.at_ ay).typ,.int .i64 (D.at_ ay).owner,.int .i64 (D.at_ ay).refs,.int .i64 (D.at_ ay).state,.bool (D.at_ ay).br] _:=s4.blk
 refine⟨_,_,_,_,_,⟨b0'.at rfl,b0'.at rfl,b0'.at rfl,b0'.at rfl,b0'.at rfl⟩,?_⟩
 have NF:Pu w wv:=m.pu
 have NN:Pu w w2:=(NF.trans q1).made m1
 exact⟨rfl,(NN.stored s3 (.inr (m1.lo (NF.trans q1)))).stored s4 (.inr (m.lo (Ch.refl (fun _=>False) w)))⟩
theorem F0 {L:gB} {D:DB} {w:World}(h:DBP w L D)(ay:Int)(ea eb ec ed:Int)(ee:Bool)(hp:D.has ay=true)(he:(Ent.mk ea eb ec ed ee).ok=true)(PZ:eb<(D.S:Int)):
 Calls prog 86 #[.pointer (some (Addr.mk L.g 0 none)),.int .i64 ay,.agg #[.int .i64 ea,.int .i64 eb,.int .i64 ec,.int .i64 ed,.bool ee]] w fun e w'=>∃v,e= .returned v∧v= .tuple #[]∧DBP w' L (D.set ay ⟨ea,eb,ec,ed,ee⟩)∧Ch L.X w w':=by
 refine AL _ _ _ _ _ _ _ ?_
 refine mkd fun gv wv m=>?_
 have b:=m.blk
 refine⟨_,_,_,_,_,⟨b.at rfl,b.at rfl,b.at rfl,b.at rfl,b.at rfl⟩,?_⟩
 refine Calls.mono (Iy _ _ _ _ _) ?_
 rw [if_pos he,if_pos he,if_pos he]
 rintro e w1 ⟨_,rfl,rfl,q1⟩
 refine⟨_,_,_,rfl,?_⟩
 refine mkd fun g1 w2 m1=>?_
 have p2:Pu w w2:=((show Pu w wv from m.pu).trans q1).made m1
 refine bQ m1.blk (by simp) fun w3 s3=>?_
 have b1:Blk w3 g1 #[.int .u32 (Ent.mk ea eb ec ed ee).w0,.int .u32 (Ent.mk ea eb ec ed ee).w1] _:=s3.blk
 have p3:Pu w w3:=p2.stored s3 (.inr (m1.lo ((show Pu w wv from m.pu).trans q1)))
 have h3:=(h.pu p3).pu (Pu.aY w3)
 have b1:=b1.drew
 obtain⟨T,hd⟩:=h3.hd
 obtain⟨T2,cs,hr,ND,hw⟩:=h3.ws
 have hn:=DB.dt hp
 have ho:=DB.cN hp
 have RR:=h.S64
 have e0:i64.wrap (2*ay)=2*ay:=aq (by omega)
 have e1:(2*ay).toNat=2*ay.toNat:=by omega
 have e2:D.n2=2*D.S:=rfl
 have hga:g1≠L.a:=fun e=>by have h5:=(h.lt L.a (.inr (.inl rfl)));have h6:=m1.lo ((show Pu w wv from m.pu).trans q1);omega
 refine⟨fun _ k=>k=L.g,au _ rfl ⟨block_add _ _,_,_,_,hd.at rfl,by rw [e0,e2];omega,?_⟩⟩
 rintro _ rfl _ rfl _ rfl _ rfl _ rfl _ rfl
 rw [e0,e1,e2,if_neg (by omega),if_neg (by omega)]
 have hl:de w3.drew (fun k=>k=g1) .u32 (some ((Addr.mk g1 0 none).add (0*1))) (2 - 0) (2 - 0) [(Ent.mk ea eb ec ed ee).w0,(Ent.mk ea eb ec ed ee).w1]:=
  de.blk (m:=0) (Z:=fun k=>k=g1) b1 rfl (Nat.le_refl _) rfl (fun j x hx=>by
   match j with
   | 0=>simp at hx;subst hx;rfl
   | 1=>simp at hx;subst hx;rfl
   | j+2=>simp at hx)
 have hA:(Option.map (fun x:Addr=>x.add (2*ay.toNat *1)) (some (Addr.mk L.a 0 none)))=some (Addr.mk L.a (2*ay.toNat) none):=by simp [Addr.add];omega
 rw [hA]
 obtain⟨x,w4,Oo,hw4⟩:=pG (P:=prog) (dT:=31) (sT:=31) (ty:=3) (o:=2*ay.toNat) (dn:=2*D.S - 2*ay.toNat) (dc:=2*D.S - 2*ay.toNat) qh hr hl (by rw [ND,e2];omega) (K:=fun w4=>bI w3.drew L.a (setAt cs (2*ay.toNat) [.int .u32 (Ent.mk ea eb ec ed ee).w0,.int .u32 (Ent.mk ea eb ec ed ee).w1]) T2 w4)
  (fun w4 hs=>by rw [show min (2 - 0) (2*D.S - 2*ay.toNat)=2 by omega]at hs;exact hs)
 refine⟨x,w4,Oo,hw4.kept.mono (fun k hk=>by have hk:k=L.g:=(by simpa [du]using hk);rw [hk];exact fun e=>h.dis.1 e.symm),fun _ k=>k=L.g,fun _ k hk=>hk,rfl,h3.Ks hp he PZ hr hw4,?_⟩
 exact(((p3.mono (by simp):Ch L.X w w3)).drew).stored hw4 (.inl (.inr (.inl rfl)))
theorem K5 {L:gB} {D:DB} {w:World}(h:DBP w L D)(ay:Int):
 Calls prog 71 #[(.pointer (some (Addr.mk L.g 0 none))),(.int .i64 ay)] w fun e w'=>∃v,e= .returned v∧v= .tuple #[(.agg #[(.int .i64 ((D.entry ay).typ)),(.int .i64 ((D.entry ay).owner)),(.int .i64 ((D.entry ay).refs)),(.int .i64 ((D.entry ay).state)),(.bool ((D.entry ay).br))]),(.int .i64 (D.bq ay))]∧Pu w w':=by
 refine vD (some (Addr.mk L.g 0 none)) _ ?_
 have hp:=Ch.refl (fun _=>False) w
 have Pk:=h.lt
 refine mkd fun gv wv Ng=>?_
 have Nx:=Ng.lo hp
 have M1:=Ng.blk
 have h:=h.pu Ng.pu
 refine Calls.mono (Dd h _) ?_
 rintro e M5 ⟨_,rfl,rfl,Nb⟩
 refine⟨_,rfl,?_⟩
 refine cf (fun c1=>?_) (fun c1=>?_)
 ·have M1:=Pu.blk Nb M1
  refine bQ M1 (by simp) fun M6 QD=>?_
  have M1:Blk M6 gv #[(.int .i64 0),(.int .i64 0),(.int .i64 0),(.int .i64 0),(.bool false)] _:=QD.blk
  refine⟨_,_,_,_,_,⟨M1.at rfl,M1.at rfl,M1.at rfl,M1.at rfl,M1.at rfl⟩,?_⟩
  have hp:=Ch.call (Ch.pu (Ch.made hp Ng) Nb) QD.ch (by exact fun k e=>.inr (e▸Nx))
  exact⟨by(simp [DB.entry,DB.bq,c1];done),hp⟩
 ·have h:=h.pu Nb
  refine Calls.mono (dAt h _ ‹_›) ?_
  rintro e M6 ⟨_,rfl,rfl,NH⟩
  have M1:=Pu.blk NH (Pu.blk Nb M1)
  refine⟨_,_,_,_,_,rfl,bQ M1 (by simp) fun Na NR=>?_⟩
  have M1:Blk Na gv #[(.int .i64 ((D.at_ ay).typ)),(.int .i64 ((D.at_ ay).owner)),(.int .i64 ((D.at_ ay).refs)),(.int .i64 ((D.at_ ay).state)),(.bool ((D.at_ ay).br))] _:=NR.blk
  refine⟨_,_,_,_,_,⟨M1.at rfl,M1.at rfl,M1.at rfl,M1.at rfl,M1.at rfl⟩,?_⟩
  have hp:=Ch.call (Ch.pu (Ch.pu (Ch.made hp Ng) Nb) NH) NR.ch (by exact fun k e=>.inr (e▸Nx))
  exact⟨by(simp [DB.entry,DB.bq,c1];done),hp⟩
theorem xr {L:gB} {D:DB} {w:World}(h:DBP w L D)(ay:Int):
 Calls prog 88 #[(.pointer (some (Addr.mk L.g 0 none))),(.int .i64 ay)] w fun e w'=>∃v,e= .returned v∧v= .bool (D.eF ay)∧Pu w w':=by
 refine rR (some (Addr.mk L.g 0 none)) _ ?_
 have hp:=Ch.refl (fun _=>False) w
 have Pk:=h.lt
 refine⟨fun x w'=>x=((D.has ay) && ((((D.at_ ay).typ):Int)==1))∧Pu w w',?_,?_⟩
 ·refine Calls.mono (Dd h _) ?_
  rintro e wv ⟨_,rfl,rfl,Nl⟩
  refine⟨_,rfl,?_⟩
  refine ao (fun c1=>?_) (fun c1=>?_)
  ·have h:=h.pu Nl
   refine Calls.mono (dAt h _ ‹_›) ?_
   rintro e M5 ⟨_,rfl,rfl,Nb⟩
   refine⟨_,_,_,_,_,rfl,?_⟩
   exact⟨by simp only [c1,Bool.true_and,Bool.and_true,Bool.false_and,Bool.and_false,Bool.true_or,Bool.or_true,Bool.false_or,Bool.or_false,Bool.not_true,Bool.not_false,if_true,if_false,Bool.false_eq_true],(Ch.pu Nl Nb)⟩
  ·exact⟨by simp only [c1,Bool.true_and,Bool.and_true,Bool.false_and,Bool.and_false,Bool.true_or,Bool.or_true,Bool.false_or,Bool.or_false,Bool.not_true,Bool.not_false,if_true,if_false,Bool.false_eq_true],Nl⟩
 rintro _ _ wv ⟨rfl,Nl⟩
 have hp:=Ch.pu hp Nl
 exact⟨congrArg Value.bool (by(simp [DB.eF];done)),hp⟩
theorem L7 {L:gB} {D:DB} {w:World}(h:DBP w L D)(space:Int)(more:Int)(hp:D.has space=true)(he:({D.at_ space with refs:=(D.at_ space).refs+more}:Ent).ok=true):
 Calls prog 89 #[(.pointer (some (Addr.mk L.g 0 none))),(.int .i64 space),(.int .i64 more)] w fun e w'=>∃v,e= .returned v∧v= .tuple #[]∧DBP w' L (D.more space more)∧Ch L.X w w':=by
 refine yV (some (Addr.mk L.g 0 none)) _ _ ?_
 have hi:i64.wrap ((D.at_ space).refs+more)=(D.at_ space).refs+more:=aq (by have:=Ent.eo he;simp only at this;omega)
 have ho:=(h.ok.ent _ (DB.dt hp)).2
 have hp:=Ch.refl L.X w
 have Pk:=h.lt
 refine Calls.mono (dAt h _ ‹_›) ?_
 rintro e wv ⟨_,rfl,rfl,Nl⟩
 refine⟨_,_,_,_,_,rfl,?_⟩
 have hp:=Ch.pu hp Nl
 refine mkd fun gv M5 Ng=>?_
 have Nx:=Ng.lo hp
 have M1:=Ng.blk
 refine bQ M1 (by simp) fun M6 QD=>?_
 have M1:Blk M6 gv #[(.int .i64 ((D.at_ space).typ)),(.int .i64 ((D.at_ space).owner)),(.int .i64 ((D.at_ space).refs)),(.int .i64 ((D.at_ space).state)),(.bool ((D.at_ space).br))] _:=QD.blk
 refine⟨_,M1.at rfl,bx M1 (by simp) fun Na NR=>?_⟩
 have M1:Blk Na gv #[(.int .i64 ((D.at_ space).typ)),(.int .i64 ((D.at_ space).owner)),_,(.int .i64 ((D.at_ space).state)),(.bool ((D.at_ space).br))] _:=NR.blk
 refine⟨_,_,_,_,_,⟨M1.at rfl,M1.at rfl,M1.at rfl,M1.at rfl,M1.at rfl⟩,?_⟩
 have h:=(((h.pu Nl).pu Ng.pu).ch QD.ch (fun k hx e=>(fun hx=>absurd (Pk _ hx) (Nat.not_lt.2 Nx)) (e▸hx))).ch NR.ch (fun k hx e=>(fun hx=>absurd (Pk _ hx) (Nat.not_lt.2 Nx)) (e▸hx))
 refine Calls.mono (F0 h _ _ _ _ _ _ ‹_› (by rw [hi];exact he) (by exact ho)) ?_
 rintro e Nc ⟨_,rfl,rfl,h,OD⟩
 refine⟨rfl,?_⟩
 have hp:=Ch.call (Ch.call (Ch.call (Ch.made hp Ng) QD.ch (by exact fun k e=>.inr (e▸Nx))) NR.ch (by exact fun k e=>.inr (e▸Nx))) OD (by exact fun k hk=>.inl hk)
 exact⟨rfl,by rw [show D.more space more=D.set space ⟨((D.at_ space).typ),((D.at_ space).owner),(i64.wrap (((D.at_ space).refs)+more)),((D.at_ space).state),((D.at_ space).br)⟩from by rw [hi];rfl];exact h,hp⟩
theorem L0 {L:gB} {D:DB} {w:World}(h:DBP w L D)(ay:Int)(t:Int)(space:Int):
 Calls prog 42 #[(.pointer (some (Addr.mk L.g 0 none))),(.int .i64 ay),(.int .i64 t),(.int .i64 space)] w fun e w'=>∃v,e= .returned v∧v= .int .i64 (D.cB ay t space)∧DBP w' L (D.take ay t space)∧Ch L.X w w':=by
 refine yS (some (Addr.mk L.g 0 none)) _ _ _ ?_
 have h_0:=h
 have hp:=Ch.refl L.X w
 have Pk:=h.lt
 refine Calls.mono (Dd h _) ?_
 rintro e wv ⟨_,rfl,rfl,Nl⟩
 refine⟨_,rfl,?_⟩
 rintro _ rfl
 refine cf (fun c1=>?_) (fun c1=>?_)
 ·have h:=h.pu Nl
  have hp:=Ch.pu hp Nl
  exact⟨congrArg (Value.int .i64) (by(simp [DB.take,DB.eU,DB.cB,c1];done)),by rw [show D.take ay t space=D from by(simp [DB.take,DB.eU,DB.cB,c1];done)];exact h,hp⟩
 ·refine⟨fun x w'=>x=(((t:Int) !=2) && (!(DB.turns t)))∧Pu wv w',?_,?_⟩
  ·refine ao (fun c2=>?_) (fun c2=>?_)
   ·refine Calls.mono (K3 _) ?_
    rintro e M5 ⟨_,rfl,rfl,Nb⟩
    refine⟨_,rfl,?_⟩
    rintro _ rfl
    exact⟨by simp only [c2,Bool.true_and,Bool.and_true,Bool.false_and,Bool.and_false,Bool.true_or,Bool.or_true,Bool.false_or,Bool.or_false,Bool.not_true,Bool.not_false,if_true,if_false,Bool.false_eq_true],Nb⟩
   ·rintro _ rfl
    exact⟨by simp only [c2,Bool.true_and,Bool.and_true,Bool.false_and,Bool.and_false,Bool.true_or,Bool.or_true,Bool.false_or,Bool.or_false,Bool.not_true,Bool.not_false,if_true,if_false,Bool.false_eq_true],Ch.refl _ _⟩
  rintro _ _ M5 ⟨rfl,Nb⟩
  refine cE (fun c3=>?_) (fun c3=>?_)
  ·have h:=(h.pu Nl).pu Nb
   have hp:=Ch.pu (Ch.pu hp Nl) Nb
   exact⟨congrArg (Value.int .i64) (by(simp [DB.take,DB.eU,DB.cB,c1,c3];done)),by rw [show D.take ay t space=D from by(simp [DB.take,DB.eU,DB.cB,c1,c3];done)];exact h,hp⟩
  ·refine⟨fun x w'=>x=((!(D.eF space)) || (decide ((((D.at_ space).refs):Int)≥63)))∧Pu M5 w',?_,?_⟩
   ·have h:=(h.pu Nl).pu Nb
    refine Calls.mono (xr h _) ?_
    rintro e M6 ⟨_,rfl,rfl,NH⟩
    refine⟨_,rfl,?_⟩
    refine ao (fun c4=>?_) (fun c4=>?_)
    ·rintro _ rfl
     exact⟨by simp only [c4,Bool.true_and,Bool.and_true,Bool.false_and,Bool.and_false,Bool.true_or,Bool.or_true,Bool.false_or,Bool.or_false,Bool.not_true,Bool.not_false,if_true,if_false,Bool.false_eq_true],NH⟩
    ·have h:=h.pu NH
     refine Calls.mono (dAt h _ (by grind [DB.take,DB.eU,DB.cB,DB.eF])) ?_
     rintro e Na ⟨_,rfl,rfl,Nu⟩
     refine⟨_,_,_,_,_,rfl,?_⟩
     rintro _ rfl
     exact⟨by simp only [c4,Bool.true_and,Bool.and_true,Bool.false_and,Bool.and_false,Bool.true_or,Bool.or_true,Bool.false_or,Bool.or_false,Bool.not_true,Bool.not_false,if_true,if_false,Bool.false_eq_true],(Ch.pu NH Nu)⟩
   rintro _ _ M6 ⟨rfl,NH⟩
   refine aW (fun c5=>?_) (fun c5=>?_)
   ·have h:=((h.pu Nl).pu Nb).pu NH
    have hp:=Ch.pu (Ch.pu (Ch.pu hp Nl) Nb) NH
    exact⟨congrArg (Value.int .i64) (by grind [DB.take,DB.eU,DB.cB]),by rw [show D.take ay t space=D from by grind [DB.take,DB.eU,DB.cB]];exact h,hp⟩
   ·have h:=((h.pu Nl).pu Nb).pu NH
    refine Calls.mono (dAt h _ ‹_›) ?_
    rintro e Na ⟨_,rfl,rfl,Nu⟩
    refine⟨_,_,_,_,_,rfl,?_⟩
    rintro _ rfl
    refine aV (fun c6=>?_) (fun c6=>?_)
    ·have h:=h.pu Nu
     have hp:=Ch.pu (Ch.pu (Ch.pu (Ch.pu hp Nl) Nb) NH) Nu
     exact⟨congrArg (Value.int .i64) (by grind [DB.take,DB.eU,DB.cB]),by rw [show D.take ay t space=D from by grind [DB.take,DB.eU,DB.cB]];exact h,hp⟩
    ·have h:=h.pu Nu
     refine Calls.mono (F0 h _ _ _ _ _ _ ‹_› (by obtain⟨Uv,Uu⟩:=DB.im (d:=D) (p:=space) (by grind);have:=DB.cN Uv;have:=h.S64;exact DB.Fq (by grind) (by omega)) (by obtain⟨Uv,Uu⟩:=DB.im (d:=D) (p:=space) (by grind);exact(DB.cN Uv).2)) ?_
     rintro e Nc ⟨_,rfl,rfl,h,OD⟩
     refine⟨rfl,?_⟩
     refine Calls.mono (L7 h _ _ (by obtain⟨Uv,Uu⟩:=DB.im (d:=D) (p:=space) (by grind);exact Uv) (by obtain⟨Uv,Uu⟩:=DB.im (d:=D) (p:=space) (by grind);rw [DB.Mf (d:=D) c1 Uv (by omega)];have h3:=(h_0.ok.at_ Uv).1;have h4:=Ent.eo h3;exact DB.uH h3 Uu (by grind))) ?_
     rintro e No ⟨_,rfl,rfl,h,Oa⟩
     refine⟨rfl,?_⟩
     have hp:=Ch.call (Ch.call (Ch.pu (Ch.pu (Ch.pu (Ch.pu hp Nl) Nb) NH) Nu) OD (by exact fun k hk=>.inl hk)) Oa (by exact fun k hk=>.inl hk)
     exact⟨congrArg (Value.int .i64) (by grind [DB.take,DB.eU,DB.cB]),by rw [show D.take ay t space=(D.set ay ⟨t,space,0,0,false⟩).more space 1 from by grind [DB.take,DB.eU,DB.cB]];exact h,hp⟩
theorem Dc {L:gB} {D:DB} {w:World}(h:DBP w L D)(space:Int)(s:Int):
 Calls prog 48 #[(.pointer (some (Addr.mk L.g 0 none))),(.int .i64 space),(.int .i64 s)] w fun e w'=>∃v,e= .returned v∧v= .int .i64 (D.bH space s)∧DBP w' L (D.setState space s)∧Ch L.X w w':=by
 refine pn (some (Addr.mk L.g 0 none)) _ _ ?_
 have hp:=Ch.refl L.X w
 have Pk:=h.lt
 refine Calls.mono (Dd h _) ?_
 rintro e wv ⟨_,rfl,rfl,Nl⟩
 refine⟨_,rfl,?_⟩
 refine cf (fun c1=>?_) (fun c1=>?_)
 ·have h:=h.pu Nl
  have hp:=Ch.pu hp Nl
  exact⟨congrArg (Value.int .i64) (by(simp [DB.setState,DB.bH,c1];done)),by rw [show D.setState space s=D from by(simp [DB.setState,DB.bH,c1];done)];exact h,hp⟩
 ·have h:=h.pu Nl
  refine Calls.mono (dAt h _ ‹_›) ?_
  rintro e M5 ⟨_,rfl,rfl,Nb⟩
  refine⟨_,_,_,_,_,rfl,?_⟩
  have hp:=Ch.pu (Ch.pu hp Nl) Nb
  refine mkd fun gv M6 Ng=>?_
  have Nx:=Ng.lo hp
  have M1:=Ng.blk
  refine bQ M1 (by simp) fun Na NR=>?_
  have M1:Blk Na gv #[(.int .i64 ((D.at_ space).typ)),(.int .i64 ((D.at_ space).owner)),(.int .i64 ((D.at_ space).refs)),(.int .i64 ((D.at_ space).state)),(.bool ((D.at_ space).br))] _:=NR.blk
  refine⟨_,M1.at rfl,?_⟩
  rintro _ rfl
  refine aV (fun c2=>?_) (fun c2=>?_)
  ·have h:=((h.pu Nb).pu Ng.pu).ch NR.ch (fun k hx e=>(fun hx=>absurd (Pk _ hx) (Nat.not_lt.2 Nx)) (e▸hx))
   have hp:=Ch.call (Ch.made hp Ng) NR.ch (by exact fun k e=>.inr (e▸Nx))
   exact⟨congrArg (Value.int .i64) (by(simp [DB.setState,DB.bH,c1,c2];done)),by rw [show D.setState space s=D from by(simp [DB.setState,DB.bH,c1,c2];done)];exact h,hp⟩
  ·refine⟨fun x w'=>x=(((s:Int) !=3) && (((((D.at_ space).state):Int) !=1) || ((s:Int) !=2)))∧Pu Na w',?_,?_⟩
   ·refine ao (fun c3=>?_) (fun c3=>?_)
    ·refine⟨_,M1.at rfl,?_⟩
     refine ao (fun c4=>?_) (fun c4=>?_)
     ·rintro _ rfl
      exact⟨by simp only [c3,c4,Bool.true_and,Bool.and_true,Bool.false_and,Bool.and_false,Bool.true_or,Bool.or_true,Bool.false_or,Bool.or_false,Bool.not_true,Bool.not_false,if_true,if_false,Bool.false_eq_true],Ch.refl _ _⟩
     ·rintro _ rfl
      exact⟨by simp only [c3,c4,Bool.true_and,Bool.and_true,Bool.false_and,Bool.and_false,Bool.true_or,Bool.or_true,Bool.false_or,Bool.or_false,Bool.not_true,Bool.not_false,if_true,if_false,Bool.false_eq_true],Ch.refl _ _⟩
    ·rintro _ rfl
     exact⟨by simp only [c3,Bool.true_and,Bool.and_true,Bool.false_and,Bool.and_false,Bool.true_or,Bool.or_true,Bool.false_or,Bool.or_false,Bool.not_true,Bool.not_false,if_true,if_false,Bool.false_eq_true],Ch.refl _ _⟩
   rintro _ _ Nc ⟨rfl,OD⟩
   refine cE (fun c5=>?_) (fun c5=>?_)
   ·have h:=(((h.pu Nb).pu Ng.pu).ch NR.ch (fun k hx e=>(fun hx=>absurd (Pk _ hx) (Nat.not_lt.2 Nx)) (e▸hx))).pu OD
    have hp:=Ch.pu (Ch.call (Ch.made hp Ng) NR.ch (by exact fun k e=>.inr (e▸Nx))) OD
    exact⟨congrArg (Value.int .i64) (by(simp [DB.setState,DB.bH,c1,c2,c5];done)),by rw [show D.setState space s=D from by(simp [DB.setState,DB.bH,c1,c2,c5];done)];exact h,hp⟩
   ·have M1:=Pu.blk OD M1
    refine bx M1 (by simp) fun No QC=>?_
    have M1:Blk No gv #[(.int .i64 ((D.at_ space).typ)),(.int .i64 ((D.at_ space).owner)),(.int .i64 ((D.at_ space).refs)),(.int .i64 s),(.bool ((D.at_ space).br))] _:=QC.blk
    refine⟨_,_,_,_,_,⟨M1.at rfl,M1.at rfl,M1.at rfl,M1.at rfl,M1.at rfl⟩,?_⟩
    have h:=((((h.pu Nb).pu Ng.pu).ch NR.ch (fun k hx e=>(fun hx=>absurd (Pk _ hx) (Nat.not_lt.2 Nx)) (e▸hx))).pu OD).ch QC.ch (fun k hx e=>(fun hx=>absurd (Pk _ hx) (Nat.not_lt.2 Nx)) (e▸hx))
    refine Calls.mono (F0 h _ _ _ _ _ _ ‹_› (by exact DB.JJ (h.ok.at_ c1).1 (by grind) (by grind)) (by exact(h.ok.at_ c1).2.1)) ?_
    rintro e NU ⟨_,rfl,rfl,h,OX⟩
    refine⟨rfl,?_⟩
    have hp:=Ch.call (Ch.call (Ch.pu (Ch.call (Ch.made hp Ng) NR.ch (by exact fun k e=>.inr (e▸Nx))) OD) QC.ch (by exact fun k e=>.inr (e▸Nx))) OX (by exact fun k hk=>.inl hk)
    exact⟨congrArg (Value.int .i64) (by grind [DB.setState,DB.bH]),by rw [show D.setState space s=D.set space ⟨((D.at_ space).typ),((D.at_ space).owner),((D.at_ space).refs),s,((D.at_ space).br)⟩from by grind [DB.setState,DB.bH]];exact h,hp⟩
theorem zT {L:gB} {D:DB} {w:World}(h:DBP w L D)(space:Int)(first:Int):
 Calls prog 40 #[(.pointer (some (Addr.mk L.g 0 none))),(.int .i64 space),(.int .i64 first)] w fun e w'=>∃v,e= .returned v∧v= .int .i64 (D.aS space first)∧DBP w' L (D.aG space first)∧Ch L.X w w':=by
 refine oq (some (Addr.mk L.g 0 none)) _ _ ?_
 have RR:=h.S64
 have SX:=h.ok.aD
 have hp:=Ch.refl L.X w
 have Pk:=h.lt
 refine⟨fun x w'=>x=((!(D.has space)) || (!(D.has first)))∧Pu w w',?_,?_⟩
 ·refine Calls.mono (Dd h _) ?_
  rintro e wv ⟨_,rfl,rfl,Nl⟩
  refine⟨_,rfl,?_⟩
  refine ao (fun c1=>?_) (fun c1=>?_)
  ·rintro _ rfl
   exact⟨by simp only [c1,Bool.true_and,Bool.and_true,Bool.false_and,Bool.and_false,Bool.true_or,Bool.or_true,Bool.false_or,Bool.or_false,Bool.not_true,Bool.not_false,if_true,if_false,Bool.false_eq_true],Nl⟩
  ·have h:=h.pu Nl
   refine Calls.mono (Dd h _) ?_
   rintro e M5 ⟨_,rfl,rfl,Nb⟩
   refine⟨_,rfl,?_⟩
   rintro _ rfl
   exact⟨by simp only [c1,Bool.true_and,Bool.and_true,Bool.false_and,Bool.and_false,Bool.true_or,Bool.or_true,Bool.false_or,Bool.or_false,Bool.not_true,Bool.not_false,if_true,if_false,Bool.false_eq_true],(Ch.pu Nl Nb)⟩
 rintro _ _ wv ⟨rfl,Nl⟩
 refine aW (fun c2=>?_) (fun c2=>?_)
 ·have h:=h.pu Nl
  have hp:=Ch.pu hp Nl
  exact⟨congrArg (Value.int .i64) (by grind [DB.aG,DB.bM,DB.aS]),by rw [show D.aG space first=D from by grind [DB.aG,DB.bM,DB.aS]];exact h,hp⟩
 ·rintro _ rfl
  refine aO (fun c3=>?_) (fun c3=>?_)
  ·have h:=h.pu Nl
   have hp:=Ch.pu hp Nl
   exact⟨congrArg (Value.int .i64) (by(simp [DB.aG,DB.bM,DB.aS,c2,c3];done)),by rw [show D.aG space first=D from by(simp [DB.aG,DB.bM,DB.aS,c2,c3];done)];exact h,hp⟩
  ·refine⟨fun x w'=>x=(((((D.at_ space).typ):Int) !=0) || ((((D.at_ first).typ):Int) !=0))∧Pu wv w',?_,?_⟩
   ·have h:=h.pu Nl
    refine Calls.mono (dAt h _ (by grind [DB.aG,DB.bM,DB.aS])) ?_
    rintro e M5 ⟨_,rfl,rfl,Nb⟩
    refine⟨_,_,_,_,_,rfl,?_⟩
    refine ao (fun c4=>?_) (fun c4=>?_)
    ·rintro _ rfl
     exact⟨by simp only [c4,Bool.true_and,Bool.and_true,Bool.false_and,Bool.and_false,Bool.true_or,Bool.or_true,Bool.false_or,Bool.or_false,Bool.not_true,Bool.not_false,if_true,if_false,Bool.false_eq_true],Nb⟩
    ·have h:=h.pu Nb
     refine Calls.mono (dAt h _ (by grind [DB.aG,DB.bM,DB.aS])) ?_
     rintro e M6 ⟨_,rfl,rfl,NH⟩
     refine⟨_,_,_,_,_,rfl,?_⟩
     rintro _ rfl
     exact⟨by simp only [c4,Bool.true_and,Bool.and_true,Bool.false_and,Bool.and_false,Bool.true_or,Bool.or_true,Bool.false_or,Bool.or_false,Bool.not_true,Bool.not_false,if_true,if_false,Bool.false_eq_true],(Ch.pu Nb NH)⟩
   rintro _ _ M5 ⟨rfl,Nb⟩
   refine aW (fun c5=>?_) (fun c5=>?_)
   ·have h:=(h.pu Nl).pu Nb
    have hp:=Ch.pu (Ch.pu hp Nl) Nb
    exact⟨congrArg (Value.int .i64) (by grind [DB.aG,DB.bM,DB.aS]),by rw [show D.aG space first=D from by grind [DB.aG,DB.bM,DB.aS]];exact h,hp⟩
   ·have h:=(h.pu Nl).pu Nb
    obtain⟨_,dhd_h⟩:=h.hd
    refine au _ rfl ⟨_,dhd_h.at rfl,?_⟩
    rintro _ rfl
    refine ax (fun c6=>?_) (fun c6=>?_)
    ·have hp:=Ch.pu (Ch.pu hp Nl) Nb
     exact⟨congrArg (Value.int .i64) (by(simp [DB.aG,DB.bM,DB.aS,c2,c3,c5,c6];done)),by rw [show D.aG space first=D from by(simp [DB.aG,DB.bM,DB.aS,c2,c3,c5,c6];done)];exact h,hp⟩
    ·refine Calls.mono (F0 h _ _ _ _ _ _ (by(show D.has space=true;grind)) (by have h1:D.has space=true:=(by grind);have:=DB.cN h1;simp only [Ent.ok,decide_eq_true_eq];simp;omega) (by exact(DB.cN (d:=D) (p:=space) (by grind)).2)) ?_
     rintro e M6 ⟨_,rfl,rfl,h,NH⟩
     refine⟨rfl,?_⟩
     refine Calls.mono (F0 h _ _ _ _ _ _ (by(show D.has first=true;grind)) (by have h1:D.has space=true:=(by grind);have:=DB.cN h1;simp only [Ent.ok,decide_eq_true_eq];simp;omega) (by exact(DB.cN (d:=D) (p:=space) (by grind)).2)) ?_
     rintro e Na ⟨_,rfl,rfl,h,Nu⟩
     refine⟨rfl,?_⟩
     refine⟨bXU [3] [] Na.drew L.M.X,?_⟩
     have h:=h.pu (Pu.aY _)
     obtain⟨_,dhd_h⟩:=h.hd
     refine au _ rfl ⟨.inr ⟨by decide,bX.ld dhd_h (h.dis.2.1) _⟩,_,dhd_h.at rfl,?_⟩
     refine Calls.mono (pF _) ?_
     rintro e Nc ⟨_,rfl,rfl,OD⟩
     refine⟨_,_,rfl,?_⟩
     refine bXU.gj OD (by decide) ?_
     have h:=h.pu OD
     refine Calls.mono (uU h _ _ _ _ (by exact bL _)) ?_
     rintro e No ⟨_,rfl,rfl,h,Oa⟩
     refine⟨_,rfl,?_⟩
     refine bXU.more Oa (by intro k hk;exact .inl hk) (by decide) ?_
     refine⟨bXU [3,9] [] No.drew L.M.X,?_⟩
     have h:=h.pu (Pu.aY _)
     obtain⟨_,dhd_h⟩:=h.hd
     refine au _ rfl ⟨.inr ⟨by decide,bX.ld dhd_h (h.dis.2.1) _⟩,_,dhd_h.at rfl,au _ rfl ⟨.inr ⟨by decide,bX.ld dhd_h (h.dis.2.1) _⟩,_,dhd_h.at rfl,?_⟩⟩
     refine Calls.mono (pF _) ?_
     rintro e NU ⟨_,rfl,rfl,OX⟩
     refine⟨_,_,rfl,?_⟩
     refine bXU.gj OX (by decide) ?_
     have h:=h.pu OX
     refine Calls.mono (uU h _ _ _ _ (by exact bL _)) ?_
     rintro e NL ⟨_,rfl,rfl,h,Oe⟩
     refine⟨_,rfl,?_⟩
     refine bXU.more Oe (by intro k hk;exact .inl hk) (by decide) ?_
     refine⟨bXU [3] [] NL.drew L.M.X,?_⟩
     have h:=h.pu (Pu.aY _)
     obtain⟨_,dhd_h⟩:=h.hd
     refine au _ rfl ⟨.inr ⟨by decide,bX.ld dhd_h (h.dis.2.1) _⟩,_,dhd_h.at rfl,?_⟩
     refine Calls.mono (pF _) ?_
     rintro e Nk ⟨_,rfl,rfl,N5⟩
     refine⟨_,_,rfl,?_⟩
     refine bXU.gj N5 (by decide) ?_
     have h:=h.pu N5
     refine Calls.mono (uU h _ _ _ _ (by omega)) ?_
     rintro e OS ⟨_,rfl,rfl,h,O9⟩
     refine⟨_,rfl,?_⟩
     refine bXU.more O9 (by intro k hk;exact .inl hk) (by decide) ?_
     obtain⟨_,dhd_h⟩:=h.hd
     refine au _ rfl ⟨_,dhd_h.at rfl,au _ rfl (bx dhd_h (by simp) fun PD TT=>?_)⟩
     have h:=h.Cx TT (by show 0≤i64.wrap (D.aD+1)∧i64.wrap (D.aD+1)≤64;rw [aq (by omega)];omega)
     have hp:=Ch.call (Ch.call (Ch.pu (Ch.drew (Ch.call (Ch.pu (Ch.drew (Ch.call (Ch.pu (Ch.drew (Ch.call (Ch.call (Ch.pu (Ch.pu hp Nl) Nb) NH (by exact fun k hk=>.inl hk)) Nu (by exact fun k hk=>.inl hk))) OD) (Oa.mono L.inM) (by exact fun k hk=>.inl hk))) OX) (Oe.mono L.inM) (by exact fun k hk=>.inl hk))) N5) (O9.mono L.inM) (by exact fun k hk=>.inl hk)) TT.ch (by exact fun k e=>.inl (by subst e;exact .inl rfl))
     exact⟨congrArg (Value.int .i64) (by(simp [DB.aG,DB.bM,DB.aS,c2,c3,c5,c6];done)),by rw [show D.aG space first=(((((D.set space ⟨1,space,1,1,false⟩).set first ⟨3,space,0,0,false⟩).bn (((D.set space ⟨1,space,1,1,false⟩).set first ⟨3,space,0,0,false⟩).mem.write true space 0 (u32.wrap first))).bn ((((D.set space ⟨1,space,1,1,false⟩).set first ⟨3,space,0,0,false⟩).bn (((D.set space ⟨1,space,1,1,false⟩).set first ⟨3,space,0,0,false⟩).mem.write true space 0 (u32.wrap first))).mem.write true space 1 (u32.wrap ((((D.set space ⟨1,space,1,1,false⟩).set first ⟨3,space,0,0,false⟩).bn (((D.set space ⟨1,space,1,1,false⟩).set first ⟨3,space,0,0,false⟩).mem.write true space 0 (u32.wrap first))).aD)))).bn (((((D.set space ⟨1,space,1,1,false⟩).set first ⟨3,space,0,0,false⟩).bn (((D.set space ⟨1,space,1,1,false⟩).set first ⟨3,space,0,0,false⟩).mem.write true space 0 (u32.wrap first))).bn ((((D.set space ⟨1,space,1,1,false⟩).set first ⟨3,space,0,0,false⟩).bn (((D.set space ⟨1,space,1,1,false⟩).set first ⟨3,space,0,0,false⟩).mem.write true space 0 (u32.wrap first))).mem.write true space 1 (u32.wrap ((((D.set space ⟨1,space,1,1,false⟩).set first ⟨3,space,0,0,false⟩).bn (((D.set space ⟨1,space,1,1,false⟩).set first ⟨3,space,0,0,false⟩).mem.write true space 0 (u32.wrap first))).aD)))).mem.write true space 2 0)).eT (i64.wrap (((((((D.set space ⟨1,space,1,1,false⟩).set first ⟨3,space,0,0,false⟩).bn (((D.set space ⟨1,space,1,1,false⟩).set first ⟨3,space,0,0,false⟩).mem.write true space 0 (u32.wrap first))).bn ((((D.set space ⟨1,space,1,1,false⟩).set first ⟨3,space,0,0,false⟩).bn (((D.set space ⟨1,space,1,1,false⟩).set first ⟨3,space,0,0,false⟩).mem.write true space 0 (u32.wrap first))).mem.write true space 1 (u32.wrap ((((D.set space ⟨1,space,1,1,false⟩).set first ⟨3,space,0,0,false⟩).bn (((D.set space ⟨1,space,1,1,false⟩).set first ⟨3,space,0,0,false⟩).mem.write true space 0 (u32.wrap first))).aD)))).bn (((((D.set space ⟨1,space,1,1,false⟩).set first ⟨3,space,0,0,false⟩).bn (((D.set space ⟨1,space,1,1,false⟩).set first ⟨3,space,0,0,false⟩).mem.write true space 0 (u32.wrap first))).bn ((((D.set space ⟨1,space,1,1,false⟩).set first ⟨3,space,0,0,false⟩).bn (((D.set space ⟨1,space,1,1,false⟩).set first ⟨3,space,0,0,false⟩).mem.write true space 0 (u32.wrap first))).mem.write true space 1 (u32.wrap ((((D.set space ⟨1,space,1,1,false⟩).set first ⟨3,space,0,0,false⟩).bn (((D.set space ⟨1,space,1,1,false⟩).set first ⟨3,space,0,0,false⟩).mem.write true space 0 (u32.wrap first))).aD)))).mem.write true space 2 0)).aD)+1))from by have h5:D.has first=true:=(by grind);have h6:=DB.cN h5;have e1:u32.wrap first=first:=cG (by omega);have e2:u32.wrap D.aD=D.aD:=cG (by omega);have e3:i64.wrap (D.aD+1)=D.aD+1:=aq (by omega);show D.aG space first=(((((D.set space ⟨1,space,1,1,false⟩).set first ⟨3,space,0,0,false⟩)).bn (((D.mem.write true space 0 (u32.wrap first)).write true space 1 (u32.wrap D.aD)).write true space 2 0)).eT (i64.wrap (D.aD+1)));rw [e1,e2,e3];unfold DB.aG;rw [if_pos (by grind [DB.aS])];rfl];exact h,hp⟩
end
section
set_option maxRecDepth 10000
set_option maxHeartbeats 1000000
end
end Go.Proofs.YtfmcaoaaiganbaaGreatDoor
namespace Go.Proofs.YtfmcaoaaiganbaaGreatDoor
open Go.Proofs.Tryz (prog)
open Go Go.RowKit V
open Go.IntKind (i64 u32 u64)
section
set_option maxRecDepth 100000
def Ce(m:Option Addr)(R:aC)(w:World):Prop:=
 split m.isNone (
  R (.pointer none) w) (
  Calls prog 62 #[(.pointer m)] w fun e wv=>
  ∃x7:Int,e= .returned (.int .i64 x7)∧
  ∃I:Nat→Int→World→Prop,(∃m1,I m1 0 wv)∧∀(m1:Nat)(OO:Nat→Value)(x8:Int),∀M5,I m1 x8 M5→
  split (decide ((x8:Int)<x7)) (
   Calls prog 80 #[(.int .i64 x8)] M5 fun e M6=>
   ∃OC:Bool,∃Ow:Int,e= .returned (.agg #[(.bool OC),(.int .i64 Ow)])∧
   Calls prog 79 #[(.pointer m),(.agg #[(.bool OC),(.int .i64 Ow)])] M6 fun e Na=>
   ∃Nn:Int,e= .returned (.int .i64 Nn)∧
   ∃m2,m2<m1∧I m2 (i64.wrap (x8+1)) Na) (
   Calls prog 62 #[(.pointer m)] M5 fun e M6=>
   ∃Po:Int,e= .returned (.int .i64 Po)∧
   ∃Tr:Option Addr,∃Tp:Nat,∃Tq:Nat,∃Na,(Instr.makeSlice 31 (.int .i64 (i64.wrap (2*Po))) (.int .i64 (i64.wrap (2*Po))):Sem Value).run prog M6= .ok (.slice Tr Tp Tq) Na∧
   ∀(Nd:Nat)(Nc:World),Nd=Na.heap.size→Nc=Na.alloc (.cells #[(.pointer m),(.int .i64 0),(.slice Tr Tp Tq)] 122)→
   R (.pointer (some (Addr.mk Nd 0 none))) Nc))
def JB:Ann:=(.node none .leaf (.node none .leaf (.node none (.node none .leaf (.node none (.node (some ⟨[(8,.one (.int .i64))],[3,8,9,10,11,12,13,14,15]⟩) .leaf .leaf) .leaf)) .leaf)))
theorem DNew_eq(m:Option Addr)(R:aC)(w:World):Ce m R w=vcF prog aH [] Tryz.f37 JB [(.pointer m)] R none w:=by kernel_rfl
theorem AN(m:Option Addr) {R:aC} {w:World}(h:Ce m R w):Calls prog 37 #[(.pointer m)] w fun e w'=>∃v,e= .returned v∧R v w':=
 ar Tryz.func37 aw aj ((DNew_eq m R w).mp h)
end
end Go.Proofs.YtfmcaoaaiganbaaGreatDoor
namespace Go.Proofs.YtfmcaoaaiganbaaGreatDoor
open Go.Proofs.Tryz (prog)
open Go Go.RowKit V
open Go.IntKind (i64 u32 u64)
section
set_option maxRecDepth 10000
set_option maxHeartbeats 1000000
theorem MZ {L:fi} {m:Mem} {w:World}(h:cS w L m)(hS:1≤m.S):
 Calls prog 37 #[(.pointer (some (Addr.mk L.g 0 none)))] w fun e w'=>∃v,e= .returned v∧∃g:Nat,∃a:Nat,v= .pointer (some (Addr.mk g 0 none))∧cS w' L (m.cl m.S)∧DBP w' ⟨g,a,L⟩ (DB.new m)∧(w.heap.size≤g∧w.heap.size≤a)∧Ch L.X w w':=by
 refine AN (some (Addr.mk L.g 0 none)) ?_
 have hm:=h.eg
 have hp:=Ch.refl L.X w
 have Pk:=h.lt
 refine eV ?_
 refine Calls.mono (BC h) ?_
 rintro e w9 ⟨_,rfl,rfl,e9⟩
 obtain rfl:=e9.symm
 refine⟨_,rfl,?_⟩
 refine⟨fun mz x8 W=>mz=(m.S - x8).toNat∧(0≤x8∧x8≤m.S)∧Ch L.X w W∧cS W L (m.cl x8.toNat),⟨_,rfl,(by omega),hp,by exact h⟩,?_⟩
 rintro _ _ x8 M5 ⟨rfl,h0,hp,h⟩
 refine ax (fun c1=>?_) (fun c1=>?_)
 ·refine Calls.mono (pF _) ?_
  rintro e M6 ⟨_,rfl,rfl,NH⟩
  refine⟨_,_,rfl,?_⟩
  have h:=h.pu NH
  refine Calls.mono (LJ h _ _) ?_
  rintro e Na ⟨_,rfl,rfl,h,Nu⟩
  refine⟨_,rfl,?_⟩
  have hp:=Ch.call (Ch.pu hp NH) Nu (by exact fun k hk=>.inl hk)
  exact⟨_,by rw [IntKind.wrap_i64];omega,rfl,by rw [IntKind.wrap_i64];omega,hp,by rw [Mem.pM _ (by omega)];exact h⟩
 ·have UT:=h.lt
  have hz1:=hp
  have hx:x8.toNat=m.S:=by omega
  have QK:=h.eg.1
  have W7:Int.toNat (i64.wrap (2*(((m.cl x8.toNat).S:Nat):Int)))=2*m.S:=by rw [Mem.jm,aq (by omega)];omega
  refine Calls.mono (BC h) ?_
  rintro e w9 ⟨_,rfl,rfl,e9⟩
  obtain rfl:=e9.symm
  refine⟨_,rfl,?_⟩
  refine wO EZ ((⟨0⟩:U32)) (by rfl) (n:=(i64.wrap (2*((m.cl x8.toNat).S)))) (by rw [aq (by omega)];omega) (by rw [aq (by omega)];omega) (by rw [aq (by omega)];omega) fun VY Na Ps OP=>?_
  have lo_g_wv3:=Ps.lo hp
  refine mkd fun Nd Nc NY=>?_
  have M8:=NY.blk
  have h:=(h.pu Ps.pu).pu NY.pu
  have hp:=Ch.made (Ch.made hp Ps) NY
  exact⟨Nd,VY,rfl,by rw [show(m.cl m.S)=(m.cl x8.toNat)from by rw [hx]];exact h,⟨⟨_,Blk.cast M8 (by rw [W7];show _=_;simp only [DB.n2,DB.new,Mem.jm])⟩,⟨_,_,Made.old NY Ps.blk,by rw [Array.size_replicate,W7];show _=2*(m.cl m.S).S;rw [Mem.jm],fun p hp=>by have hp':p<m.S:=(by rwa [DB.wB]at hp);exact⟨Bn (by rw [W7];omega),Bn (by rw [W7];omega)⟩⟩,by show cS _ _ (m.cl m.S);rw [← hx];exact h,DB.nV m hS,by have:=NY.num;have:=Ps.lt;simp only [];omega,fun hh=>absurd (show Nd<M5.heap.size from UT _ hh) (by have:=NY.num;have:=Ps.kept.size;omega),fun hh=>absurd (show VY<M5.heap.size from UT _ hh) (by have:=Ps.num;omega)⟩,by have h1:=NY.num;have h2:=Ps.num;have h3:=Ps.kept.size;have h4:=hz1.size;omega,hp⟩
theorem Kv:S1 prog 197 3 (.int .i64 0) 8:=S1.of (by kernel_rfl) (by kernel_rfl) rfl
theorem Kq:SN prog 197 3 (.int .i64 0) 1 8:=Kv.sn
end
end Go.Proofs.YtfmcaoaaiganbaaGreatDoor
namespace Go.Proofs.YtfmcaoaaiganbaaGreatDoor
open Go.Proofs.Tryz (prog)
open Go Go.RowKit V
open Go.IntKind (i64 u32 u64)
section
set_option maxRecDepth 100000
def oV(d:Option Addr)(R:aC)(w:World):Prop:=
 ∀(gv:Nat)(wv:World),gv=w.heap.size→wv=w.alloc (.cells #[(.pointer d)] 54)→
 R (.func (.func 213) #[] #[(.pointer (some (Addr.mk gv 0 none)))]) wv
def yY:Ann:= .leaf
theorem DEntries_eq(d:Option Addr)(R:aC)(w:World):oV d R w=vcF prog aH [] Tryz.f176 yY [(.pointer d)] R none w:=by kernel_rfl
theorem rS(d:Option Addr) {R:aC} {w:World}(h:oV d R w):Calls prog 176 #[(.pointer d)] w fun e w'=>∃v,e= .returned v∧R v w':=
 ar Tryz.func176 aw aj ((DEntries_eq d R w).mp h)
def lN(yield:Value)(cap0:Addr)(R:aC)(w:World):Prop:=
 ∃x4:Option Addr,w.cell? cap0=some (.pointer x4)∧
 Calls prog 70 #[(.pointer x4)] w fun e wv=>
 ∃x5:Int,e= .returned (.int .i64 x5)∧
 ∃I:Nat→Int→World→Prop,(∃m,I m 0 wv)∧∀(m:Nat)(OO:Nat→Value)(x6:Int),∀M5,I m x6 M5→
 split (decide ((x6:Int)<x5)) (
  ∃Nm:Option Addr,M5.cell? cap0=some (.pointer Nm)∧
  Calls prog 85 #[(.pointer Nm),(.int .i64 x6)] M5 fun e M6=>
  ∃OC:Int,∃Ow:Int,∃Qe:Int,∃Qd:Int,∃Qc:Bool,e= .returned (.agg #[(.int .i64 OC),(.int .i64 Ow),(.int .i64 Qe),(.int .i64 Qd),(.bool Qc)])∧
  F8 prog aH true yield #[(.int .i64 x6),(.agg #[(.int .i64 OC),(.int .i64 Ow),(.int .i64 Qe),(.int .i64 Qd),(.bool Qc)])] M6 fun e Na=>
  ∃Nn:Bool,e= .returned (.bool Nn)∧
  split (!Nn) (
   R (.tuple #[]) Na) (
   ∃m1,m1<m∧I m1 (i64.wrap (x6+1)) Na)) (
  R (.tuple #[]) M5)
def sP:Ann:=(.node none .leaf (.node none (.node (some ⟨[(6,.one (.int .i64))],[3,6,7,8,9,10,11,12,13,14,15,16]⟩) .leaf .leaf) .leaf))
theorem DEntries_1_eq(yield:Value)(cap0:Addr)(R:aC)(w:World):lN yield cap0 R w=vcF prog aH [] Tryz.f213 sP [yield,(.pointer (some cap0))] R none w:=by kernel_rfl
theorem ot(yield:Value)(cap0:Addr) {R:aC} {w:World}(h:lN yield cap0 R w):Calls prog 213 #[yield,(.pointer (some cap0))] w fun e w'=>∃v,e= .returned v∧R v w':=
 ar Tryz.func213 aw aj ((DEntries_1_eq yield cap0 R w).mp h)
def ug(d:Option Addr)(space:Int)(R:aC)(w:World):Prop:=
 ∀(gv:Nat)(wv:World),gv=w.heap.size→wv=w.alloc (.cells #[(.int .i64 space)] 3)→
 ∃x9:Int,wv.cell? (Addr.mk gv 0 none)=some (.int .i64 x9)∧
 Calls prog 88 #[(.pointer d),(.int .i64 x9)] wv fun e M5=>
 ∃Nf:Bool,e= .returned (.bool Nf)∧
 split (!Nf) (
  R (.slice none 0 0) M5) (
  ∀(Nd:Nat)(M6:World),Nd=M5.heap.size→M6=M5.alloc (.cells (#[(.slice none 0 0)]) 197)→
  Calls prog 176 #[(.pointer d)] M6 fun e Na=>
  ∃On:Value,e= .returned On∧
  ∃(gf:Nat)(cap:Array Value),On= .func (.func gf) #[] cap∧aH.elem gf=true∧
  ∀(l dl:Nat)(Nc:World),dl=Na.heap.size→l=Na.heap.size+1→Kept (fun k=>k<Na.heap.size) Na Nc→l<Nc.heap.size→Nc.heap[dl]? =some (.deferred (some []))→
  ∃(xs:List (List Value))(X:Nat→Prop)(D J Jr:Nat→World→Prop)(Je:Nat→Nat→World→Prop),
  Iter prog gf cap xs X D∧(∀k,X k→k<Na.heap.size)∧(∀x∈xs,xk [.one (.int .i64),.agg [.int .i64,.int .i64,.int .i64,.int .i64,.bool]] fun vs=>x=vs)∧
  (ym X l J∧ym X l Jr∧∀id,ym X l (Je id))∧D 0 Nc∧J 0 Nc∧
  (∀(i:Nat)(A:World),J i A→D i A→∀(Nn:Int)(Qa:Int)(PC:Int)(Rp:Int)(Ro:Int)(Rn:Bool),xs[i]? =some [(.int .i64 Nn),(.agg #[(.int .i64 Qa),(.int .i64 PC),(.int .i64 Rp),(.int .i64 Ro),(.bool Rn)])]→
   ∀(NC:Nat)(NU:World),NC=A.heap.size→NU=A.alloc (.cells (#[(.int .i64 0),(.int .i64 0),(.int .i64 0),(.int .i64 0),(.bool false)]) 127)→
   aF NU (Addr.mk NC 0 none) [(.int .i64 Qa),(.int .i64 PC),(.int .i64 Rp),(.int .i64 Ro),(.bool Rn)] fun NL=>
   Kept (fun k=>X k∨k=l) A NL∧∀No,Kept (fun k=>k<NL.heap.size∧k≠l) NL No→
   ∃J1:Bool→World→Prop,(
    ∃OR:Int,No.cell? (Addr.mk gv 0 none)=some (.int .i64 OR)∧
    split ((Nn:Int) !=OR) (
     ∃Om:Int,No.cell? ((Addr.mk NC 0 none).add 0)=some (.int .i64 Om)∧
     split ((Om:Int) !=0) (
      ∃P8:Int,No.cell? ((Addr.mk NC 0 none).add 1)=some (.int .i64 P8)∧
      ∃Tm:Int,No.cell? (Addr.mk gv 0 none)=some (.int .i64 Tm)∧
      J1 ((P8:Int)==Tm) No) (
      J1 false No)) (
     J1 false No))∧∀(Sc:Nat→Value)(Sf:Bool),∀Nk,J1 Sf Nk→
   split Sf (
    ∃ZK:Option Addr,∃ZI:Nat,∃ZJ:Nat,Nk.cell? (Addr.mk Nd 0 none)=some (.slice ZK ZI ZJ)∧
    ∀(PO:Nat)(OS:World),PO=Nk.heap.size→OS=Nk.alloc (.cells #[(.int .i64 Nn)] 3)→
    ∃Rc:Option Addr,∃Q9:Nat,∃Ra:Nat,∃PD,(Builtin.append_ #[197,197] 197 #[(.slice ZK ZI ZJ),(.slice (some (Addr.mk PO 0 none)) 1 1)]:Sem Value).run prog OS= .ok (.slice Rc Q9 Ra) PD∧
    aF PD (Addr.mk Nd 0 none) [(.slice Rc Q9 Ra)] fun QT=>
    Kept (fun k=>X k∨k=l) No QT∧J (i+1) QT) (
    Kept (fun k=>X k∨k=l) No Nk∧J (i+1) Nk))∧
  (∀W,J xs.length W→D xs.length W→
   ∃Sw:Option Addr,∃PU:Nat,∃Sv:Nat,W.cell? (Addr.mk Nd 0 none)=some (.slice Sw PU Sv)∧
   W.heap[dl]? =some (.deferred (some []))∧
   R (.slice Sw PU Sv) (W.putObj dl (.deferred none)))∧
  (∀i W,Jr i W→D i W→
   W.heap[dl]? =some (.deferred (some []))∧
   R (.slice none 0 0) (W.putObj dl (.deferred none)))∧True)
def Es:Ann:=(.node none .leaf (.node none .leaf (.node none .leaf (.node none (.node none .leaf (.node none (.node (some ⟨[(14,.one (.int .i64)),(15,.agg [.int .i64,.int .i64,.int .i64,.int .i64,.bool])],[]⟩) .leaf (.node none (.node none (.node (some ⟨[(29,.one (.bool))],[16,17,18,19,20,21,22,23,24,25,26,27,28,29]⟩) .leaf .leaf) .leaf) .leaf)) .leaf)) .leaf))))
theorem DOwned_eq(d:Option Addr)(space:Int)(R:aC)(w:World):ug d space R w=vcF prog aH [] Tryz.f125 Es [(.pointer d),(.int .i64 space)] R none w:=by kernel_rfl
theorem vC(d:Option Addr)(space:Int) {R:aC} {w:World}(h:ug d space R w):Calls prog 125 #[(.pointer d),(.int .i64 space)] w fun e w'=>∃v,e= .returned v∧R v w':=
 ar Tryz.func125 aw aj ((DOwned_eq d space R w).mp h)
end
end Go.Proofs.YtfmcaoaaiganbaaGreatDoor
namespace Go.Proofs.YtfmcaoaaiganbaaGreatDoor
open Go.Proofs.Tryz (prog)
open Go Go.RowKit V
open Go.IntKind (i64 u32 u64)
section
set_option maxRecDepth 10000
set_option maxHeartbeats 1000000
def DB.row(D:DB)(p:Nat):List Value:= [.int .i64 (p:Int),.agg #[.int .i64 (D.ent p).typ,.int .i64 (D.ent p).owner,.int .i64 (D.ent p).refs,.int .i64 (D.ent p).state,.bool (D.ent p).br]]
def DB.rows(D:DB):List (List Value):=(List.range D.S).map D.row
theorem DB.ql(D:DB):D.rows.length=D.S:=by simp [DB.rows]
theorem DB.vY {D:DB} {i:Nat}(h:i<D.S):D.rows[i]? =some (D.row i):=by simp [DB.rows,h]
theorem DB.HX {D:DB} {i:Nat} {x:List Value}(h:D.rows[i]? =some x):i<D.S∧x=D.row i:=by
 have:=(List.getElem?_eq_some_iff.1 h).1
 rw [DB.ql]at this
 rw [DB.vY this]at h
 exact⟨this,(Option.some.inj h).symm⟩
def gB.XI(L:gB)(g:Nat):Nat→Prop:=fun k=>L.X k∨k=g
theorem DBP.it {L:gB} {D:DB} {w A:World} {g:Nat}(h:DBP w L D)(k:Kept (L.XI g) w A):DBP A L D:=h.ch (Ch.Ib k) fun _ hx hn=>hn (.inl hx)
theorem F1 {L:gB} {D:DB} {w:World}(h:DBP w L D):
 Calls prog 176 #[.pointer (some (Addr.mk L.g 0 none))] w fun e w'=>∃v,e= .returned v∧∃g T,v= .func (.func 213) #[] #[.pointer (some (Addr.mk g 0 none))]∧Blk w' g #[.pointer (some (Addr.mk L.g 0 none))] T∧w.heap.size≤g∧Pu w w':=by
 refine rS _ ?_
 refine mkd fun gv wv m=>?_
 exact⟨gv,_,rfl,m.blk,m.lo (Ch.refl (fun _=>False) w),m.pu⟩
theorem L8 {L:gB} {D:DB} {w:World} {g:Nat} {T:TypeId}(h:DBP w L D)(hg:Blk w g #[.pointer (some (Addr.mk L.g 0 none))] T):
 Iter prog 213 #[.pointer (some (Addr.mk g 0 none))] D.rows (L.XI g) (fun _ A=>Kept (L.XI g) w A):=by
 have NO:∀k,L.XI g k→k<w.heap.size:=fun k hk=>hk.elim (h.lt k) (fun e=>e▸hg.lt)
 have RR:=h.S64
 refine CW NO fun l J Jx W sJ sJx j0 d0 hy=>?_
 rw [DB.ql]
 have pJ:∀ {i A B},J i A→Pu A B→J i B:=fun a q=>sJ _ _ _ a (q.mono fun _ h=>h.elim)
 have iI:∀ {A B},Kept (L.XI g) w A→Pu A B→Kept (L.XI g) w B:=fun a q=>a.trans (q.iI fun k hk=>Nat.lt_of_lt_of_le (NO k hk) a.size)
 have ld:∀ {A},Kept (L.XI g) w A→A.cell? (Addr.mk g 0 none)=some (.pointer (some (Addr.mk L.g 0 none))):=fun a=>by rw [a.cell (p:=Addr.mk g 0 none) (.inr rfl)];exact hg.at0 rfl
 refine Calls.mono (P:=prog) (ot (.func (.yield l) #[] #[]) (Addr.mk g 0 none) (R:=fun _ B=>(J D.S B∧Kept (L.XI g) w B)∨∃i,Jx i B∧Kept (L.XI g) w B) ?_) (fun e B hh=>by obtain⟨v,h1,h2⟩:=hh;exact⟨⟨v,h1⟩,h2⟩)
 refine⟨_,ld d0,Calls.mono (zU (h.it d0)) ?_⟩
 rintro e _ ⟨_,rfl,rfl,rfl⟩
 refine⟨_,rfl,?_⟩
 refine⟨fun mz x A=>0≤x∧x≤D.S∧mz=((D.S:Int) - x).toNat∧J x.toNat A∧Kept (L.XI g) w A,⟨_,by omega,by omega,rfl,j0,d0⟩,?_⟩
 rintro mz _ x A ⟨hx0,hx1,rfl,hj,hd⟩
 refine ax (fun c1=>?_) (fun c1=>?_)
 ·refine⟨_,ld hd,Calls.mono (dAt (h.it hd) _ (by simp [DB.has];omega)) ?_⟩
  rintro e A1 ⟨_,rfl,rfl,q1⟩
  refine⟨_,_,_,_,_,rfl,?_⟩
  have hyy:=hy x.toNat _ A1 (DB.vY (by omega)) (pJ hj q1) (iI hd q1)
  simp only [DB.row,show((x.toNat:Nat):Int)=x by omega]at hyy
  refine uj hyy ?_
  rintro e B (⟨rfl,hj2,Ol⟩ | ⟨rfl,hj2,Ol⟩)
  ·refine⟨_,rfl,eV ?_⟩
   refine⟨_,?_,by rw [IntKind.wrap_i64];omega,by rw [IntKind.wrap_i64];omega,rfl,?_,(iI hd q1).trans Ol⟩
   ·rw [IntKind.wrap_i64];omega
   ·rw [aq (by omega),show(x+1).toNat=x.toNat+1 by omega];exact hj2
  ·exact⟨_,rfl,dH (.inr ⟨_,hj2,(iI hd q1).trans Ol⟩)⟩
 ·exact .inl ⟨by rw [show D.S=x.toNat by omega];exact hj,hd⟩
theorem K4 {L:gB} {D:DB} {w:World}(h:DBP w L D)(space:Int):
 Calls prog 125 #[.pointer (some (Addr.mk L.g 0 none)),.int .i64 space] w fun e w'=>∃v,e= .returned v∧∃Z':Nat→Prop,∃A':Option Addr,∃N' C':Nat,v= .slice A' N' C'∧Own w' Z' 3 A' N' C' (if D.eF space then D.dE space D.S else [])∧(∀k,Z' k→w.heap.size≤k)∧Pu w w':=by
 refine vC _ _ ?_
 have RR:=h.S64
 refine mkd fun gv wv m=>?_
 refine⟨_,m.blk.at0 rfl,Calls.mono (xr (h.pu m.pu) _) ?_⟩
 rintro e M5 ⟨_,rfl,rfl,q1⟩
 refine⟨_,rfl,?_⟩
 have b0:=q1.blk m.blk
 have lg:=m.lo (Ch.refl (fun _=>False) w)
 have p1:Pu w M5:=Ch.pu m.pu q1
 refine cf (fun c1=>?_) (fun c1=>?_)
 ·exact⟨fun _=>False,_,_,_,rfl,by rw [if_neg (by simp [c1])];exact Own.nil,fun k hk=>hk.elim,p1⟩
 refine mkd fun Nd M6 m1=>?_
 have b0:=m1.old b0
 have ne:=m1.ne (q1.blk m.blk)
 have p2:Pu w M6:=Ch.pu p1 m1.pu
 have lg1:=m1.lo p1
 refine Calls.mono (F1 (h.pu p2)) ?_
 rintro e Na ⟨_,rfl,g,T,rfl,bg,lgg,q3⟩
 refine⟨_,rfl,_,_,rfl,by kernel_rfl,?_⟩
 intro l dl Nc hdl hl k4 hl4 hdo
 have b0:=q3.blk b0
 have b1:=q3.blk m1.blk
 have q4:Pu Na Nc:=⟨k4.mono fun _ h=>h.1⟩
 have p3:Pu w Na:=Ch.pu p2 q3
 have p4:Pu w Nc:=Ch.pu p3 q4
 have h4:=h.pu p4
 have bg4:=q4.blk bg
 have glt:=bg.lt
 have g1lt:=(q3.blk m1.blk).lt
 have g0lt:=b0.lt
 have SK:∀k,L.XI g k→k<Na.heap.size:=fun k hk=>hk.elim ((h.pu p3).lt k) (fun e=>e▸glt)
 have nX0:¬L.XI g gv:=fun hx=>hx.elim (fun hx=>absurd (h.lt _ hx) (by omega)) (fun e=>by have:=m1.old (q1.blk m.blk) |>.lt;omega)
 have nX1:¬L.XI g Nd:=fun hx=>hx.elim (fun hx=>absurd (h.lt _ hx) (by omega)) (fun e=>by have:=m1.lt;omega)
 have UT:=p3.size
 let Zn:Nat→Prop:=fun k=>Nc.heap.size≤k
 let J:Nat→World→Prop:=fun i A=>Ch (L.XI g) w A∧Blk A gv #[.int .i64 space] 3∧(∃ad n c T,Blk A Nd #[.slice ad n c] T∧Own A Zn 3 ad n c (D.dE space i))∧A.heap[dl]? =some (.deferred (some []))∧Nc.heap.size≤A.heap.size
 have sJ:ym (L.XI g) l J:=HR fun i A B hj q=>by
  obtain⟨a1,a2,⟨ad,n,c,T2,a3,a4⟩,a5,a6⟩:=hj
  refine⟨a1.call q fun k hk=>hk.elim .inl (fun e=>.inr (by omega)),q.blk a2 (fun hx=>hx.elim nX0 (by omega)),⟨ad,n,c,T2,q.blk a3 (fun hx=>hx.elim nX1 (by omega)),a4.ch q fun k hk hx=>?_⟩,q.obj a5 (fun hx=>hx.elim (fun hx=>absurd (SK _ hx) (by omega)) (by omega)),Nat.le_trans a6 q.size⟩
  have hk:Nc.heap.size≤k:=hk
  exact hx.elim (fun hx=>absurd (SK _ hx) (by have:=k4.size;omega)) (by omega)
 refine⟨D.rows,L.XI g,_,J,fun _ _=>False,fun _ _ _=>False,L8 h4 bg4,SK,?_,⟨sJ,fun _ _ _ h _=>h,fun _ _ _ _ h _=>h⟩,Kept.refl _ _,?_,?_,?_,fun _ _ h _=>h.elim,trivial⟩
 ·intro x hx
  obtain⟨i,hi,rfl⟩:=List.mem_map.1 hx
  exact⟨_,_,_,_,_,_,rfl⟩
 ·exact⟨p4.mono fun _ h=>h.elim,q4.blk b0,⟨_,_,_,_,q4.blk b1,by exact Own.nil⟩,hdo,Nat.le_refl _⟩
 ·rintro i A ⟨a1,a2,⟨ad,n,c,T2,a3,a4⟩,a5,a6⟩ hd Nn xa xb xc xd xe hx
  obtain⟨hi,hx⟩:=DB.HX hx
  simp only [DB.row,List.cons.injEq,Value.int.injEq,Value.agg.injEq,Value.bool.injEq,Array.mk.injEq,and_true,true_and]at hx
  obtain⟨rfl,rfl,rfl,rfl,rfl,rfl⟩:=hx
  refine mkd fun NC NU m6=>?_
  refine bQ m6.blk (by simp) fun NL s7=>?_
  have q6:Pu A NL:=(show Pu A NU from m6.pu).stored s7 (.inr (m6.lo (Ch.refl (fun _=>False) A)))
  have ND:∀k,L.XI g k∨k=l→k<A.heap.size:=fun k hk=>hk.elim (fun hx=>by have:=SK _ hx;have:=k4.size;omega) (by omega)
  refine⟨q6.iI ND,fun No k5=>?_⟩
  have b2:Blk NL NC #[.int .i64 (D.ent i).typ,.int .i64 (D.ent i).owner,.int .i64 (D.ent i).refs,.int .i64 (D.ent i).state,.bool (D.ent i).br] _:=s7.blk
  have q5:Ch (fun k=>k=l) NL No:=⟨k5⟩
  have n2:=m6.num
  have b2:=q5.blk b2 (by omega)
  have qa:Ch (fun k=>k=l) A No:=(q6.mono fun _ h=>h.elim).trans q5
  have b0:=qa.blk a2 (by omega)
  refine⟨fun b B=>b=D.fy space i∧B=No,?_,?_⟩
  ·refine⟨_,b0.at0 rfl,aV (fun c2=>?_) (fun c2=>⟨by simp [DB.fy,c2],rfl⟩)⟩
   refine⟨_,b2.at rfl,aV (fun c3=>?_) (fun c3=>⟨by simp [DB.fy,c3],rfl⟩)⟩
   exact⟨_,b2.at rfl,_,b0.at0 rfl,by simp [DB.fy,c2,c3],rfl⟩
  rintro _ b B ⟨rfl,rfl⟩
  have e1:D.dE space (i+1)=if D.fy space i then D.dE space i++ [I64.mk i]else D.dE space i:=by
   have:=D.wq space (p:=(i:Int)) (by omega)
   rwa [aq (by omega),show((i:Int)+1).toNat=i+1 by omega,show((i:Nat):Int).toNat=i by omega]at this
  have hj5:Ch (L.XI g) w B∧Blk B gv #[.int .i64 space] 3∧(∃T,Blk B Nd #[.slice ad n c] T)∧Own B Zn 3 ad n c (D.dE space i)∧B.heap[dl]? =some (.deferred (some []))∧Nc.heap.size≤B.heap.size:=
   ⟨a1.call qa fun k e=>.inr (by omega),b0,⟨_,qa.blk a3 (by omega)⟩,a4.ch qa (fun k (hk:Nc.heap.size≤k) e=>by omega),qa.obj a5 (by omega),Nat.le_trans a6 qa.size⟩
  obtain⟨c1,c2,⟨T3,c3⟩,c4,c5,c6⟩:=hj5
  cases hb:D.fy space i
  ·refine eV ⟨Kept.refl _ _,c1,c2,⟨_,_,_,_,c3,by rw [e1,hb];exact c4⟩,c5,c6⟩
  ·refine dH ?_
   refine⟨_,_,_,c3.at0 rfl,?_⟩
   refine mkd fun PO OS m9=>?_
   have hlen:=(c4.pu m9.pu).len
   have hol:=D.zC space i
   refine(c4.pu m9.pu).app Kq m9.blk (x:=I64.mk i) (by rfl) (by omega) (by omega) (by exact Nat.le_trans c6 m9.pu.size) (fun A9 c9 PD o9 q9=>?_)
   have c3:=q9.blk (m9.old c3) (fun hx=>absurd c3.lt (by have hx:Nc.heap.size≤Nd:=hx;omega))
   refine bQ c3 (by simp) fun QT OW=>?_
   have hZ1:∀k,Zn k→k≠Nd:=fun k (hk:Nc.heap.size≤k) e=>by omega
   have q11:Ch (fun k=>Nc.heap.size≤k∨k=Nd) B QT:=((show Ch _ B OS from m9.pu.mono fun _ h=>h.elim).call q9 fun k hk=>.inl (.inl hk)).call OW.ch fun k e=>.inl (.inr e)
   refine⟨q11.kept.mono fun k hk=>⟨hk.elim (fun hx=>by have:=SK _ hx;have:=k4.size;omega) (by omega),fun h=>hk.elim (fun hx=>h.elim (fun h=>absurd (SK _ hx) (by have:=k4.size;omega)) (fun e=>nX1 (e▸hx))) (fun e=>h.elim (by omega) (by omega))⟩,?_⟩
   refine⟨c1.call q11 fun k hk=>.inr (hk.elim (fun h=>Nat.le_trans p4.size h) (fun e=>by omega)),q11.blk c2 (fun h=>h.elim (by omega) (fun e=>ne e)),⟨_,_,_,_,OW.blk,by rw [e1,hb];exact o9.ch OW.ch fun k hk e=>hZ1 k hk e⟩,q11.obj c5 (fun h=>h.elim (by omega) (by omega)),Nat.le_trans c6 q11.size⟩
 ·rintro W ⟨a1,a2,⟨ad,n,c,T2,a3,a4⟩,a5,a6⟩ hd
  refine⟨_,_,_,a3.at0 rfl,a5,Zn,_,_,_,rfl,?_,fun k (hk:Nc.heap.size≤k)=>Nat.le_trans p4.size hk,?_⟩
  ·rw [if_pos c1]
   rw [DB.ql]at a4
   exact a4.ch (Pu.put W dl _ (fun k=>k=dl) rfl) fun k (hk:Nc.heap.size≤k) e=>by omega
  ·exact(Pu.join p4 hd a1).call (Pu.put W dl _ (fun k=>k=dl) rfl) fun k e=>.inr (by omega)
end
def CI(w:Int):Bool:=decide (w % 256=1∧w / 256<64)
def aN(w:Int):Int:=if CI w then w / 256 else 0
def eX(w:Int):Int:=if w=0 then 92 else if CI w then 0 else 90
def fY(p:Int):Int:=if 0≤p∧p<64 then 256*p+1 else 0
def dR(p:Int):Int:=if 0≤p∧p<64 then 0 else 4
structure Mp where
 aX:Bool
 ay:Int
 write:Bool
 exec:Bool
deriving DecidableEq
def Mp.bits(m:Mp):Int:=(if m.aX then 2 else 0)+(if m.write then 4 else 0)+(if m.exec then 8 else 0)
def Mp.err(m:Mp):Int:=if 0≤m.ay∧m.ay<64 then(if m.exec && !m.aX then 1 else 0)else 4
def Mp.word(m:Mp):Int:=if m.err=0 then 256*m.ay+1+m.bits else 0
abbrev Mp.nil:Mp:=⟨false,0,false,false⟩
def Mp.BL(w:Int):Mp:=⟨decide (w / 2 % 2=1),w / 256,decide (w / 4 % 2=1),decide (w / 8 % 2=1)⟩
def uE(w:Int):Bool:=decide ((Mp.BL w).err=0∧(Mp.BL w).word=w)
def bD(w:Int):Mp:=if w≠0∧uE w then Mp.BL w else Mp.nil
def eQ(w:Int):Int:=if w=0 then 92 else if uE w then 0 else 90
theorem Fk {p:Int}(h:0≤p∧p<64):u32.wrap (BitVec.ofInt u32.bits (u32.wrap ((u32.wrap p:Int)*2 ^ 8)) ||| BitVec.ofInt u32.bits 1).toNat=256*p+1:=by
 rw [cG (x:=p) (by omega),cG (x:=p*2 ^ 8) (by omega),nS (by omega) (by omega),show p*2 ^ 8=2 ^ 8*p by omega,fA 8 (by omega) (by omega) (by omega)];omega
theorem zD(k:Nat)(b:Int)(hb:b=2 ^ k)(hk:k≤3) {p a:Int}(h:0≤p∧p<64)(ha:0≤a∧a<b):u32.wrap (BitVec.ofInt u32.bits (256*p+a) ||| BitVec.ofInt u32.bits b).toNat=256*p+(a+b):=by
 subst hb
 have h3:(2:Int) ^ k≤2 ^ 3:=by exact_mod_cast Nat.pow_le_pow_right (n:=2) (by omega) hk
 have h4:(0:Int)<2 ^ k:=Int.pow_pos (by omega)
 have assoc:∀x y z:Int,nor (nor x y) z=nor x (nor y z):=by
  intro x y z;unfold nor;simp [Nat.or_assoc]
 have e1:nor (2 ^ k*1) a=2 ^ k*1+a:=fA k (by omega) ha.1 ha.2
 have e2:nor (2 ^ 8*p) a=2 ^ 8*p+a:=fA 8 h.1 ha.1 (by omega)
 have e3:nor (2 ^ 8*p) (2 ^ k+a)=2 ^ 8*p+(2 ^ k+a):=fA 8 h.1 (by omega) (by omega)
 rw [Int.mul_one]at e1
 rw [nS (by omega) (by omega),show 256*p+a=2 ^ 8*p+a by omega,← e2,assoc,mM a,e1,e3]
 omega
theorem gy(k:Nat)(b:Int)(hb:b=2 ^ k)(hk:k≤30) {x:Int}(hx:0≤x∧x<4294967296):((u32.wrap (BitVec.ofInt u32.bits x &&& BitVec.ofInt u32.bits b).toNat:Int) !=0)=decide (x / b % 2=1):=by
 subst hb
 rw [Bool.eq_iff_iff]
 simp only [bne_iff_ne,ne_eq,decide_eq_true_eq]
 show(¬u32.wrap (BitVec.ofInt u32.bits x &&& BitVec.ofInt u32.bits (2 ^ k)).toNat=0)↔x / 2 ^ k % 2=1
 have h3:(2:Int) ^ k≤2 ^ 30:=by exact_mod_cast Nat.pow_le_pow_right (n:=2) (by omega) hk
 have h4:(0:Int)<2 ^ k:=Int.pow_pos (by omega)
 rw [pH hx (by omega)]
 unfold Ii
 obtain⟨x,rfl⟩:=Int.eq_ofNat_of_zero_le hx.1
 have e:((2:Int) ^ k).toNat=2 ^ k:=by rw [show(2:Int) ^ k=((2 ^ k:Nat):Int)by push_cast;rfl,Int.toNat_natCast]
 rw [e,Int.toNat_natCast]
 have h5:x &&& 2 ^ k=if x.testBit k then 2 ^ k else 0:=by
  apply Nat.eq_of_testBit_eq
  intro j
  rw [Nat.testBit_and,Nat.testBit_two_pow]
  by_cases hj:k=j
  ·subst hj
   cases hb:x.testBit k<;>simp
  ·cases hb:x.testBit k<;>simp [hj,Nat.testBit_two_pow]
 have h6:x.testBit k=decide (x / 2 ^ k % 2=1):=Nat.testBit_eq_decide_div_mod_eq
 rw [h5,h6]
 have h7:((x:Int) / 2 ^ k % 2=1)↔(x / 2 ^ k % 2=1):=by
  rw [show(x:Int) / 2 ^ k % 2=((x / 2 ^ k % 2:Nat):Int)by push_cast;rfl]
  omega
 rw [h7]
 have h8:0<2 ^ k:=Nat.two_pow_pos k
 by_cases h9:x / 2 ^ k % 2=1
 ·simp [h9];omega
 ·simp [h9]
namespace File
def flags(f:Fl):Int:=if f.z then 1 else(if f.n then 2 else 0)+(if f.l then 4 else 0)
def fX(w:Int):Bool:=decide (w=0∨w=1∨w=2∨w=4∨w=6)
def fB(w:Int):Int:=if fX w then 0 else 80
def eG(f:Fl)(w:Int):Fl:=if fX w then {f with z:=decide (w=1),n:=decide (w=2∨w=6),l:=decide (w=4∨w=6)}else Fl.zero
def fm(l:List U32):Int:=if l.length=17 then fB (l.getD 16 ⟨0⟩).v else 80
def bare(l:List U32):Fl:=⟨l.take 15,(l.getD 15 ⟨0⟩).v,false,false,false⟩
def unpack(l:List U32):Fl:=if l.length=17 then eG (bare l) (l.getD 16 ⟨0⟩).v else Fl.zero
theorem wU {f:Fl} {w:Int}(h:fX w=false):eG f w=Fl.zero:=by unfold eG;rw [h];rfl
theorem wW {w:Int}(h:fX w=false):fB w=80:=by unfold fB;rw [h];rfl
theorem zO {f:Fl} {w:Int}(h:fX w=true):eG f w= {f with z:=decide (w=1),n:=decide (w=2∨w=6),l:=decide (w=4∨w=6)}:=by unfold eG;rw [h];rfl
theorem zP {w:Int}(h:fX w=true):fB w=0:=by unfold fB;rw [h];rfl
theorem oy {l:List U32}(h:l.length=17):unpack l=eG (bare l) (l.getD 16 ⟨0⟩).v∧fm l=fB (l.getD 16 ⟨0⟩).v:=⟨if_pos h,if_pos h⟩
theorem pX {l:List U32}(h:¬l.length=17):unpack l=Fl.zero∧fm l=80:=⟨if_neg h,if_neg h⟩
theorem zN {l:List U32}(hw:∀x∈l,0≤x.v∧x.v<4294967296)(i:Nat):0≤(l.getD i ⟨0⟩).v∧(l.getD i ⟨0⟩).v<4294967296:=by
 rw [List.getD_eq_getElem?_getD]
 cases h:l[i]? with
 | none=>simp
 | some x=>exact hw x (List.mem_of_getElem? h)
theorem wV {w:Int}(h:0≤w∧w<4294967296):(if decide (w / 1 % 2=1)then(1:Int)else(if decide (w / 2 % 2=1)then 2 else 0)+(if decide (w / 4 % 2=1)then 4 else 0))=w↔fX w=true:=by
 simp only [fX,decide_eq_true_eq]
 constructor
 ·intro h1;split at h1<;>(try split at h1)<;>(try split at h1)<;>omega
 ·intro h1;rcases h1 with rfl | rfl | rfl | rfl | rfl<;>decide
theorem C3 {w:Int}(h:fX w=true):decide (w / 1 % 2=1)=decide (w=1)∧decide (w / 2 % 2=1)=decide (w=2∨w=6)∧decide (w / 4 % 2=1)=decide (w=4∨w=6):=by
 simp only [fX,decide_eq_true_eq]at h
 rcases h with rfl | rfl | rfl | rfl | rfl<;>decide
def part(l:List U32)(i:Int):Fl:=⟨l.take i.toNat++List.replicate (15 - i.toNat) (U32.mk 0),0,false,false,false⟩
theorem bare_eq {l:List U32}(h:l.length=17):Fl.mk [U32.mk ((l.getD 0 (U32.mk 0)).v),U32.mk ((l.getD 1 (U32.mk 0)).v),U32.mk ((l.getD 2 (U32.mk 0)).v),U32.mk ((l.getD 3 (U32.mk 0)).v),U32.mk ((l.getD 4 (U32.mk 0)).v),U32.mk ((l.getD 5 (U32.mk 0)).v),U32.mk ((l.getD 6 (U32.mk 0)).v),U32.mk ((l.getD 7 (U32.mk 0)).v),U32.mk ((l.getD 8 (U32.mk 0)).v),U32.mk ((l.getD 9 (U32.mk 0)).v),U32.mk ((l.getD 10 (U32.mk 0)).v),U32.mk ((l.getD 11 (U32.mk 0)).v),U32.mk ((l.getD 12 (U32.mk 0)).v),U32.mk ((l.getD 13 (U32.mk 0)).v),U32.mk ((l.getD 14 (U32.mk 0)).v)] ((l.getD (Int.toNat 15) (U32.mk 0)).v) false false false=bare l:=by
 match l,h with
 | [_,_,_,_,_,_,_,_,_,_,_,_,_,_,_,_,_],_=>rfl
theorem qG {l:List U32}(h:l.length=17)(w:Int):(eG (bare l) w).Ok:=by
 unfold eG
 split
 ·show(l.take 15).length=15;rw [List.length_take];omega
 ·rfl
end File
section
set_option maxRecDepth 10000
set_option maxHeartbeats 1000000
theorem HK {w:World}(ma:Bool)(mb:Int)(mc:Bool)(md:Bool):
 Calls prog 217 #[(.agg #[(.bool ma),(.int .i64 mb),(.bool mc),(.bool md)])] w fun e w'=>∃v,e= .returned v∧v= .tuple #[(.int .u32 ((Mp.mk ma mb mc md).word)),(.int .i64 ((Mp.mk ma mb mc md).err))]∧Pu w w':=by
 refine so _ _ _ _ ?_
 have hp:=Ch.refl (fun _=>False) w
 refine mkd fun gv wv Ng=>?_
 have M1:=Ng.blk
 refine⟨fun x w'=>x=((decide ((mb:Int)<0)) || (decide ((mb:Int)>63)))∧Pu wv w',?_,?_⟩
 ·refine⟨_,M1.at2 rfl,?_⟩
  refine ao (fun c1=>?_) (fun c1=>?_)
  ·exact⟨by simp only [c1,Bool.true_and,Bool.and_true,Bool.false_and,Bool.and_false,Bool.true_or,Bool.or_true,Bool.false_or,Bool.or_false,Bool.not_true,Bool.not_false,if_true,if_false,Bool.false_eq_true],Ch.refl _ _⟩
  ·refine⟨_,M1.at2 rfl,?_⟩
   exact⟨by simp only [c1,Bool.true_and,Bool.and_true,Bool.false_and,Bool.and_false,Bool.true_or,Bool.or_true,Bool.false_or,Bool.or_false,Bool.not_true,Bool.not_false,if_true,if_false,Bool.false_eq_true],Ch.refl _ _⟩
 rintro _ _ M5 ⟨rfl,Nb⟩
 refine aW (fun c2=>?_) (fun c2=>?_)
 ·have hp:=Ch.pu (Ch.made hp Ng) Nb
  exact⟨congrArg Value.tuple (sj (congrArg (Value.int .u32) (by grind [Mp.word,Mp.err,Mp.bits])) (congrArg (Value.int .i64) (by grind [Mp.word,Mp.err,Mp.bits]))),hp⟩
 ·refine⟨fun x w'=>x=(md && (!ma))∧Pu M5 w',?_,?_⟩
  ·have M1:=Pu.blk Nb M1
   refine⟨_,M1.at rfl,?_⟩
   refine ao (fun c3=>?_) (fun c3=>?_)
   ·refine⟨_,M1.at2 rfl,?_⟩
    exact⟨by simp only [c3,Bool.true_and,Bool.and_true,Bool.false_and,Bool.and_false,Bool.true_or,Bool.or_true,Bool.false_or,Bool.or_false,Bool.not_true,Bool.not_false,if_true,if_false,Bool.false_eq_true],Ch.refl _ _⟩
   ·exact⟨by simp only [c3,Bool.true_and,Bool.and_true,Bool.false_and,Bool.and_false,Bool.true_or,Bool.or_true,Bool.false_or,Bool.or_false,Bool.not_true,Bool.not_false,if_true,if_false,Bool.false_eq_true],Ch.refl _ _⟩
  rintro _ _ M6 ⟨rfl,NH⟩
  refine cE (fun c4=>?_) (fun c4=>?_)
  ·have hp:=Ch.pu (Ch.pu (Ch.made hp Ng) Nb) NH
   exact⟨congrArg Value.tuple (sj (congrArg (Value.int .u32) (by grind [Mp.word,Mp.err,Mp.bits])) (congrArg (Value.int .i64) (by grind [Mp.word,Mp.err,Mp.bits]))),hp⟩
  ·have Ub:0≤mb∧mb<64:=by grind
   have M1:=Pu.blk NH (Pu.blk Nb M1)
   refine⟨_,M1.at2 rfl,?_⟩
   rintro _ rfl
   refine⟨_,M1.at2 rfl,⟨_,M1.at rfl,⟨_,M1.at rfl,?_⟩⟩⟩
   refine mkd fun Nh Nc Ot=>?_
   have M3:=Ot.blk
   have hp:=Ch.made (Ch.pu (Ch.pu (Ch.made hp Ng) Nb) NH) Ot
   have M1:=Made.old Ot M1
   refine⟨fun mz No PA W=>Ch (fun _=>False) w W∧(∃T,Blk W gv #[(.bool ma),(.int .i64 mb),(.bool mc),(.bool md)] T)∧(∃T,Blk W Nh #[(.bool ma),(.int .u32 2),(.bool mc),(.int .u32 4),(.bool md),(.int .u32 8)] T)∧((mz=3∧No=(256*mb+1)∧PA=0)∨(mz=2∧No=(256*mb+(1+(if ma then 2 else 0)))∧PA=1)∨(mz=1∧No=(256*mb+(1+(if ma then 2 else 0)+(if mc then 4 else 0)))∧PA=2)∨(mz=0∧No=(256*mb+(1+(if ma then 2 else 0)+(if mc then 4 else 0)+(if md then 8 else 0)))∧PA=3)),⟨_,hp,⟨_,M1⟩,⟨_,M3⟩,.inl ⟨rfl,by exact Fk Ub,rfl⟩⟩,?_⟩
   rintro _ _ No PA NU ⟨hp,⟨_,M1⟩,⟨_,M3⟩,hU⟩
   rcases hU with⟨rfl,rfl,rfl⟩ | ⟨rfl,rfl,rfl⟩ | ⟨rfl,rfl,rfl⟩ | ⟨rfl,rfl,rfl⟩
   ·refine dH ⟨by decide,⟨_,_,⟨M3.at2 rfl,M3.at2 rfl⟩,?_⟩⟩
    refine mkd fun Sp NL Ni=>?_
    have OZ:=Ni.lo hp
    have NS:=Ni.ne M1
    have ne_gv3_gv5:=Ni.ne M3
    have Ov:=Ni.blk
    refine bQ Ov (by simp) fun Nk M4=>?_
    have Ov:Blk Nk Sp #[(.bool ma),(.int .u32 2)] _:=M4.blk
    refine⟨_,Ov.at rfl,?_⟩
    refine ao (fun c5=>?_) (fun c5=>?_)
    ·refine⟨_,Ov.at rfl,?_⟩
     rintro _ rfl
     have hp:=Ch.call (Ch.made hp Ni) M4.ch (by exact fun k e=>.inr (e▸OZ))
     have M1:=Ch.blk M4.ch (Made.old Ni M1) (NS)
     have M3:=Ch.blk M4.ch (Made.old Ni M3) (ne_gv3_gv5)
     exact⟨2,by decide,hp,⟨_,M1⟩,⟨_,M3⟩,.inr (.inl ⟨rfl,by(rw [zD 1 2 (by decide) (by omega) Ub (a:=1) (by constructor<;>grind)];simp only [c2,c4,c5,if_true];done),rfl⟩)⟩
    ·have hp:=Ch.call (Ch.made hp Ni) M4.ch (by exact fun k e=>.inr (e▸OZ))
     have M1:=Ch.blk M4.ch (Made.old Ni M1) (NS)
     have M3:=Ch.blk M4.ch (Made.old Ni M3) (ne_gv3_gv5)
     exact⟨2,by decide,hp,⟨_,M1⟩,⟨_,M3⟩,.inr (.inl ⟨rfl,by(simp [c2,c4,c5];done),rfl⟩)⟩
   ·refine dH ⟨by decide,⟨_,_,⟨M3.at2 rfl,M3.at2 rfl⟩,?_⟩⟩
    refine mkd fun Sp NL Ni=>?_
    have OZ:=Ni.lo hp
    have NS:=Ni.ne M1
    have ne_gv3_gv5:=Ni.ne M3
    have Ov:=Ni.blk
    refine bQ Ov (by simp) fun Nk M4=>?_
    have Ov:Blk Nk Sp #[(.bool mc),(.int .u32 4)] _:=M4.blk
    refine⟨_,Ov.at rfl,?_⟩
    refine ao (fun c6=>?_) (fun c6=>?_)
    ·refine⟨_,Ov.at rfl,?_⟩
     rintro _ rfl
     have hp:=Ch.call (Ch.made hp Ni) M4.ch (by exact fun k e=>.inr (e▸OZ))
     have M1:=Ch.blk M4.ch (Made.old Ni M1) (NS)
     have M3:=Ch.blk M4.ch (Made.old Ni M3) (ne_gv3_gv5)
     exact⟨1,by decide,hp,⟨_,M1⟩,⟨_,M3⟩,.inr (.inr (.inl ⟨rfl,by(rw [zD 2 4 (by decide) (by omega) Ub (a:=(1+(if ma then 2 else 0))) (by constructor<;>grind)];simp only [c2,c4,c6,if_true];done),rfl⟩))⟩
    ·have hp:=Ch.call (Ch.made hp Ni) M4.ch (by exact fun k e=>.inr (e▸OZ))
     have M1:=Ch.blk M4.ch (Made.old Ni M1) (NS)
     have M3:=Ch.blk M4.ch (Made.old Ni M3) (ne_gv3_gv5)
     exact⟨1,by decide,hp,⟨_,M1⟩,⟨_,M3⟩,.inr (.inr (.inl ⟨rfl,by(simp [c2,c4,c6];done),rfl⟩))⟩
   ·refine dH ⟨by decide,⟨_,_,⟨M3.at2 rfl,M3.at2 rfl⟩,?_⟩⟩
    refine mkd fun Sp NL Ni=>?_
    have OZ:=Ni.lo hp
    have NS:=Ni.ne M1
    have ne_gv3_gv5:=Ni.ne M3
    have Ov:=Ni.blk
    refine bQ Ov (by simp) fun Nk M4=>?_
    have Ov:Blk Nk Sp #[(.bool md),(.int .u32 8)] _:=M4.blk
    refine⟨_,Ov.at rfl,?_⟩
    refine ao (fun c7=>?_) (fun c7=>?_)
    ·refine⟨_,Ov.at rfl,?_⟩
     rintro _ rfl
     have hp:=Ch.call (Ch.made hp Ni) M4.ch (by exact fun k e=>.inr (e▸OZ))
     have M1:=Ch.blk M4.ch (Made.old Ni M1) (NS)
     have M3:=Ch.blk M4.ch (Made.old Ni M3) (ne_gv3_gv5)
     exact⟨0,by decide,hp,⟨_,M1⟩,⟨_,M3⟩,.inr (.inr (.inr (⟨rfl,by(rw [zD 3 8 (by decide) (by omega) Ub (a:=(1+(if ma then 2 else 0)+(if mc then 4 else 0))) (by constructor<;>grind)];simp only [c2,c4,c7,if_true];done),rfl⟩)))⟩
    ·have hp:=Ch.call (Ch.made hp Ni) M4.ch (by exact fun k e=>.inr (e▸OZ))
     have M1:=Ch.blk M4.ch (Made.old Ni M1) (NS)
     have M3:=Ch.blk M4.ch (Made.old Ni M3) (ne_gv3_gv5)
     exact⟨0,by decide,hp,⟨_,M1⟩,⟨_,M3⟩,.inr (.inr (.inr (⟨rfl,by(simp [c2,c4,c7];done),rfl⟩)))⟩
   ·refine eV ?_
    exact⟨congrArg Value.tuple (sj (congrArg (Value.int .u32) (by grind [Mp.word,Mp.err,Mp.bits])) (congrArg (Value.int .i64) (by grind [Mp.word,Mp.err,Mp.bits]))),hp⟩
end
end Go.Proofs.YtfmcaoaaiganbaaGreatDoor
namespace Go.Proofs.YtfmcaoaaiganbaaGreatDoor
open Go.Proofs.Tryz (prog)
open Go Go.RowKit V
open Go.IntKind (i64 u32 u64)
section
set_option maxRecDepth 100000
set_option maxHeartbeats 1000000
attribute [local irreducible] Vc2 VcD
def kB:Ctr Un:=⟨[.one (.int .i64)],[],[],[],fun p K=>K ⟨(.tuple #[(.int .u32 (fY p)),(.int .i64 (dR p))]),(some (.t [none,none])),[],[],[]⟩⟩
def GC(p:Int)(Q:Ou Un→Prop):Prop:=
 ∃J:Bool→Prop,(
  split (decide (p<0)) (
   J true) (
   J (decide (p≥64))))∧∀(OO:Nat→Value)(x9:Bool),J x9→
 split x9 (
  Q ⟨(.tuple #[(.int .u32 0),(.int .i64 4)]),(some (.t [none,none])),[],[],[]⟩) (
  Q ⟨(.tuple #[(.int .u32 (u32.wrap (BitVec.ofInt u32.bits (u32.wrap ((u32.wrap p)*2 ^ 8)) ||| BitVec.ofInt u32.bits 1).toNat)),(.int .i64 0)]),(some (.t [none,none])),[],[],[]⟩)
theorem GD:Vc2 Un prog (aU []) [] Tryz.f215 (.r' (.two (.two (.node [] (some ⟨[(9,(.one .bool))],[],upN 4 6,[]⟩) [] [] .leaf .leaf) .leaf) .leaf)) [] kB=(∀p,∀Q,(kB.body p Q)→GC p Q):=by kernel_rfl
theorem GB:LV Un prog 215 kB:=verify Tryz.func215 aj (tb:= []) trivial (by kernel_rfl) (GD.mpr fun p Q h=>bS ((decide ((p:Int)<0)) || (decide ((p:Int)≥64))) (ao (fun c1=>(by grind)) fun c1=>(by grind))<| aW (fun c2=>aL h (by(have h:¬(0≤p∧p<64):=by grind);simp [fY,dR,h]) rfl rfl) fun c2=>aL h (by(have h:0≤p∧p<64:=by grind);rw [Fk h];simp [fY,dR,h]) rfl rfl)
def ez:Ctr Un:=⟨[.one (.int .u32),.one (.int .i64),.one (.fn 215)],[],[],[],fun v x K=>∀(ra:Int)(re:Int),((ra=(if v≠0∧dR x=0∧fY x=v then x else 0)∧re=(if v=0 then 92 else if dR x=0∧fY x=v then 0 else 90)))→K ⟨(.tuple #[(.int .i64 ra),(.int .i64 re)]),(some (.t [none,none])),[],[],[]⟩⟩
def sr(v:Int)(x:Int)(Q:Ou Un→Prop):Prop:=
 split (v==0) (
  Q ⟨(.tuple #[(.int .i64 0),(.int .i64 92)]),(some (.t [none,none])),[],[],[]⟩) (
  ∃J:Bool→Prop,(
   split ((dR x) !=0) (
    J true) (
    J ((fY x) !=v)))∧∀(OO:Nat→Value)(P8:Bool),J P8→
  split P8 (
   Q ⟨(.tuple #[(.int .i64 0),(.int .i64 90)]),(some (.t [none,none])),[],[],[]⟩) (
   Q ⟨(.tuple #[(.int .i64 x),(.int .i64 0)]),(some (.t [none,none])),[],[],[]⟩))
theorem su:Vc2 Un prog (aU [(215,kB)]) [] Tryz.f214 (.r' (.r' (.r' (.two (.r' (.two (.node [] (some ⟨[(26,(.one .bool))],[],upN 20 7,[]⟩) [] [] .leaf .leaf) .leaf)) .leaf)))) [] ez=(∀v x,∀Q,(ez.body v x Q)→sr v x Q):=by kernel_rfl
theorem sq:LV Un prog 214 ez:=verify Tryz.func214 aj (tb:= [(215,kB)]) ⟨GB,trivial⟩ (by kernel_rfl) (su.mpr fun v x Q h=>by
 try skip
 exact aO (fun c1=>(h 0 92 (by omega))) fun c1=>bS ((((dR x):Int) !=0) || (((fY x):Int) !=v)) (ao (fun c2=>(by grind)) fun c2=>(by grind))<| aW (fun c3=>(h 0 90 (by grind))) fun c3=>(h x 0 (by grind)))
def cU:Ctr Un:=⟨[.one (.int .u32)],[],[],[],fun v K=>(0≤(v:Int)∧(v:Int)<4294967296)∧K ⟨(.tuple #[(.int .i64 (aN v)),(.int .i64 (eX v))]),(some (.t [none,none])),[],[],[]⟩⟩
def sv(v:Int)(Q:Ou Un→Prop):Prop:=
 ∀(ra:Int)(re:Int),
 ((ra=(if v≠0∧dR (i64.wrap (v.fdiv (2 ^ 8)))=0∧fY (i64.wrap (v.fdiv (2 ^ 8)))=v then(i64.wrap (v.fdiv (2 ^ 8)))else 0)∧re=(if v=0 then 92 else if dR (i64.wrap (v.fdiv (2 ^ 8)))=0∧fY (i64.wrap (v.fdiv (2 ^ 8)))=v then 0 else 90)))→
 Q ⟨(.tuple #[(.int .i64 ra),(.int .i64 re)]),(some (.t [none,none])),[],[],[]⟩
theorem sw:Vc2 Un prog (aU [(214,ez)]) [] Tryz.f181 .leaf [] cU=(∀v,∀Q,(cU.body v Q)→sv v Q):=by kernel_rfl
theorem lH:LV Un prog 181 cU:=verify Tryz.func181 aj (tb:= [(214,ez)]) ⟨sq,trivial⟩ (by kernel_rfl) (sw.mpr fun v Q h=>by
 obtain⟨NF,h⟩:=h
 exact fun ra re f1=>(by(have e0:i64.wrap ((v:Int).fdiv (2 ^ 8))=v / 256:=by rw [lF,aq (by omega)];rfl);rw [e0]at f1;(have h1:(dR (v / 256)=0∧fY (v / 256)=v)↔CI v=true:=(by simp only [dR,fY,CI,decide_eq_true_eq];constructor<;>intro h<;>grind));(have h2:v=0→CI v=false:=by intro h;subst h;decide);exact aL h (by simp only [h1]at f1;rw [f1.1,f1.2];simp only [aN,eX]<;>grind) rfl rfl))
def oc:Ctr Un:=⟨[.agg [.bool,.int .i64,.bool,.bool]],[],[],[],fun ma mb mc md K=>K ⟨(.tuple #[(.int .u32 ((Mp.mk ma mb mc md).word)),(.int .i64 ((Mp.mk ma mb mc md).err))]),(some (.t [none,none])),[],[],[]⟩⟩
theorem Dv:LV Un prog 217 oc:=by
 show ∀(ma:Bool)(mb:Int)(mc:Bool)(md:Bool),∀Q:Ou Un→Prop,(Q ⟨(.tuple #[(.int .u32 ((Mp.mk ma mb mc md).word)),(.int .i64 ((Mp.mk ma mb mc md).err))]),(some (.t [none,none])),[],[],[]⟩)→∀(X:Nat→Nat→Prop)(w:World),Sat (U:=Un) [] X w→aE (U:=Un) [] fr0 []→Calls prog 217 #[(.agg #[(.bool ma),(.int .i64 mb),(.bool mc),(.bool md)])] w (bP (U:=Un) [] [] X w Q)
 intro ma mb mc md Q hQ X w hs hl
 refine(HK ma mb mc md).mono ?_
 rintro e w' ⟨u,rfl,rfl,q⟩
 exact bP.pu hs q hQ (KnO.tup _ (by simp))
def cJ:Ctr Un:=⟨[.one (.int .u32),.agg [.bool,.int .i64,.bool,.bool],.one (.fn 217)],[],[],[],fun v ma mb mc md K=>∀(ra:Bool)(rb:Int)(rc:Bool)(rd:Bool)(re:Int),((Mp.mk ra rb rc rd=(if v≠0∧(Mp.mk ma mb mc md).err=0∧(Mp.mk ma mb mc md).word=v then(Mp.mk ma mb mc md)else Mp.nil)∧re=(if v=0 then 92 else if(Mp.mk ma mb mc md).err=0∧(Mp.mk ma mb mc md).word=v then 0 else 90)))→K ⟨(.tuple #[(.agg #[(.bool ra),(.int .i64 rb),(.bool rc),(.bool rd)]),(.int .i64 re)]),(some (.t [none,none])),[],[],[]⟩⟩
def mi(v:Int)(ma:Bool)(mb:Int)(mc:Bool)(md:Bool)(Q:Ou Un→Prop):Prop:=
 ∀(gv:Nat),
 ∀(Nd:Nat),
 ∀(NC:Nat),
 split (v==0) (
  Q ⟨(.tuple #[(.agg #[(.bool false),(.int .i64 0),(.bool false),(.bool false)]),(.int .i64 92)]),(some (.t [none,none])),[],[],[]⟩) (
  ∃J:Bool→Prop,(
   split ((Mp.mk ma mb mc md).err !=0) (
    J true) (
    J ((Mp.mk ma mb mc md).word !=v)))∧∀(Sc:Nat→Value)(P8:Bool),J P8→
  split P8 (
   Q ⟨(.tuple #[(.agg #[(.bool false),(.int .i64 0),(.bool false),(.bool false)]),(.int .i64 90)]),(some (.t [none,none])),[],[],[]⟩) (
   Q ⟨(.tuple #[(.agg #[(.bool ma),(.int .i64 mb),(.bool mc),(.bool md)]),(.int .i64 0)]),(some (.t [none,none])),[],[],[]⟩))
theorem mj:Vc2 Un prog (aU [(217,oc)]) [] Tryz.f216 (.r' (.r' (.r' (.two (.r' (.two (.node [] (some ⟨[(26,(.one .bool))],[],upN 20 7,[]⟩) [] [] .leaf .leaf) .leaf)) .leaf)))) [] cJ=(∀v ma mb mc md,∀Q,(cJ.body v ma mb mc md Q)→mi v ma mb mc md Q):=by kernel_rfl
theorem mh:LV Un prog 216 cJ:=verify Tryz.func216 aj (tb:= [(217,oc)]) ⟨Dv,trivial⟩ (by kernel_rfl) (mj.mpr fun v ma mb mc md Q h gv Nd NC=>aO (fun c1=>(h false 0 false false 92 (by(grind)))) fun c1=>bS ((((Mp.mk ma mb mc md).err:Int) !=0) || (((Mp.mk ma mb mc md).word:Int) !=v)) (ao (fun c2=>(by grind)) fun c2=>(by grind))<| aW (fun c3=>(h false 0 false false 90 (by(grind)))) fun c3=>(h ma mb mc md 0 (by(grind))))
def bY:Ctr Un:=⟨[.one (.int .u32)],[],[],[],fun v K=>(0≤(v:Int)∧(v:Int)<4294967296)∧K ⟨(.tuple #[(.agg #[(.bool ((bD v).aX)),(.int .i64 ((bD v).ay)),(.bool ((bD v).write)),(.bool ((bD v).exec))]),(.int .i64 (eQ v))]),(some (.t [none,none])),[],[],[]⟩⟩
def qZ(v:Int)(Q:Ou Un→Prop):Prop:=
 ∀(gv:Nat),
 ∀x7:Bool,x7=((u32.wrap (BitVec.ofInt u32.bits v &&& BitVec.ofInt u32.bits 2).toNat:Int) !=0)→
 ∀Nf:Int,Nf=(i64.wrap ((v:Int).fdiv (2 ^ 8)))→
 ∀Nn:Bool,Nn=((u32.wrap (BitVec.ofInt u32.bits v &&& BitVec.ofInt u32.bits 4).toNat:Int) !=0)→
 ∀OR:Bool,OR=((u32.wrap (BitVec.ofInt u32.bits v &&& BitVec.ofInt u32.bits 8).toNat:Int) !=0)→
 ∀(ra:Bool)(rb:Int)(rc:Bool)(rd:Bool)(re:Int),
 ((Mp.mk ra rb rc rd=(if v≠0∧(Mp.mk x7 Nf Nn OR).err=0∧(Mp.mk x7 Nf Nn OR).word=v then(Mp.mk x7 Nf Nn OR)else Mp.nil)∧re=(if v=0 then 92 else if(Mp.mk x7 Nf Nn OR).err=0∧(Mp.mk x7 Nf Nn OR).word=v then 0 else 90)))→
 Q ⟨(.tuple #[(.agg #[(.bool ra),(.int .i64 rb),(.bool rc),(.bool rd)]),(.int .i64 re)]),(some (.t [none,none])),[],[],[]⟩
theorem q8:Vc2 Un prog (aU [(216,cJ)]) [7,10,14,17] Tryz.f182 .leaf [] bY=(∀v,∀Q,(bY.body v Q)→qZ v Q):=by kernel_rfl
theorem gV:LV Un prog 182 bY:=verify Tryz.func182 aj (tb:= [(216,cJ)]) ⟨mh,trivial⟩ (by kernel_rfl) (q8.mpr fun v Q h=>by
 obtain⟨NF,h⟩:=h
 exact fun gv x7 abN Nf VS Nn PM OR VQ ra rb rc rd re f1=>(by(have e0:i64.wrap ((v:Int).fdiv (2 ^ 8))=v / 256:=by rw [lF,aq (by omega)];rfl);(rw [gy 1 2 (by decide) (by omega) NF]at abN);rw [e0]at VS;(rw [gy 2 4 (by decide) (by omega) NF]at PM);(rw [gy 3 8 (by decide) (by omega) NF]at VQ);(have hg:Mp.mk x7 Nf Nn OR=Mp.BL v:=by rw [abN,VS,PM,VQ];rfl);rw [hg]at f1;exact aL h (by(have hm:bD v=Mp.mk ra rb rc rd∧eQ v=re:=by grind [bD,eQ,uE]);rw [hm.1,hm.2]) rfl rfl))
def kL:Ctr Un:=⟨[.enc 6],[],[],[],fun f K=>K ⟨(.int .u32 (File.flags f)),none,[],[],[]⟩⟩
def Hu(f:Fl)(Q:Ou Un→Prop):Prop:=
 ∀(gv:Nat),
 ∀(s:Fl),s=(Fl.norm f)→
 Fl.Ok s→
 split (Fl.z s) (
  Q ⟨(.int .u32 1),none,[],[],[]⟩) (
  ∀wv:Int,wv=0→
  split (Fl.n s) (
   ∀M5:Int,M5=(u32.wrap (BitVec.ofInt u32.bits wv ||| BitVec.ofInt u32.bits 2).toNat)→
   split (Fl.l s) (
    ∀M6:Int,M6=(u32.wrap (BitVec.ofInt u32.bits M5 ||| BitVec.ofInt u32.bits 4).toNat)→
    Q ⟨(.int .u32 M6),none,[],[],[]⟩) (
    Q ⟨(.int .u32 M5),none,[],[],[]⟩)) (
   split (Fl.l s) (
    ∀M5:Int,M5=(u32.wrap (BitVec.ofInt u32.bits wv ||| BitVec.ofInt u32.bits 4).toNat)→
    Q ⟨(.int .u32 M5),none,[],[],[]⟩) (
    Q ⟨(.int .u32 wv),none,[],[],[]⟩)))
theorem Hv:Vc2 Un prog (aU []) [3] Tryz.f230 .leaf [] kL=(∀(f:Fl),∀Q,(kL.body f Q)→Hu f Q):=by kernel_rfl
theorem Ht:LV Un prog 230 kL:=verify Tryz.func230 aj (tb:= []) trivial (by kernel_rfl) (Hv.mpr fun f Q h gv s OM f1=>ao (fun c1=>fk h (by subst_vars;simp only [Fl.norm]at *;(simp [File.flags, *];done))) fun c1 wv h_wv=>ao (fun c2 M5 abO=>ao (fun c3 M6 h_wv2=>fk h (by subst_vars;simp only [Fl.norm]at *;(simp only [File.flags, *];rfl))) fun c3=>fk h (by subst_vars;simp only [Fl.norm]at *;(simp only [File.flags, *];rfl))) fun c2=>ao (fun c4 M5 abO=>fk h (by subst_vars;simp only [Fl.norm]at *;(simp only [File.flags, *];rfl))) fun c4=>fk h (by subst_vars;simp only [Fl.norm]at *;(simp [File.flags, *];done)))
def hH:Ctr Un:=⟨[.enc 6,.one (.int .u32)],[],[],[],fun f w K=>Fl.Ok f∧(0≤(w:Int)∧(w:Int)<4294967296)∧K ⟨(.tuple #[(.agg ⟨Fl.cells (File.eG f w)⟩),(.int .i64 (File.fB w))]),(some (.t [none,none])),[],[],[]⟩⟩
def AJ(f:Fl)(w:Int)(Q:Ou Un→Prop):Prop:=
 ∀(gv:Nat),
 ∀(s:Fl),s=(Fl.norm f)→
 Fl.Ok s→
 ∀(Nd:Nat),
 ∀(s1:Fl),s1=Fl.zero→
 Fl.Ok s1→
 ∀x8:Bool,x8=((u32.wrap (BitVec.ofInt u32.bits w &&& BitVec.ofInt u32.bits 1).toNat:Int) !=0)→
 ∀Nm:Bool,Nm=((u32.wrap (BitVec.ofInt u32.bits w &&& BitVec.ofInt u32.bits 2).toNat:Int) !=0)→
 ∀Nn:Bool,Nn=((u32.wrap (BitVec.ofInt u32.bits w &&& BitVec.ofInt u32.bits 4).toNat:Int) !=0)→
 True∧
 ∀(s2:Fl),s2=({s with z:=x8}:Fl)→
 Fl.Ok s2→
 True∧
 ∀(s3:Fl),s3=({s2 with n:=Nm}:Fl)→
 Fl.Ok s3→
 True∧
 ∀(s4:Fl),s4=({s3 with l:=Nn}:Fl)→
 Fl.Ok s4→
 True∧
 split ((File.flags (Fl.norm s4)) !=w) (
  True∧
  ∀(s5:Fl),s5=Fl.zero→
  Fl.Ok s5→
  True∧
  Q ⟨(.tuple #[(.agg ⟨Fl.cells s5⟩),(.int .i64 80)]),(some (.t [none,none])),[],[],[]⟩) (
  True∧
  True∧
  ∀(s5:Fl),s5=(Fl.norm s4)→
  Fl.Ok s5→
  True∧
  Q ⟨(.tuple #[(.agg ⟨Fl.cells s5⟩),(.int .i64 0)]),(some (.t [none,none])),[],[],[]⟩)
theorem AK:Vc2 Un prog (aU [(230,kL)]) [8,11,14] Tryz.f218 .leaf [] hH=(∀(f:Fl) w,∀Q,(hH.body f w Q)→AJ f w Q):=by kernel_rfl
theorem AI:LV Un prog 218 hH:=verify Tryz.func218 aj (tb:= [(230,kL)]) ⟨Ht,trivial⟩ (by kernel_rfl) (AK.mpr fun f w Q h=>by
 obtain⟨NF,Nz,h⟩:=h
 exact fun gv s OM f1 Nd s1 NA f2 x8 Uj Nm PN Nn PM=>ak trivial fun _ s2 PH f4=>ak trivial fun _ s3 QA f6=>ak trivial fun _ s4 O1 f8=>ak trivial fun _=>aV (fun c1=>ak trivial fun _ s5 Qo f11=>ak trivial fun _=>(by(have e4:Fl.norm s4= {f with z:=x8,n:=Nm,l:=Nn}:=by rw [Fl.norm_eq (show Fl.Ok s4 by assumption),O1,QA,PH,OM,Fl.norm_eq NF]);(rw [gy 0 1 (by decide) (by omega) Nz]at Uj);(rw [gy 1 2 (by decide) (by omega) Nz]at PN);(rw [gy 2 4 (by decide) (by omega) Nz]at PM);have hi:=File.wV Nz;(have h0:File.fX w=false:=(by rw [e4,Uj,PN,PM]at c1;simp only [File.flags]at c1;rw [hi]at c1;simpa using c1));exact aL h (congrArg (fun l=>Value.tuple (List.toArray l)) (ai (congrArg (fun s:Fl=>Value.agg ⟨Fl.cells s⟩) (by rw [File.wU h0,Qo])) (ai (bj (by rw [File.wW h0])) rfl))) rfl rfl)) fun c1=>ak trivial fun _=>ak trivial fun _ s5 Qo f15=>ak trivial fun _=>(by(have e4:Fl.norm s4= {f with z:=x8,n:=Nm,l:=Nn}:=by rw [Fl.norm_eq (show Fl.Ok s4 by assumption),O1,QA,PH,OM,Fl.norm_eq NF]);(rw [gy 0 1 (by decide) (by omega) Nz]at Uj);(rw [gy 1 2 (by decide) (by omega) Nz]at PN);(rw [gy 2 4 (by decide) (by omega) Nz]at PM);have hi:=File.wV Nz;(have h0:File.fX w=true:=(by rw [e4,Uj,PN,PM]at c1;simp only [File.flags]at c1;rw [hi]at c1;simpa using c1));have h2:=File.C3 h0;exact aL h (congrArg (fun l=>Value.tuple (List.toArray l)) (ai (congrArg (fun s:Fl=>Value.agg ⟨Fl.cells s⟩) (by rw [File.zO h0,Qo,e4,Uj,PN,PM,h2.1,h2.2.1,h2.2.2])) (ai (bj (by rw [File.zP h0])) rfl))) rfl rfl))
def lu:Ctr Un:=⟨[.one (.sl 0)],[],[.lst 1 false 23],[],fun A c l K=>((∀x∈l,0≤x.v∧x.v<4294967296))∧K ⟨(.tuple #[(.agg ⟨Fl.cells (File.unpack l)⟩),(.int .i64 (File.fm l))]),(some (.t [none,none])),[],[],[]⟩⟩
def Ei(A:Option Addr)(c:Nat)(l:List U32)(Q:Ou Un→Prop):Prop:=
 ∀(gv:Nat),
 ∀(s:Fl),s=Fl.zero→
 Fl.Ok s→
 split ((l.length:Int) !=17) (
  True∧
  ∀(s1:Fl),s1=Fl.zero→
  Fl.Ok s1→
  True∧
  Q ⟨(.tuple #[(.agg ⟨Fl.cells s1⟩),(.int .i64 80)]),(some (.t [none,none])),[],[],[]⟩) (
  (0<l.length∧15≤l.length)∧
  (15≤l.length)∧
  (0≤(15:Int)∧(15:Int)<(l.length:Int))∧
  ∀(Nd:Nat),
  ∀(s1:Fl),s1=Fl.zero→
  Fl.Ok s1→
  True∧
  ∀(s2:Fl),s2=(Fl.mk [U32.mk ((l.getD 0 (U32.mk 0)).v),U32.mk ((l.getD 1 (U32.mk 0)).v),U32.mk ((l.getD 2 (U32.mk 0)).v),U32.mk ((l.getD 3 (U32.mk 0)).v),U32.mk ((l.getD 4 (U32.mk 0)).v),U32.mk ((l.getD 5 (U32.mk 0)).v),U32.mk ((l.getD 6 (U32.mk 0)).v),U32.mk ((l.getD 7 (U32.mk 0)).v),U32.mk ((l.getD 8 (U32.mk 0)).v),U32.mk ((l.getD 9 (U32.mk 0)).v),U32.mk ((l.getD 10 (U32.mk 0)).v),U32.mk ((l.getD 11 (U32.mk 0)).v),U32.mk ((l.getD 12 (U32.mk 0)).v),U32.mk ((l.getD 13 (U32.mk 0)).v),U32.mk ((l.getD 14 (U32.mk 0)).v)] ((l.getD (Int.toNat 15) (U32.mk 0)).v) false false false)→
  Fl.Ok s2→
  True∧
  (0≤(16:Int)∧(16:Int)<(l.length:Int))∧
  Fl.Ok (Fl.norm s2)∧
  (0≤((l.getD (Int.toNat 16) (U32.mk 0)).v)∧((l.getD (Int.toNat 16) (U32.mk 0)).v)<4294967296)∧
  True∧
  ∀(s3:Fl),s3=(Fl.norm (File.eG (Fl.norm s2) ((l.getD (Int.toNat 16) (U32.mk 0)).v)))→
  Fl.Ok s3→
  ∃J:Bool→Prop,(
   split ((File.fB ((l.getD (Int.toNat 16) (U32.mk 0)).v))==0) (
    True∧
    J (bp ⟨Fl.cells s3⟩ ⟨Fl.cells Fl.zero⟩)) (
    J false))∧∀(Pw:Nat→Value)(ZG:Bool),J ZG→
  split ZG (
   True∧
   ∀(s4:Fl),s4=Fl.zero→
   Fl.Ok s4→
   True∧
   Q ⟨(.tuple #[(.agg ⟨Fl.cells s4⟩),(.int .i64 0)]),(some (.t [none,none])),[],[],[]⟩) (
   True∧
   True∧
   ∀(s4:Fl),s4=(Fl.norm s3)→
   Fl.Ok s4→
   True∧
   Q ⟨(.tuple #[(.agg ⟨Fl.cells s4⟩),(.int .i64 (File.fB ((l.getD (Int.toNat 16) (U32.mk 0)).v)))]),(some (.t [none,none])),[],[],[]⟩))
theorem Ej:Vc2 Un prog (aU [(218,hH)]) [] Tryz.f184 (.r' (.r' (.two (.node [] none [] [(2,[0]),(5,[0])] .leaf .leaf) (.two (.node [] none [] [(0,[2]),(3,[0])] .leaf .leaf) (.two (.two (.node [] (some ⟨[(31,(.one .bool))],[],upN 25 7,[]⟩) [] [] .leaf .leaf) .leaf) .leaf))))) [] lu=(∀A c (l:List U32),∀Q,(((∀x∈l,0≤x.v∧x.v<4294967296))∧Q ⟨(.tuple #[(.agg ⟨Fl.cells (File.unpack l)⟩),(.int .i64 (File.fm l))]),(some (.t [none,none])),[],[],[]⟩)→Ei A c l Q):=by kernel_rfl
theorem Eh:LV Un prog 184 lu:=verify Tryz.func184 aj (tb:= [(218,hH)]) ⟨AI,trivial⟩ (by kernel_rfl) (Ej.mpr fun A c l Q h=>by
 obtain⟨NF,h⟩:=h
 exact fun gv s OM f1=>aV (fun c1=>ak trivial fun _ s1 NA f3=>ak trivial fun _=>(by(have h0:¬l.length=17:=by omega);exact aL h (congrArg (fun l=>Value.tuple (List.toArray l)) (ai (congrArg (fun s:Fl=>Value.agg ⟨Fl.cells s⟩) (by rw [(File.pX h0).1,NA])) (ai (bj (by rw [(File.pX h0).2])) rfl))) rfl rfl)) fun c1=>ak (by omega) fun s5=>ak (by omega) fun s6=>ak (by omega) fun s7 Nd s1 NA f8=>ak trivial fun _ s2 PH f10=>ak trivial fun _=>ak (by omega) fun Py=>ak (Fl.Ie _) fun NG=>ak (File.zN NF _) fun NJ=>ak trivial fun _ s3 QA f16=>bS ((((File.fB ((l.getD (Int.toNat 16) (U32.mk 0)).v)):Int)==0) && (bp ⟨Fl.cells s3⟩ ⟨Fl.cells Fl.zero⟩)) (ao (fun c2=>ak trivial fun _=>(by grind)) fun c2=>(by grind))<| cE (fun c3=>ak trivial fun _ s4 O1 f19=>ak trivial fun _=>(by(have h0:l.length=17:=by omega);have hu:=File.oy h0;(have e2:Fl.norm s2=File.bare l:=by rw [Fl.norm_eq (show Fl.Ok s2 by assumption),PH,File.bare_eq h0]);(have e3:s3=File.eG (File.bare l) (l.getD 16 (U32.mk 0)).v:=by rw [QA,e2];exact Fl.norm_eq (File.qG h0 _));(have hz:=Fl.Ix (show Fl.Ok s3 by assumption) c3.2);exact aL h (congrArg (fun l=>Value.tuple (List.toArray l)) (ai (congrArg (fun s:Fl=>Value.agg ⟨Fl.cells s⟩) (by rw [hu.1,← e3,hz,O1])) (ai (bj (by(rw [hu.2];simpa using c3.1))) rfl))) rfl rfl)) fun c3=>ak trivial fun _=>ak trivial fun _ s4 O1 f23=>ak trivial fun _=>(by(have h0:l.length=17:=by omega);have hu:=File.oy h0;(have e2:Fl.norm s2=File.bare l:=by rw [Fl.norm_eq (show Fl.Ok s2 by assumption),PH,File.bare_eq h0]);(have e3:s3=File.eG (File.bare l) (l.getD 16 (U32.mk 0)).v:=by rw [QA,e2];exact Fl.norm_eq (File.qG h0 _));exact aL h (congrArg (fun l=>Value.tuple (List.toArray l)) (ai (congrArg (fun s:Fl=>Value.agg ⟨Fl.cells s⟩) (by(rw [hu.1,← e3,O1];exact(Fl.norm_eq ‹_›).symm))) (ai (bj (by exact hu.2)) rfl))) rfl rfl))
end
section
set_option maxRecDepth 100000
set_option maxHeartbeats 1000000
attribute [local irreducible] Vc2 VcD
attribute [local grind=] Pd.cI Pd.cg Pd.iH Pd.iS Pd.gi Pd.eJ Pd.eY Pd.fw Pd.lB
attribute [local grind .] Pd.Ok.ent
attribute [local grind→] Pd.Ok.eg
def mm:Ctr Un:=⟨[.one (.obj 0 0),.agg [.bool,.int .i64]],[],[.ob 0 []],[],fun fa fb rm m K=>K ⟨(.bool (m.has fa fb)),none,[],[],[]⟩⟩
theorem Aw:LV Un prog 183 mm:=by
 show ∀(fa:Bool)(fb:Int)(rm:Nat→Nat)(m:Mem),∀Q:Ou Un→Prop,(Q ⟨(.bool (m.has fa fb)),none,[],[],[]⟩)→∀(X:Nat→Nat→Prop)(w:World),Sat (U:=Un) [(.ob 0 rm m)] X w→aE (U:=Un) [(.ob 0 rm m)] fr0 []→Calls prog 183 #[(.pointer (some (Addr.mk (rm 0) 0 none))),(.agg #[(.bool fa),(.int .i64 fb)])] w (bP (U:=Un) [(.ob 0 rm m)] [] X w Q)
 intro fa fb rm m Q hQ X w hs hl
 obtain⟨L,hg,hM,hX⟩:=tu hs
 rw [hg]
 refine(MM hM fa fb).mono ?_
 rintro e w' ⟨u,rfl,rfl,q⟩
 exact bP.pu hs q hQ trivial
def nC:Ctr Un:=⟨[.one (.obj 0 0),.agg [.bool,.int .i64],.one (.int .i64)],[],[.ob 0 []],[],fun fa fb off rm m K=>K ⟨(.int .u32 (m.aT fa fb off)),none,[],[],[]⟩⟩
theorem B9:LV Un prog 26 nC:=by
 show ∀(fa:Bool)(fb:Int)(off:Int)(rm:Nat→Nat)(m:Mem),∀Q:Ou Un→Prop,(Q ⟨(.int .u32 (m.aT fa fb off)),none,[],[],[]⟩)→∀(X:Nat→Nat→Prop)(w:World),Sat (U:=Un) [(.ob 0 rm m)] X w→aE (U:=Un) [(.ob 0 rm m)] fr0 []→Calls prog 26 #[(.pointer (some (Addr.mk (rm 0) 0 none))),(.agg #[(.bool fa),(.int .i64 fb)]),(.int .i64 off)] w (bP (U:=Un) [(.ob 0 rm m)] [] X w Q)
 intro fa fb off rm m Q hQ X w hs hl
 obtain⟨L,hg,hM,hX⟩:=tu hs
 rw [hg]
 refine(LK hM fa fb off).mono ?_
 rintro e w' ⟨u,rfl,rfl,q⟩
 exact bP.pu hs q hQ trivial
def kG:Ctr Un:=⟨[.one (.obj 0 0),.agg [.bool,.int .i64],.one (.int .i64),.one (.int .u32)],[],[.ob 0 []],[0],fun fa fb off v rm m K=>(0≤(v:Int)∧(v:Int)<4294967296)∧K ⟨(.int .i64 (m.err fa fb off)),none,[.ob 0 (m.write fa fb off v)],[],[]⟩⟩
theorem yC:LV Un prog 22 kG:=by
 show ∀(fa:Bool)(fb:Int)(off:Int)(v:Int)(rm:Nat→Nat)(m:Mem),∀Q:Ou Un→Prop,((0≤(v:Int)∧(v:Int)<4294967296)∧Q ⟨(.int .i64 (m.err fa fb off)),none,[.ob 0 (m.write fa fb off v)],[],[]⟩)→∀(X:Nat→Nat→Prop)(w:World),Sat (U:=Un) [(.ob 0 rm m)] X w→aE (U:=Un) [(.ob 0 rm m)] fr0 []→Calls prog 22 #[(.pointer (some (Addr.mk (rm 0) 0 none))),(.agg #[(.bool fa),(.int .i64 fb)]),(.int .i64 off),(.int .u32 v)] w (bP (U:=Un) [(.ob 0 rm m)] [0] X w Q)
 intro fa fb off v rm m Q hQ X w hs hl
 obtain⟨NF,hQ⟩:=hQ
 obtain⟨L,hg,hM,hX⟩:=tu hs
 rw [hg]
 refine(FA hM fa fb off v NF).mono ?_
 rintro e w' ⟨u,rfl,rfl,h2,q⟩
 exact bP.one (Z:=X 0) (q.mono fun k hk=>(hX k).1 hk) (show dI 0 rm _ (X 0) w' from⟨L,hg,hX,h2⟩) (fun k hk=>.inl hk) hQ trivial
theorem KG {r rm:Nat→Nat} {E:Pd} {m:Mem}(hl:aE (U:=Un) [.ob 1 r E,.ob 0 rm m] fr0 [(.l 0 1,.p (.obj 1 0 0))]):r 1=rm 0:=by
 obtain⟨t',r',s',hn1,hk⟩:=hl _ _ (List.mem_singleton.2 rfl)
 simp only [nth,Option.some.injEq,Res.ob.injEq]at hn1
 obtain⟨rfl,rfl,_⟩:=hn1
 have hk:some (Value.pointer (some ⟨rm 0,0,none⟩))=some (Value.pointer (some ⟨r 1,0,none⟩)):=hk
 simp only [Option.some.injEq,Value.pointer.injEq,Addr.mk.injEq]at hk
 exact hk.1.symm
def mo:Ctr Un:=⟨[.one (.obj 0 0)],[],[.ob 1 [(1,1,0)],.ob 0 []],[],fun r E rm m K=>K ⟨(.pointer (some (Addr.mk (r 1) 0 none))),(some (.p (.obj 1 0 0))),[],[],[]⟩⟩
def AR(r:Nat→Nat)(E:Pd)(rm:Nat→Nat)(m:Mem)(Q:Ou Un→Prop):Prop:=
 Pd.Ok E→
 Mem.Wf m→
 Q ⟨(.pointer (some (Addr.mk (r 1) 0 none))),(some (.p (.obj 1 0 0))),[],[],[]⟩
theorem AS:Vc2 Un prog (aU []) [] Tryz.f32 .leaf [] mo=(∀r (E:Pd) rm (m:Mem),∀Q,(mo.body r E rm m Q)→AR r E rm m Q):=by kernel_rfl
theorem AQ:LV Un prog 32 mo:=verify Tryz.func32 aj (tb:= []) trivial (by kernel_rfl) (AS.mpr fun r E rm m Q h f1 f2=>h)
def dg:Ctr Un:=⟨[.one (.obj 0 0)],[],[.ob 1 [(1,1,0)],.ob 0 []],[],fun r E rm m K=>K ⟨(.pointer (some (Addr.mk (rm 0) 0 none))),(some (.p (.obj 1 0 0))),[],[],[]⟩⟩
theorem jk:LV Un prog 32 dg:=by
 show ∀(r:Nat→Nat)(E:Pd)(rm:Nat→Nat)(m:Mem),∀Q:Ou Un→Prop,(Q ⟨(.pointer (some (Addr.mk (rm 0) 0 none))),(some (.p (.obj 1 0 0))),[],[],[]⟩)→∀(X:Nat→Nat→Prop)(w:World),Sat (U:=Un) [(.ob 1 r E),(.ob 0 rm m)] X w→aE (U:=Un) [(.ob 1 r E),(.ob 0 rm m)] fr0 [(.l 0 1,.p (.obj 1 0 0))]→Calls prog 32 #[(.pointer (some (Addr.mk (r 0) 0 none)))] w (bP (U:=Un) [(.ob 1 r E),(.ob 0 rm m)] [] X w Q)
 intro r E rm m Q hQ X w hs hl
 exact AQ r E rm m Q (show Q ⟨.pointer (some (Addr.mk (r 1) 0 none)),some (.p (.obj 1 0 0)),[],[],[]⟩from(by rw [KG hl];exact hQ)) X w hs hl
def jl:Ctr Un:=⟨[.one (.obj 0 0)],[],[.ob 1 []],[],fun r E K=>K ⟨(.int .i64 E.aD),none,[],[],[]⟩⟩
def Ev(r:Nat→Nat)(E:Pd)(Q:Ou Un→Prop):Prop:=
 Pd.Ok E→
 Q ⟨(.int .i64 (Pd.aD E)),none,[],[],[]⟩
theorem Ew:Vc2 Un prog (aU []) [] Tryz.f72 .leaf [] jl=(∀r (E:Pd),∀Q,(jl.body r E Q)→Ev r E Q):=by kernel_rfl
theorem Eu:LV Un prog 72 jl:=verify Tryz.func72 aj (tb:= []) trivial (by kernel_rfl) (Ew.mpr fun r E Q h f1=>fk h (by omega))
def kO:Ctr Un:=⟨[.one (.obj 0 0)],[],[.ob 1 [(1,1,0)],.ob 0 []],[],fun r E rm m K=>E.n=m.S∧K ⟨(.int .i64 ((E.on m).S:Int)),none,[],[],[]⟩⟩
theorem yW:LV Un prog 70 kO:=by
 show ∀(r:Nat→Nat)(E:Pd)(rm:Nat→Nat)(m:Mem),∀Q:Ou Un→Prop,(E.n=m.S∧Q ⟨(.int .i64 ((E.on m).S:Int)),none,[],[],[]⟩)→∀(X:Nat→Nat→Prop)(w:World),Sat (U:=Un) [(.ob 1 r E),(.ob 0 rm m)] X w→aE (U:=Un) [(.ob 1 r E),(.ob 0 rm m)] fr0 [(.l 0 1,.p (.obj 1 0 0))]→Calls prog 70 #[(.pointer (some (Addr.mk (r 0) 0 none)))] w (bP (U:=Un) [(.ob 1 r E),(.ob 0 rm m)] [] X w Q)
 intro r E rm m Q hQ X w hs hl
 obtain⟨hn,hQ⟩:=hQ
 obtain⟨a,L,hg,hr,hD,SZ,Uk⟩:=CJ hs hl hn
 refine(zU hD).mono ?_
 rintro e w' ⟨u,rfl,rfl,rfl⟩
 exact bP.pu hs (Ch.refl _ _) hQ trivial
def ff:Ctr Un:=⟨[.one (.obj 0 0),.one (.int .i64)],[],[.ob 1 [(1,1,0)],.ob 0 []],[],fun p r E rm m K=>E.n=m.S∧K ⟨(.tuple #[(.agg #[(.int .i64 (((E.on m).entry p).typ)),(.int .i64 (((E.on m).entry p).owner)),(.int .i64 (((E.on m).entry p).refs)),(.int .i64 (((E.on m).entry p).state)),(.bool (((E.on m).entry p).br))]),(.int .i64 ((E.on m).bq p))]),(some (.t [none,none])),[],[],[]⟩⟩
theorem nG:LV Un prog 71 ff:=by
 show ∀(p:Int)(r:Nat→Nat)(E:Pd)(rm:Nat→Nat)(m:Mem),∀Q:Ou Un→Prop,(E.n=m.S∧Q ⟨(.tuple #[(.agg #[(.int .i64 (((E.on m).entry p).typ)),(.int .i64 (((E.on m).entry p).owner)),(.int .i64 (((E.on m).entry p).refs)),(.int .i64 (((E.on m).entry p).state)),(.bool (((E.on m).entry p).br))]),(.int .i64 ((E.on m).bq p))]),(some (.t [none,none])),[],[],[]⟩)→∀(X:Nat→Nat→Prop)(w:World),Sat (U:=Un) [(.ob 1 r E),(.ob 0 rm m)] X w→aE (U:=Un) [(.ob 1 r E),(.ob 0 rm m)] fr0 [(.l 0 1,.p (.obj 1 0 0))]→Calls prog 71 #[(.pointer (some (Addr.mk (r 0) 0 none))),(.int .i64 p)] w (bP (U:=Un) [(.ob 1 r E),(.ob 0 rm m)] [] X w Q)
 intro p r E rm m Q hQ X w hs hl
 obtain⟨hn,hQ⟩:=hQ
 obtain⟨a,L,hg,hr,hD,SZ,Uk⟩:=CJ hs hl hn
 refine(K5 hD p).mono ?_
 rintro e w' ⟨u,rfl,rfl,q⟩
 exact bP.pu hs q hQ (KnO.tup _ (by simp))
def jL:Ctr Un:=⟨[.one (.obj 0 0),.one (.int .i64),.one (.int .i64)],[],[.ob 1 [(1,1,0)],.ob 0 []],[0,1],fun p q r E rm m K=>E.n=m.S∧K ⟨(.int .i64 ((E.on m).aS p q)),none,[.ob 1 (((E.on m).aG p q).pd),.ob 0 (((E.on m).aG p q).mem)],[],[]⟩⟩
theorem vy:LV Un prog 40 jL:=by
 show ∀(p:Int)(q:Int)(r:Nat→Nat)(E:Pd)(rm:Nat→Nat)(m:Mem),∀Q:Ou Un→Prop,(E.n=m.S∧Q ⟨(.int .i64 ((E.on m).aS p q)),none,[.ob 1 (((E.on m).aG p q).pd),.ob 0 (((E.on m).aG p q).mem)],[],[]⟩)→∀(X:Nat→Nat→Prop)(w:World),Sat (U:=Un) [(.ob 1 r E),(.ob 0 rm m)] X w→aE (U:=Un) [(.ob 1 r E),(.ob 0 rm m)] fr0 [(.l 0 1,.p (.obj 1 0 0))]→Calls prog 40 #[(.pointer (some (Addr.mk (r 0) 0 none))),(.int .i64 p),(.int .i64 q)] w (bP (U:=Un) [(.ob 1 r E),(.ob 0 rm m)] [0,1] X w Q)
 intro p q r E rm m Q hQ X w hs hl
 obtain⟨hn,hQ⟩:=hQ
 obtain⟨a,L,hg,hr,hD,SZ,Uk⟩:=CJ hs hl hn
 refine(zT hD p q).mono ?_
 rintro e w' ⟨u,rfl,rfl,h2,q⟩
 exact Fe hs SZ Uk hg hr h2 q hQ trivial
def vx:Ctr Un:=⟨[.one (.obj 0 0),.one (.int .i64),.one (.int .i64),.one (.int .i64)],[],[.ob 1 [(1,1,0)],.ob 0 []],[0,1],fun p t o r E rm m K=>E.n=m.S∧K ⟨(.int .i64 ((E.on m).cB p t o)),none,[.ob 1 (((E.on m).take p t o).pd),.ob 0 (((E.on m).take p t o).mem)],[],[]⟩⟩
theorem Jz:LV Un prog 42 vx:=by
 show ∀(p:Int)(t:Int)(o:Int)(r:Nat→Nat)(E:Pd)(rm:Nat→Nat)(m:Mem),∀Q:Ou Un→Prop,(E.n=m.S∧Q ⟨(.int .i64 ((E.on m).cB p t o)),none,[.ob 1 (((E.on m).take p t o).pd),.ob 0 (((E.on m).take p t o).mem)],[],[]⟩)→∀(X:Nat→Nat→Prop)(w:World),Sat (U:=Un) [(.ob 1 r E),(.ob 0 rm m)] X w→aE (U:=Un) [(.ob 1 r E),(.ob 0 rm m)] fr0 [(.l 0 1,.p (.obj 1 0 0))]→Calls prog 42 #[(.pointer (some (Addr.mk (r 0) 0 none))),(.int .i64 p),(.int .i64 t),(.int .i64 o)] w (bP (U:=Un) [(.ob 1 r E),(.ob 0 rm m)] [0,1] X w Q)
 intro p t o r E rm m Q hQ X w hs hl
 obtain⟨hn,hQ⟩:=hQ
 obtain⟨a,L,hg,hr,hD,SZ,Uk⟩:=CJ hs hl hn
 refine(L0 hD p t o).mono ?_
 rintro e w' ⟨u,rfl,rfl,h2,q⟩
 exact Fe hs SZ Uk hg hr h2 q hQ trivial
def kN:Ctr Un:=⟨[.one (.obj 0 0),.one (.int .i64),.one (.int .i64)],[],[.ob 1 [(1,1,0)],.ob 0 []],[0,1],fun p t r E rm m K=>E.n=m.S∧K ⟨(.int .i64 ((E.on m).bH p t)),none,[.ob 1 (((E.on m).setState p t).pd),.ob 0 (((E.on m).setState p t).mem)],[],[]⟩⟩
theorem yT:LV Un prog 48 kN:=by
 show ∀(p:Int)(t:Int)(r:Nat→Nat)(E:Pd)(rm:Nat→Nat)(m:Mem),∀Q:Ou Un→Prop,(E.n=m.S∧Q ⟨(.int .i64 ((E.on m).bH p t)),none,[.ob 1 (((E.on m).setState p t).pd),.ob 0 (((E.on m).setState p t).mem)],[],[]⟩)→∀(X:Nat→Nat→Prop)(w:World),Sat (U:=Un) [(.ob 1 r E),(.ob 0 rm m)] X w→aE (U:=Un) [(.ob 1 r E),(.ob 0 rm m)] fr0 [(.l 0 1,.p (.obj 1 0 0))]→Calls prog 48 #[(.pointer (some (Addr.mk (r 0) 0 none))),(.int .i64 p),(.int .i64 t)] w (bP (U:=Un) [(.ob 1 r E),(.ob 0 rm m)] [0,1] X w Q)
 intro p t r E rm m Q hQ X w hs hl
 obtain⟨hn,hQ⟩:=hQ
 obtain⟨a,L,hg,hr,hD,SZ,Uk⟩:=CJ hs hl hn
 refine(Dc hD p t).mono ?_
 rintro e w' ⟨u,rfl,rfl,h2,q⟩
 exact Fe hs SZ Uk hg hr h2 q hQ trivial
def rO:Ctr Un:=⟨[.one (.obj 0 0),.one (.int .i64)],[],[.ob 1 [(1,1,0)],.ob 0 []],[],fun s r E rm m K=>E.n=m.S∧∀(A:Option Addr)(c:Nat),K ⟨(.slice A ((own (E.on m) s).length) c),(some (.p (.sl 2 0))),[],[(.lst 0 true 3 A c (own (E.on m) s))],[]⟩⟩
theorem HB:LV Un prog 125 rO:=by
 show ∀(s:Int)(r:Nat→Nat)(E:Pd)(rm:Nat→Nat)(m:Mem),∀Q:Ou Un→Prop,(E.n=m.S∧∀(A:Option Addr)(c:Nat),Q ⟨(.slice A ((own (E.on m) s).length) c),(some (.p (.sl 2 0))),[],[(.lst 0 true 3 A c (own (E.on m) s))],[]⟩)→∀(X:Nat→Nat→Prop)(w:World),Sat (U:=Un) [(.ob 1 r E),(.ob 0 rm m)] X w→aE (U:=Un) [(.ob 1 r E),(.ob 0 rm m)] fr0 [(.l 0 1,.p (.obj 1 0 0))]→Calls prog 125 #[(.pointer (some (Addr.mk (r 0) 0 none))),(.int .i64 s)] w (bP (U:=Un) [(.ob 1 r E),(.ob 0 rm m)] [] X w Q)
 intro s r E rm m Q hQ X w hs hl
 obtain⟨hn,hQ⟩:=hQ
 obtain⟨a,L,hg,hr,hD,SZ,Uk⟩:=CJ hs hl hn
 refine(K4 hD s).mono ?_
 rintro e w' ⟨u,rfl,Z',A',N',C',rfl,ho,hz,q⟩
 have Qu:=ho.len
 subst Qu
 exact bP.more hs q (KH (U:=Un) (t:=0) ho) (fun k hk=>hz k hk.1) (hQ _ _) rfl
def vi:Ctr Un:=⟨[.one (.sl 0)],[],[.lst 1 false 23],[],fun A c l K=>((∀x∈l,0≤x.v∧x.v<4294967296))∧∀(dp:Value),K ⟨(.tuple #[dp,(.int .i64 (Dg.cj l))]),(some (.t [none,none])),[],[],[]⟩⟩
theorem Jg:LV Un prog 177 vi:=by
 show ∀(A:Option Addr)(c:Nat)(l:List U32),∀Q:Ou Un→Prop,(((∀x∈l,0≤x.v∧x.v<4294967296))∧∀(dp:Value),Q ⟨(.tuple #[dp,(.int .i64 (Dg.cj l))]),(some (.t [none,none])),[],[],[]⟩)→∀(X:Nat→Nat→Prop)(w:World),Sat (U:=Un) [(.lst 1 false 23 A c l)] X w→aE (U:=Un) [(.lst 1 false 23 A c l)] fr0 []→Calls prog 177 #[(.slice A l.length c)] w (bP (U:=Un) [(.lst 1 false 23 A c l)] [] X w Q)
 intro A c l Q hQ X w hs hl
 obtain⟨hw,hQ⟩:=hQ
 have hr:Rd w (X 0) A l.length c l:=hs.res 0 _ rfl
 refine(Lx hr hw).mono ?_
 rintro e w' ⟨u,rfl,p,rfl,_,q⟩
 exact bP.pu hs q (hQ _) (KnO.tup _ (by simp))
end
section
set_option maxRecDepth 100000
end
end Go.Proofs.YtfmcaoaaiganbaaGreatDoor
namespace Go.Proofs.YtfmcaoaaiganbaaGreatDoor
open Go.Proofs.Tryz (prog)
open Go Go.RowKit V
open Go.IntKind (i64 u32 u64)
section
set_option maxRecDepth 10000
set_option maxHeartbeats 1000000
theorem DB.CU {m:Mem} {l:List U32}(h:l.length=1+2*m.S)(hb:¬DB.wd l 0>64):DB.cj m l=if(List.range m.S).all (DB.FU m l)then 0 else 110:=by unfold DB.cj;rw [if_neg (by simpa using h),if_neg hb]
theorem DB.fH {m:Mem} {l:List U32}(h:l.length=1+2*m.S)(hb:¬DB.wd l 0>64) {p:Nat}(hp:p<m.S)(he:DB.FU m l p=false):DB.cj m l=110:=by
 rw [CU h hb,if_neg]
 intro hh
 have:=List.all_eq_true.1 hh p (List.mem_range.2 hp)
 rw [he]at this;cases this
end
section
namespace V
section
variable {U:Uni}
theorem bP.JL {rs:List (Res U)} {X:Nat→Nat→Prop} {w w':World} {Q:Ou U→Prop} {v:Value} {k:Option Kn} {Z:Nat→Prop} {r:Res U} {kc:List (Key×Kn)}(hs:Sat rs X w)(q:Pu w w')(hr:RS Z w' r)(hz:∀k,Z k→w.heap.size≤k)(hQ:Q ⟨v,k,[],[r],kc⟩)(hk:KnO (rs++ [r]) v k)
 (UZ:∀key k,(key,k)∈kc→ej (rs++ [r]) fr0 key k):bP rs [] X w Q (.returned v) w':=by
 obtain⟨out,rs',X',h1,rfl,h3,h4⟩:=bP.more (Q:=fun o=>o=⟨v,k,[],[r],[]⟩) hs q hr hz rfl hk
 have h3:rs=rs':=by simpa [bJ]using h3
 subst h3
 exact⟨⟨v,k,[],[r],kc⟩,rs,X',fc hk,hQ,rfl,⟨h4.sat,h4.ch,h4.same,h4.grow,h4.new,h4.kr,fun key k hm _=>UZ key k hm⟩⟩
theorem bP.KI {t:Nat} {rm:Nat→Nat} {m m':U.ty t} {X:Nat→Nat→Prop} {w w':World} {Q:Ou U→Prop} {v:Value} {k:Option Kn} {Z0 Z1:Nat→Prop} {r:Res U} {kc:List (Key×Kn)}(q:Ch (X 0) w w')(hp:U.pred t rm m' Z0 w')(hz0:∀k,Z0 k→X 0 k∨w.heap.size≤k)(hr:RS Z1 w' r)(hz1:∀k,Z1 k→w.heap.size≤k)(hd:∀k,Z0 k→¬Z1 k)
 (hQ:Q ⟨v,k,[.ob t m'],[r],kc⟩)(hk:KnO [.ob t rm m',r] v k)(UZ:∀key k,(key,k)∈kc→ej [.ob t rm m',r] fr0 key k):bP [.ob t rm m] [0] X w Q (.returned v) w':=by
 refine⟨_,[.ob t rm m'],fun i=>if i=0 then Z0 else if i=1 then Z1 else X i,fc hk,hQ,by simp [bJ,cQ,nth,bR],⟨⟨fun i r' Nr=>?_,fun i j hi hj Og k Pl Ol=>?_⟩,q.mono fun k hk=>⟨0,by simp,hk⟩,fun i hi hm=>?_,fun i hi k hk=>?_,fun i h1 h2 k hk=>?_,.inr hk,fun key k hm _=>UZ key k hm⟩⟩
 ·match i with
  | 0=>simp only [List.cons_append,List.nil_append,nth,Option.some.injEq]at Nr;subst Nr;exact hp
  | 1=>simp only [List.cons_append,List.nil_append,nth,Option.some.injEq]at Nr;subst Nr;exact hr
  | i+2=>simp [nth]at Nr
 ·simp at hi hj
  match i,j,hi,hj,Og with
  | 0,1,_,_,_=>exact hd k Pl Ol
  | 1,0,_,_,_=>exact hd k Ol Pl
  | 0,0,_,_,h=>exact h rfl
  | 1,1,_,_,h=>exact h rfl
 ·simp at hi hm;omega
 ·simp at hi;subst hi;exact hz0 k hk
 ·simp at h1 h2
  obtain rfl:i=1:=by omega
  exact hz1 k hk
theorem xH {rs rs':List (Res U)} {M:List Nat} {us:List (Upd U)}(h:bJ rs M us=some rs'):rs'.length=rs.length:=(eS h).1
theorem oT.pack {rs rs':List (Res U)} {bE:List Nat} {X X':Nat→Nat→Prop} {w w':World} {v:Value} {k k':Option Kn} {us:List (Upd U)} {a b c:Res U} {kc kc':List (Key×Kn)}(h:oT rs bE X w ⟨v,k,us,[a,b],kc⟩ w' rs' X')(hl:rs'.length=rs.length) {Z:Nat→Prop}(hc:RS Z w' c)(hz:∀k,Z k→X' rs.length k∨X' (rs.length+1) k)
 (hk:KnO (rs'++ [c]) v k')(UZ:∀key k,(key,k)∈kc'→ej (rs'++ [c]) fr0 key k):oT rs bE X w ⟨v,k',us,[c],kc'⟩ w' rs' (fun i=>if i=rs.length then Z else X' i):=by
 refine⟨⟨fun i r hr=>?_,fun i j hi hj Og k Pl Ol=>?_⟩,h.ch,fun i hi hm=>?_,fun i hi k hk=>?_,fun i h1 h2 k hk=>?_,.inr hk,fun key k hm _=>UZ key k hm⟩
 ·by_cases hi:i<rs'.length
  ·rw [bu,if_pos hi]at hr
   simp only [if_neg (show ¬i=rs.length by omega)]
   exact h.sat.res i r (by rw [bu,if_pos hi];exact hr)
  ·have h1:=aR hr
   simp at h1
   obtain rfl:i=rs'.length:=by omega
   rw [bu,if_neg (by omega),Nat.sub_self]at hr
   obtain rfl:c=r:=by simpa [nth]using hr
   simpa [hl]using hc
 ·simp at hi hj
  have RN:∀j,j<rs'.length→Z k→¬X' j k:=fun j hj hZ hX=>by
   rcases hz k hZ with h1 | h1
   ·exact h.sat.dis rs.length j (by simp;omega) (by simp;omega) (by omega) k h1 hX
   ·exact h.sat.dis (rs.length+1) j (by simp;omega) (by simp;omega) (by omega) k h1 hX
  by_cases h1:i=rs.length
  ·have h2:¬j=rs.length:=by omega
   simp only [h1,if_true,if_neg h2]at Pl Ol
   exact RN j (by omega) Pl Ol
  ·simp only [if_neg h1]at Pl
   by_cases h2:j=rs.length
   ·simp only [h2,if_true]at Ol
    exact RN i (by omega) Ol Pl
   ·simp only [if_neg h2]at Ol
    exact h.sat.dis i j (by simp;omega) (by simp;omega) Og k Pl Ol
 ·simp only [if_neg (show ¬i=rs.length by omega)];exact h.same i hi hm
 ·by_cases h1:i=rs.length
  ·simp only [h1,if_true]at hk
   rcases hz k hk with h2 | h2
   ·exact .inr (h.new rs.length (by omega) (by simp) k h2)
   ·exact .inr (h.new (rs.length+1) (by omega) (by simp) k h2)
  ·simp only [if_neg h1]at hk;exact h.grow i hi k hk
 ·simp at h2
  obtain rfl:i=rs.length:=by omega
  simp only [if_true]at hk
  rcases hz k hk with h2 | h2
  ·exact h.new rs.length (by omega) (by simp) k h2
  ·exact h.new (rs.length+1) (by omega) (by simp) k h2
theorem bP.pack {rs rs':List (Res U)} {bE:List Nat} {X X':Nat→Nat→Prop} {w w':World} {Q:Ou U→Prop} {v:Value} {k k':Option Kn} {us:List (Upd U)} {a b c:Res U} {kc kc':List (Key×Kn)}(OU:bJ rs bE us=some rs')(h:oT rs bE X w ⟨v,k,us,[a,b],kc⟩ w' rs' X') {Z:Nat→Prop}(hc:RS Z w' c)(hz:∀k,Z k→X' rs.length k∨X' (rs.length+1) k)
 (hQ:Q ⟨v,k',us,[c],kc'⟩)(hk:KnO (rs'++ [c]) v k')(UZ:∀key k,(key,k)∈kc'→ej (rs'++ [c]) fr0 key k):bP rs bE X w Q (.returned v) w':=
 ⟨_,rs',_,fc hk,hQ,OU,h.pack (xH OU) hc hz hk UZ⟩
theorem KnO.pair {rs:List (Res U)} {a b:Value} {p:PK}(h:den U rs p=some a):KnO rs (.tuple #[a,b]) (some (.t [some p,none])):=
 ⟨_,rfl,fun j k hj=>by
  match j,hj with
  | 0,hj=>simp only [nth,Option.some.injEq]at hj;subst hj;exact⟨a,rfl,h⟩
  | 1,hj=>simp [nth]at hj
  | j+2,hj=>simp [nth]at hj⟩
theorem FF {rs:List (Res U)} {fr:Fr} {key:Key} {k:Kn}(h:ej rs fr key k):∀key' k',(key',k')∈ [(key,k)]→ej rs fr key' k':=fun key' k' hm=>by
 simp only [List.mem_singleton,Prod.mk.injEq]at hm
 obtain⟨rfl,rfl⟩:=hm
 exact h
theorem bP.KX {a a':Res U} {rest:List (Res U)} {u:Upd U} {X:Nat→Nat→Prop} {w w':World} {Q:Ou U→Prop} {v:Value} {k:Option Kn} {Z:Nat→Prop}(hs:Sat (a::rest) X w)(q:Ch (X 0) w w')(hu:cQ a u=some a')(hp:RS Z w' a')(hz:∀k,Z k→X 0 k∨w.heap.size≤k)(hQ:Q ⟨v,k,[u],[],[]⟩)(hk:KnO (a'::rest) v k):bP (a::rest) [0] X w Q (.returned v) w':=by
 refine⟨_,a'::rest,fun i=>if i=0 then Z else X i,fc hk,hQ,by simp [bJ,hu,nth,bR],⟨⟨fun i r hr=>?_,fun i j hi hj Og k Pl Ol=>?_⟩,q.mono fun k hk=>⟨0,by simp,hk⟩,fun i hi hm=>?_,fun i hi k hk=>?_,fun i h1 h2=>by simp at h1 h2;omega,.inr (by simpa using hk),fun _ k hk=>by cases hk⟩⟩
 ·rw [List.append_nil]at hr
  match i with
  | 0=>simp only [nth,Option.some.injEq]at hr;subst hr;exact hp
  | i+1=>exact(hs.res (i+1) r hr).ch q fun k hk h0=>hs.dis 0 (i+1) (by simp) (aR hr) (by omega) k h0 hk
 ·simp at hi hj
  have key:∀j,j<rest.length+1→j≠0→Z k→X j k→False:=fun j hj h0 hZ hX=>by
   rcases hz k hZ with h | h
   ·exact hs.dis 0 j (by simp) (by simpa using hj) (by omega) k h hX
   ·have:=hs.lt (i:=j) (by simpa using hj) k hX;omega
  by_cases h1:i=0
  ·have h2:¬j=0:=by omega
   simp only [h1,if_true,if_neg h2]at Pl Ol
   exact key j hj h2 Pl Ol
  ·simp only [if_neg h1]at Pl
   by_cases h2:j=0
   ·simp only [h2,if_true]at Ol
    exact key i hi h1 Ol Pl
   ·simp only [if_neg h2]at Ol
    exact hs.dis i j (by simpa using hi) (by simpa using hj) Og k Pl Ol
 ·simp at hm;simp only [if_neg hm]
 ·simp at hi;subst hi;exact hz k hk
theorem bP.first {t:Nat} {r:Nat→Nat} {s s':U.ty t} {rest:List (Res U)} {X:Nat→Nat→Prop} {w w':World} {Q:Ou U→Prop} {v:Value} {k:Option Kn} {Z:Nat→Prop}(hs:Sat (.ob t r s::rest) X w)(q:Ch (X 0) w w')(hp:U.pred t r s' Z w')(hz:∀k,Z k→X 0 k∨w.heap.size≤k)(hQ:Q ⟨v,k,[.ob t s'],[],[]⟩)(hk:KnO (.ob t r s'::rest) v k):bP (.ob t r s::rest) [0] X w Q (.returned v) w':=
 bP.KX (a':= .ob t r s') hs q (by simp [cQ]) hp hz hQ hk
end
end V
theorem Kw {g c mg:Nat} {A:Option Addr} {E:Pd} {Y Z:Nat→Prop} {w:World}(hb:RS (U:=Un) Y w (.blk g [.pointer (some (Addr.mk mg 0 none)),.slice A E.aA.length c,.int .i64 E.aD] 98))(hl:RS (U:=Un) Z w (.lst 4 true 157 A c E.aA))(hd:∀k,Y k→¬Z k)(hn:1≤E.n)(ok:E.Ok):
 ∃e,RS (U:=Un) (fun k=>k=g∨k=e) w (.ob 3 (fun i=>if i=0 then g else if i=1 then mg else if i=2 then e else c) E)∧Z e:=by
 obtain⟨hY,hY2,hb⟩:=hb
 obtain⟨ho,_⟩: @Own Ent _ w Z 157 A E.aA.length c E.aA∧∀k,Z k→k<w.heap.size:=hl
 rw [Pd.cI]at ho hb
 obtain⟨e,rfl,hZ,NO⟩:=ho.lt hn
 have he:e≠g:=fun h=>hd g hY (h▸hZ)
 refine⟨e,(⟨fun k=>Iff.rfl,⟨⟨_,hb⟩,?_,ok,he,hn⟩⟩:dI 3 (fun i=>if i=0 then g else if i=1 then mg else if i=2 then e else c) E (fun k=>k=g∨k=e) w),hZ⟩
 exact⟨⟨ho.own.1,fun a ha=>by injection ha with ha;rw [← ha]⟩,ho.len⟩
end
end Go.Proofs.YtfmcaoaaiganbaaGreatDoor
