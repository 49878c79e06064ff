/- Chapter 17, BuildAll: every code, all entries and all words of every script are the document's. -/
import Derived.Test.YtinhphjfnedhgaaGreatDoorG4
import Derived.KernelRfl
set_option linter.unusedVariables false
set_option linter.unusedSimpArgs false
namespace Go.Proofs.YtinhphjfnedhgaaGreatDoor
open Go.Proofs.Tryz (prog)
open Go Go.RowKit V
open Go.IntKind (i64 u32 u64)
section
set_option maxRecDepth 10000
set_option maxHeartbeats 1000000
theorem M9 {w:World}:
 Calls prog 125 #[] w fun e w'=>∃v,e= .returned v∧∃g:Nat,∃L:DgL,v= .pointer (some (Addr.mk g 0 none))∧oB w' g L Dg.new∧(∀k,L.X g k→w.heap.size≤k)∧Pu w w':=by
 refine BX ?_
 have hp:=Ch.refl (fun _=>False) w
 refine Calls.mono (GI) ?_
 rintro e wv ⟨_,rfl,rfl,N4⟩
 refine⟨_,_,_,_,_,_,_,_,rfl,?_⟩
 refine mkd fun gv Nw NC=>?_
 have Nr:=NC.blk
 have hp:=Ch.made (Ch.pu hp N4) NC
 exact⟨gv,⟨fun _=>False,none,0,0⟩,rfl,⟨⟨_,Nr⟩,Rd.nil,fun h=>h⟩,by have:=NC.num;have:=N4.size;rintro k (rfl | hk);omega;exact hk.elim,hp⟩
theorem Na {g:Nat} {L:DgL} {D:Dg} {Z:Nat→Prop} {wordsA:Option Addr} {wordsN:Nat} {wordsC:Nat} {l:List U32} {K:List Int} {w:World}(h:oB w g L D)(hz:Rd w Z wordsA wordsN wordsC l)(hk:iP w 0 K)(ok:D.Ok)(hlen:l.length≤1099511627776)(hzg:¬Z g)(Wp:¬g=0):
 Calls prog 135 #[(.pointer (some (Addr.mk g 0 none))),(.slice wordsA wordsN wordsC)] w fun e w'=>∃v,e= .returned v∧∃L':DgL,v= .tuple #[]∧oB w' g L' (D.add K l)∧(∀k,(L'.X g) k→(L.X g) k∨w.heap.size≤k)∧Ch (L.X g) w w':=by
 refine BZ (some (Addr.mk g 0 none)) _ _ _ ?_
 have hn:=ok.n
 have hz0:=hz
 have hg9:=h.lt g (.inl rfl)
 have hp:=Ch.refl (L.X g) w
 have OL:=h.lt
 have OG:=hz.lt
 have Og:=hk.lt
 obtain⟨⟨hT,hb⟩,hr,Sk⟩:=h
 have SI:=hr.lt
 refine ai _ rfl ⟨_,hb.at rfl,?_⟩
 refine ar (fun c1=>?_) (fun c1=>?_)
 ·exact⟨L,rfl,by have hc:(l.length:Int)>36028797018963968 - D.n:=(by have:=hz.len;rw [aq (by omega)]at c1;omega);rw [Dg.add,if_pos hc];exact⟨⟨_,hb⟩,hr,Sk⟩,fun k hk=>.inl hk,hp⟩
 ·have hzl:=hz.len
  have R0:=hr.len
  have hn:=ok.n
  have Sg:=ok.len
  have Xi:=hr.cap
  rw [aq (by omega)]at c1
  refine ai _ rfl ⟨_,hb.at rfl,ai _ rfl (aP hb (by simp) fun wv S3=>?_)⟩
  have hb:Blk wv g #[(.int .u32 D.st.a),(.int .u32 D.st.b),(.int .u32 D.st.c),(.int .u32 D.st.d),(.int .u32 D.st.e),(.int .u32 D.st.f),(.int .u32 D.st.g),(.int .u32 D.st.h),(.int .i64 (i64.wrap (D.n+((wordsN:Nat):Int)))),(.slice L.a L.n L.c)] _:=S3.blk.cast (by kernel_rfl)
  refine⟨bXU [] [3,7,12] wv.drew (fun _=>False),?_⟩
  have hb:=Blk.drew hb
  refine ai _ rfl ⟨.inl (by decide),_,_,_,hb.at rfl,ai _ rfl ⟨.inl (by decide),_,_,_,hb.at rfl,ai _ rfl ⟨.inl (by decide),_,_,_,hb.at rfl,⟨by omega,⟨by omega,?_⟩⟩⟩⟩⟩
  have hr:=(hr.ch S3.ch (fun k hx e=>(Sk) (e▸hx))).pu (Pu.aI _)
  rintro Q6 Xz Q4 Xx Q5 Xy
  have WS:=Rd.all hr Xz Xx Xy (by omega) (by omega)
  have hz:=(hz.ch S3.ch (fun k hx e=>(hzg) (e▸hx))).pu (Pu.aI _)
  have hp:=Ch.drew (Ch.call hp S3.ch (by exact fun k hk=>.inl (.inl hk)))
  refine LP nG WS (by omega) hz (by omega) (by omega) fun A_wv1 c_wv1 Nw abA NH=>?_
  refine bXU.r3 NH (by decide) ?_
  have hp:=Ch.pu hp NH
  have hz:=hz.pu NH
  have hk:=((hk.ch S3.ch (fun k hx e=>(Wp) (e▸hx))).pu (Pu.aI _)).pu NH
  have hb:=Pu.blk NH hb
  refine⟨fun mz leftA leftN leftC W=>∃Z_ll:Nat→Prop,∃ll:List U32,∃S:S8,∃n2:Int,mz=ll.length∧(bT K S ll=bT K D.st (D.waits++l))∧(¬Z_ll g)∧(ll.length≤1099511627800)∧(n2=D.n+l.length)∧Rd W Z_ll leftA leftN leftC ll∧Ch (L.X g) w W∧Rd W Z wordsA wordsN wordsC l∧iP W 0 K∧Blk W g #[(.int .u32 S.a),(.int .u32 S.b),(.int .u32 S.c),(.int .u32 S.d),(.int .u32 S.e),(.int .u32 S.f),(.int .u32 S.g),(.int .u32 S.h),(.int .i64 n2),(.slice L.a L.n L.c)] hT,⟨_,(fun k=>(L.Y k∨wv.drew.heap.size≤k)∧k<Nw.heap.size),(D.waits++l),D.st,_,rfl,rfl,(by rintro⟨h | h,_⟩;exact Sk h;exact absurd (Nat.lt_of_lt_of_le hg9 (Nat.le_trans S3.kept.size h)) (Nat.lt_irrefl _)),(by rw [List.length_append];omega),(by rw [aq (by omega)];omega),abA,hp,hz,hk,hb⟩,?_⟩
  rintro _ _ leftA leftN leftC Ny ⟨Z_ll,ll,S,n2,rfl,hI,hlz,hlb,R1,Pv,hp,hz,hk,hb⟩
  refine ar (fun c2=>?_) (fun c2=>?_)
  ·refine⟨bXU [] [4,7] Ny.drew (fun _=>False),?_⟩
   have hb:=Blk.drew hb
   have Pv:=Pv.pu (Pu.aI _)
   refine ai _ rfl ⟨.inl (by decide),_,_,_,_,_,_,_,_,⟨hb.at2 rfl,hb.at2 rfl,hb.at2 rfl,hb.at2 rfl,hb.at2 rfl,hb.at2 rfl,hb.at2 rfl,hb.at2 rfl⟩,⟨by omega,?_⟩⟩
   obtain⟨p3,Xp,hz3,Qq⟩:=Pv.u32 (by omega)
   refine ai p3 Xp ⟨.inl (by decide),_,_,_,_,_,_,_,_,_,_,_,_,_,_,_,_,⟨Qq 0 (by omega),Qq 1 (by omega),Qq 2 (by omega),Qq 3 (by omega),Qq 4 (by omega),Qq 5 (by omega),Qq 6 (by omega),Qq 7 (by omega),Qq 8 (by omega),Qq 9 (by omega),Qq 10 (by omega),Qq 11 (by omega),Qq 12 (by omega),Qq 13 (by omega),Qq 14 (by omega),Qq 15 (by omega)⟩,?_⟩
   have hk:=hk.pu (Pu.aI _)
   refine Calls.mono (Lc hk _ _ _ _ _ _ _ _ _ _ _ _ _ _ _ _ _ _ _ _ _ _ _ _) ?_
   rintro e NF ⟨_,rfl,rfl,N6⟩
   refine⟨_,_,_,_,_,_,_,_,rfl,?_⟩
   refine bXU.r3 N6 (by decide) ?_
   have hb:=Pu.blk N6 hb
   refine ai _ rfl (aP hb (by simp) fun NI Nx=>?_)
   have hb:Blk NI g #[(.int .u32 ((dV K (S8.mk S.a S.b S.c S.d S.e S.f S.g S.h) [((ll.getD 0 ⟨0⟩).v),((ll.getD 1 ⟨0⟩).v),((ll.getD 2 ⟨0⟩).v),((ll.getD 3 ⟨0⟩).v),((ll.getD 4 ⟨0⟩).v),((ll.getD 5 ⟨0⟩).v),((ll.getD 6 ⟨0⟩).v),((ll.getD 7 ⟨0⟩).v),((ll.getD 8 ⟨0⟩).v),((ll.getD 9 ⟨0⟩).v),((ll.getD 10 ⟨0⟩).v),((ll.getD 11 ⟨0⟩).v),((ll.getD 12 ⟨0⟩).v),((ll.getD 13 ⟨0⟩).v),((ll.getD 14 ⟨0⟩).v),((ll.getD 15 ⟨0⟩).v)]).a)),(.int .u32 ((dV K (S8.mk S.a S.b S.c S.d S.e S.f S.g S.h) [((ll.getD 0 ⟨0⟩).v),((ll.getD 1 ⟨0⟩).v),((ll.getD 2 ⟨0⟩).v),((ll.getD 3 ⟨0⟩).v),((ll.getD 4 ⟨0⟩).v),((ll.getD 5 ⟨0⟩).v),((ll.getD 6 ⟨0⟩).v),((ll.getD 7 ⟨0⟩).v),((ll.getD 8 ⟨0⟩).v),((ll.getD 9 ⟨0⟩).v),((ll.getD 10 ⟨0⟩).v),((ll.getD 11 ⟨0⟩).v),((ll.getD 12 ⟨0⟩).v),((ll.getD 13 ⟨0⟩).v),((ll.getD 14 ⟨0⟩).v),((ll.getD 15 ⟨0⟩).v)]).b)),(.int .u32 ((dV K (S8.mk S.a S.b S.c S.d S.e S.f S.g S.h) [((ll.getD 0 ⟨0⟩).v),((ll.getD 1 ⟨0⟩).v),((ll.getD 2 ⟨0⟩).v),((ll.getD 3 ⟨0⟩).v),((ll.getD 4 ⟨0⟩).v),((ll.getD 5 ⟨0⟩).v),((ll.getD 6 ⟨0⟩).v),((ll.getD 7 ⟨0⟩).v),((ll.getD 8 ⟨0⟩).v),((ll.getD 9 ⟨0⟩).v),((ll.getD 10 ⟨0⟩).v),((ll.getD 11 ⟨0⟩).v),((ll.getD 12 ⟨0⟩).v),((ll.getD 13 ⟨0⟩).v),((ll.getD 14 ⟨0⟩).v),((ll.getD 15 ⟨0⟩).v)]).c)),(.int .u32 ((dV K (S8.mk S.a S.b S.c S.d S.e S.f S.g S.h) [((ll.getD 0 ⟨0⟩).v),((ll.getD 1 ⟨0⟩).v),((ll.getD 2 ⟨0⟩).v),((ll.getD 3 ⟨0⟩).v),((ll.getD 4 ⟨0⟩).v),((ll.getD 5 ⟨0⟩).v),((ll.getD 6 ⟨0⟩).v),((ll.getD 7 ⟨0⟩).v),((ll.getD 8 ⟨0⟩).v),((ll.getD 9 ⟨0⟩).v),((ll.getD 10 ⟨0⟩).v),((ll.getD 11 ⟨0⟩).v),((ll.getD 12 ⟨0⟩).v),((ll.getD 13 ⟨0⟩).v),((ll.getD 14 ⟨0⟩).v),((ll.getD 15 ⟨0⟩).v)]).d)),(.int .u32 ((dV K (S8.mk S.a S.b S.c S.d S.e S.f S.g S.h) [((ll.getD 0 ⟨0⟩).v),((ll.getD 1 ⟨0⟩).v),((ll.getD 2 ⟨0⟩).v),((ll.getD 3 ⟨0⟩).v),((ll.getD 4 ⟨0⟩).v),((ll.getD 5 ⟨0⟩).v),((ll.getD 6 ⟨0⟩).v),((ll.getD 7 ⟨0⟩).v),((ll.getD 8 ⟨0⟩).v),((ll.getD 9 ⟨0⟩).v),((ll.getD 10 ⟨0⟩).v),((ll.getD 11 ⟨0⟩).v),((ll.getD 12 ⟨0⟩).v),((ll.getD 13 ⟨0⟩).v),((ll.getD 14 ⟨0⟩).v),((ll.getD 15 ⟨0⟩).v)]).e)),(.int .u32 ((dV K (S8.mk S.a S.b S.c S.d S.e S.f S.g S.h) [((ll.getD 0 ⟨0⟩).v),((ll.getD 1 ⟨0⟩).v),((ll.getD 2 ⟨0⟩).v),((ll.getD 3 ⟨0⟩).v),((ll.getD 4 ⟨0⟩).v),((ll.getD 5 ⟨0⟩).v),((ll.getD 6 ⟨0⟩).v),((ll.getD 7 ⟨0⟩).v),((ll.getD 8 ⟨0⟩).v),((ll.getD 9 ⟨0⟩).v),((ll.getD 10 ⟨0⟩).v),((ll.getD 11 ⟨0⟩).v),((ll.getD 12 ⟨0⟩).v),((ll.getD 13 ⟨0⟩).v),((ll.getD 14 ⟨0⟩).v),((ll.getD 15 ⟨0⟩).v)]).f)),(.int .u32 ((dV K (S8.mk S.a S.b S.c S.d S.e S.f S.g S.h) [((ll.getD 0 ⟨0⟩).v),((ll.getD 1 ⟨0⟩).v),((ll.getD 2 ⟨0⟩).v),((ll.getD 3 ⟨0⟩).v),((ll.getD 4 ⟨0⟩).v),((ll.getD 5 ⟨0⟩).v),((ll.getD 6 ⟨0⟩).v),((ll.getD 7 ⟨0⟩).v),((ll.getD 8 ⟨0⟩).v),((ll.getD 9 ⟨0⟩).v),((ll.getD 10 ⟨0⟩).v),((ll.getD 11 ⟨0⟩).v),((ll.getD 12 ⟨0⟩).v),((ll.getD 13 ⟨0⟩).v),((ll.getD 14 ⟨0⟩).v),((ll.getD 15 ⟨0⟩).v)]).g)),(.int .u32 ((dV K (S8.mk S.a S.b S.c S.d S.e S.f S.g S.h) [((ll.getD 0 ⟨0⟩).v),((ll.getD 1 ⟨0⟩).v),((ll.getD 2 ⟨0⟩).v),((ll.getD 3 ⟨0⟩).v),((ll.getD 4 ⟨0⟩).v),((ll.getD 5 ⟨0⟩).v),((ll.getD 6 ⟨0⟩).v),((ll.getD 7 ⟨0⟩).v),((ll.getD 8 ⟨0⟩).v),((ll.getD 9 ⟨0⟩).v),((ll.getD 10 ⟨0⟩).v),((ll.getD 11 ⟨0⟩).v),((ll.getD 12 ⟨0⟩).v),((ll.getD 13 ⟨0⟩).v),((ll.getD 14 ⟨0⟩).v),((ll.getD 15 ⟨0⟩).v)]).h)),(.int .i64 n2),(.slice L.a L.n L.c)] _:=Nx.blk.cast (by kernel_rfl)
   refine bXU.grow Nx.ch ?_
   refine⟨by omega,?_⟩
   have Pv:=(Pv.pu N6).ch Nx.ch (fun k hx e=>(hlz) (e▸hx))
   rintro SV Xw SS Xu SU Xv
   have WR:=Rd.from_ (lo:=16) Pv Xw Xu Xv (by omega) (by have:=Pv.cap;omega)
   have hp:=Ch.call (Ch.pu (Ch.drew hp) N6) Nx.ch (by exact fun k hk=>.inl (.inl hk))
   have hz:=((hz.pu (Pu.aI _)).pu N6).ch Nx.ch (fun k hx e=>(hzg) (e▸hx))
   have hk:=(hk.pu N6).ch Nx.ch (fun k hx e=>(Wp) (e▸hx))
   exact⟨_,by rw [List.length_drop];have:=Pv.len;omega,Z_ll,(ll.drop 16),(dV K S ((ll.take 16).map U32.v)),n2,rfl,(by rw [← hI,← eQ (by have:=Pv.len;omega)]),hlz,(by rw [List.length_drop];omega),R1,WR,hp,hz,hk,hb.cast (lF (congrArg (Value.int .u32) (by rw [kp (by have:=Pv.len;omega)])) (congrArg (Value.int .u32) (by rw [kp (by have:=Pv.len;omega)])) (congrArg (Value.int .u32) (by rw [kp (by have:=Pv.len;omega)])) (congrArg (Value.int .u32) (by rw [kp (by have:=Pv.len;omega)])) (congrArg (Value.int .u32) (by rw [kp (by have:=Pv.len;omega)])) (congrArg (Value.int .u32) (by rw [kp (by have:=Pv.len;omega)])) (congrArg (Value.int .u32) (by rw [kp (by have:=Pv.len;omega)])) (congrArg (Value.int .u32) (by rw [kp (by have:=Pv.len;omega)])) (rfl) (rfl))⟩
  ·have VE:=hp.size
   have hog:¬Ny.heap.size≤g:=by omega
   refine og nG Pv (by omega) (by omega) fun A_wv3 Qt NF Pz N6=>?_
   have hb:=Pu.blk N6 hb
   refine ai _ rfl (aP hb (by simp) fun NI Nx=>?_)
   have hb:Blk NI g #[(.int .u32 S.a),(.int .u32 S.b),(.int .u32 S.c),(.int .u32 S.d),(.int .u32 S.e),(.int .u32 S.f),(.int .u32 S.g),(.int .u32 S.h),(.int .i64 n2),(.slice A_wv3 leftN Qt)] _:=Nx.blk.cast (by kernel_rfl)
   have Pz:=Pz.ch Nx.ch (fun k hx e=>hog (e▸hx.1))
   have hp:=Ch.call (Ch.pu hp N6) Nx.ch (by exact fun k hk=>.inl (.inl hk))
   exact⟨⟨fun k=>Ny.heap.size≤k∧k<NI.heap.size,A_wv3,leftN,Qt⟩,rfl,by have hn:=ok.n;have hc:¬(l.length:Int)>36028797018963968 - D.n:=(by have:=hz0.len;omega);have ha:bT K D.st (D.waits++l)=(S,ll):=(by rw [← hI,dE (by have:=Pv.len;omega)]);rw [Dg.add,if_neg hc,ha];exact⟨⟨_,Blk.cast hb (by rw [← R1])⟩,(Pz).Li (fun k hk=>⟨hk.1.1,hk.2⟩) (fun k hk=>hk.2),fun h=>absurd h.1 hog⟩,fun k hk=>hk.elim (fun e=>.inl (.inl e)) (fun h=>.inr (Nat.le_trans VE h.1)),hp⟩
theorem Mi {g:Nat} {L:DgL} {D:Dg} {w:World}(h:oB w g L D)(ok:D.Ok):
 Calls prog 126 #[(.pointer (some (Addr.mk g 0 none)))] w fun e w'=>∃v,e= .returned v∧v= .agg (aY D.save)∧Pu w w':=by
 refine zq (some (Addr.mk g 0 none)) ?_
 have RZ:=h.rd.len
 have Sg:=ok.len
 have hp:=Ch.refl (fun _=>False) w
 have OL:=h.lt
 obtain⟨⟨hT,hb⟩,hr,Sk⟩:=h
 have SI:=hr.lt
 refine mkd fun gv wv NC=>?_
 have NR:=NC.lo hp
 have acM:=NC.ne hb
 have Nr:Blk wv gv (aY (List.replicate 26 0)) _:=NC.blk.cast (dM _ _)
 have hp:=Ch.made hp NC
 have hb:=Made.old NC hb
 refine mkd fun NB Nw NJ=>?_
 have NO:=NJ.lo hp
 have QH:=NJ.ne hb
 have NS:=NJ.ne Nr
 have Ns:Blk Nw NB (aY (List.replicate 26 0)) _:=NJ.blk.cast (dM _ _)
 refine⟨bXU [] [] Nw.drew (fun _=>False),?_⟩
 refine⟨by omega,?_⟩
 rintro _ rfl _ rfl _ rfl
 refine ai _ rfl ?_
 rintro _ rfl _ rfl _ rfl
 have Ns:=Blk.drew Ns
 have hb:=Blk.drew (Made.old NJ hb)
 refine n9 nM Ns (o:=0) rfl (by(simp;done)) (dA.pre (Z:=fun _=>True) (o:=0) (r:= [D.st.a,D.st.b,D.st.c,D.st.d,D.st.e,D.st.f,D.st.g,D.st.h]) hb trivial rfl (by(simp;done)) (by rfl) (by rfl)) (by(simp;done)) fun Ny Ot=>?_
 have Ns:=Ot.blk
 refine bXU.r3 Ot.ch (by decide) ?_
 refine⟨bXU [] [3,10] Ny.drew (fun _=>False),?_⟩
 have hb:=Blk.drew (Ch.blk Ot.ch hb (QH))
 have Ns:=Blk.drew Ns
 refine ai _ rfl ⟨.inl (by decide),_,hb.at rfl,ai _ rfl ⟨.inl (by decide),_,hb.at rfl,⟨by decide,cn (i:=8) Ns (by(simp;done)) fun NF ND=>?_⟩⟩⟩
 have Ns:=ND.blk
 refine bXU.r3 ND.ch (by decide) ?_
 refine⟨by decide,cn (i:=9) Ns (by(simp;done)) fun NI Nx=>?_⟩
 have Ns:=Nx.blk
 refine bXU.grow Nx.ch ?_
 refine⟨bXU [] [4] NI.drew (fun _=>False),?_⟩
 refine⟨by omega,?_⟩
 rintro _ rfl _ rfl _ rfl
 have hb:=Blk.drew (Ch.blk Nx.ch (Ch.blk ND.ch hb (QH)) (QH))
 refine ai _ rfl ⟨.inl (by decide),_,_,_,hb.at rfl,?_⟩
 have Ns:=Blk.drew Ns
 have hr:=(((((((hr.pu NC.pu).pu NJ.pu).pu (Pu.aI _)).ch Ot.ch (fun k hx e=>(fun hx=>absurd (SI _ hx) (Nat.not_lt.2 NO)) (e▸hx))).pu (Pu.aI _)).ch ND.ch (fun k hx e=>(fun hx=>absurd (SI _ hx) (Nat.not_lt.2 NO)) (e▸hx))).ch Nx.ch (fun k hx e=>(fun hx=>absurd (SI _ hx) (Nat.not_lt.2 NO)) (e▸hx))).pu (Pu.aI _)
 refine n9 nM Ns (o:=10) rfl (by(simp;done)) (hr).ints (by(simp;omega)) fun NW Oq=>?_
 have Ns:=Oq.blk
 refine bXU.r3 Oq.ch (by decide) ?_
 have Nr:=Ch.blk Oq.ch (Blk.drew (Ch.blk Nx.ch (Ch.blk ND.ch (Blk.drew (Ch.blk Ot.ch (Blk.drew (Made.old NJ Nr)) (NS))) (NS)) (NS))) (NS)
 refine⟨aY (fI (((fI (List.replicate 26 0) 0 ([D.st.a,D.st.b,D.st.c,D.st.d,D.st.e,D.st.f,D.st.g,D.st.h].take (min (8 - 0) ((Int.toNat 8) - 0)))).set 8 (u32.wrap ((u64.wrap D.n:Int).fdiv (2 ^ 32)))).set 9 (u32.wrap D.n)) 10 ((List.map U32.v D.waits).take (min L.n (26 - (Int.toNat 10))))),Ns.oN (by(simp;done)),⟨by rw [dL];(simp;done),lg,mj Nr (by(simp;done)) fun NT Of=>?_⟩⟩
 have Nr:=Of.blk
 refine⟨aY (fI (((fI (List.replicate 26 0) 0 ([D.st.a,D.st.b,D.st.c,D.st.d,D.st.e,D.st.f,D.st.g,D.st.h].take (min (8 - 0) ((Int.toNat 8) - 0)))).set 8 (u32.wrap ((u64.wrap D.n:Int).fdiv (2 ^ 32)))).set 9 (u32.wrap D.n)) 10 ((List.map U32.v D.waits).take (min L.n (26 - (Int.toNat 10))))),Nr.oN (by(simp;done)),?_⟩
 have hp:=Ch.call (Ch.call (Ch.drew (Ch.call (Ch.call (Ch.drew (Ch.call (Ch.drew (Ch.made hp NJ)) Ot.ch (by exact fun k e=>.inr (e▸NO)))) ND.ch (by exact fun k e=>.inr (e▸NO))) Nx.ch (by exact fun k e=>.inr (e▸NO)))) Oq.ch (by exact fun k e=>.inr (e▸NO))) Of.ch (by exact fun k e=>.inr (e▸NR))
 exact⟨congrArg (fun l=>Value.agg (aY l)) (by exact Dg.save_eq ok (Dg.Gy ok.n) (u32_eq _) RZ),hp⟩
theorem Lk {w:World}:
 Calls prog 101 #[] w fun e w'=>∃v,e= .returned v∧v= .agg #[(.int .u32 S8.first.a),(.int .u32 S8.first.b),(.int .u32 S8.first.c),(.int .u32 S8.first.d),(.int .u32 S8.first.e),(.int .u32 S8.first.f),(.int .u32 S8.first.g),(.int .u32 S8.first.h),(.slice none 0 0),(.int .i64 0)]∧Pu w w':=by
 refine xa ?_
 have hp:=Ch.refl (fun _=>False) w
 refine mkd fun gv wv NC=>?_
 have NR:=NC.lo hp
 have Nr:=NC.blk
 refine Calls.mono (yk) ?_
 rintro e Nw ⟨_,rfl,rfl,NH⟩
 have Nr:=Pu.blk NH Nr
 refine⟨_,_,_,_,_,_,_,_,rfl,bH Nr rfl fun Ny Ot=>?_⟩
 have Nr:=Ot.blk
 refine⟨_,_,_,_,_,_,_,_,_,_,_,_,⟨Nr.at rfl,Nr.at rfl,Nr.at rfl,Nr.at rfl,Nr.at rfl,Nr.at rfl,Nr.at rfl,Nr.at rfl,Nr.at rfl,Nr.at rfl⟩,?_⟩
 have hp:=Ch.call (Ch.pu (Ch.made hp NC) NH) Ot.ch (by exact fun k e=>.inr (e▸NR))
 exact⟨rfl,hp⟩
theorem Dc {Zd:Nat→Prop} {diA:Option Addr} {diN:Nat} {diC:Nat} {wl:List U32} {w:World}(hd:Rd w Zd diA diN diC wl)(da:Int)(db:Int)(dc:Int)(dd:Int)(de:Int)(df:Int)(dg:Int)(dh:Int)(dj:Int)(ok:(Dg.mk (S8.mk da db dc dd de df dg dh) dj wl).Ok):
 Calls prog 158 #[(.agg #[(.int .u32 da),(.int .u32 db),(.int .u32 dc),(.int .u32 dd),(.int .u32 de),(.int .u32 df),(.int .u32 dg),(.int .u32 dh),(.slice diA diN diC),(.int .i64 dj)])] w fun e w'=>∃v,e= .returned v∧v= .agg (aY (Dg.mk (S8.mk da db dc dd de df dg dh) dj wl).save)∧Pu w w':=by
 refine uy _ _ _ _ _ _ _ _ _ _ _ _ ?_
 have RZ:=hd.len
 have Sg:wl.length=(dj % 16).toNat:=ok.len
 have hn:0≤dj∧dj≤36028797018963968:=ok.n
 have hp:=Ch.refl (fun _=>False) w
 have OR:=hd.lt
 refine mkd fun gv wv NC=>?_
 have Nr:=NC.blk
 have hp:=Ch.made hp NC
 refine mkd fun NB Nw NJ=>?_
 have NO:=NJ.lo hp
 have NS:=NJ.ne Nr
 have Ns:Blk Nw NB (aY (List.replicate 26 0)) _:=NJ.blk.cast (dM _ _)
 have hp:=Ch.made hp NJ
 have Nr:=Made.old NJ Nr
 refine mkd fun NZ Ny NM=>?_
 have NN:=NM.lo hp
 have NY:=NM.ne Nr
 have ne_gv1_gv2:=NM.ne Ns
 have Nt:Blk Ny NZ (aY (List.replicate 26 0)) _:=NM.blk.cast (dM _ _)
 rintro _ rfl
 have hp:=Ch.made hp NM
 have hd:=((hd.pu NC.pu).pu NJ.pu).pu NM.pu
 have Nr:=Made.old NM Nr
 have Ns:=Made.old NM Ns
 refine⟨fun mz i1 W=>Ch (fun _=>False) w W∧Rd W Zd diA diN diC wl∧(∃T,Blk W gv #[(.int .u32 da),(.int .u32 db),(.int .u32 dc),(.int .u32 dd),(.int .u32 de),(.int .u32 df),(.int .u32 dg),(.int .u32 dh),(.slice diA diN diC),(.int .i64 dj)] T)∧(∃T,Blk W NB (aY (List.replicate 26 0)) T)∧((mz=8∧i1=0∧(∃T,Blk W NZ (aY (List.replicate 26 0)) T))∨(mz=7∧i1=1∧(∃T,Blk W NZ (aY ((List.replicate 26 0).set 0 da)) T))∨(mz=6∧i1=2∧(∃T,Blk W NZ (aY (((List.replicate 26 0).set 0 da).set 1 db)) T))∨(mz=5∧i1=3∧(∃T,Blk W NZ (aY ((((List.replicate 26 0).set 0 da).set 1 db).set 2 dc)) T))∨(mz=4∧i1=4∧(∃T,Blk W NZ (aY (((((List.replicate 26 0).set 0 da).set 1 db).set 2 dc).set 3 dd)) T))∨(mz=3∧i1=5∧(∃T,Blk W NZ (aY ((((((List.replicate 26 0).set 0 da).set 1 db).set 2 dc).set 3 dd).set 4 de)) T))∨(mz=2∧i1=6∧(∃T,Blk W NZ (aY (((((((List.replicate 26 0).set 0 da).set 1 db).set 2 dc).set 3 dd).set 4 de).set 5 df)) T))∨(mz=1∧i1=7∧(∃T,Blk W NZ (aY ((((((((List.replicate 26 0).set 0 da).set 1 db).set 2 dc).set 3 dd).set 4 de).set 5 df).set 6 dg)) T))∨(mz=0∧i1=8∧(∃T,Blk W NZ (aY (((((((((List.replicate 26 0).set 0 da).set 1 db).set 2 dc).set 3 dd).set 4 de).set 5 df).set 6 dg).set 7 dh)) T))),⟨_,hp,hd,⟨_,Nr⟩,⟨_,Ns⟩,.inl ⟨rfl,rfl,⟨_,Nt⟩⟩⟩,?_⟩
 rintro _ _ i1 NF ⟨hp,hd,⟨_,Nr⟩,⟨_,Ns⟩,hU⟩
 rcases hU with⟨rfl,rfl,⟨_,Nt⟩⟩ | ⟨rfl,rfl,⟨_,Nt⟩⟩ | ⟨rfl,rfl,⟨_,Nt⟩⟩ | ⟨rfl,rfl,⟨_,Nt⟩⟩ | ⟨rfl,rfl,⟨_,Nt⟩⟩ | ⟨rfl,rfl,⟨_,Nt⟩⟩ | ⟨rfl,rfl,⟨_,Nt⟩⟩ | ⟨rfl,rfl,⟨_,Nt⟩⟩ | ⟨rfl,rfl,⟨_,Nt⟩⟩
 ·refine aU ⟨by decide,⟨_,Nr.at2 rfl,⟨by decide,cn (i:=0) Nt (by(simp;done)) fun NI Nx=>?_⟩⟩⟩
  have Nt:=Nx.blk
  rintro _ rfl
  have hp:=Ch.call hp Nx.ch (by exact fun k e=>.inr (e▸NN))
  have hd:=hd.ch Nx.ch (fun k hx e=>(fun hx=>absurd (OR _ hx) (Nat.not_lt.2 NN)) (e▸hx))
  have Nr:=Ch.blk Nx.ch Nr (NY)
  have Ns:=Ch.blk Nx.ch Ns (ne_gv1_gv2)
  exact⟨7,by decide,hp,hd,⟨_,Nr⟩,⟨_,Ns⟩,.inr (.inl ⟨rfl,rfl,⟨_,Nt⟩⟩)⟩
 ·refine aU ⟨by decide,⟨_,Nr.at2 rfl,⟨by decide,cn (i:=1) Nt (by(simp;done)) fun NI Nx=>?_⟩⟩⟩
  have Nt:=Nx.blk
  rintro _ rfl
  have hp:=Ch.call hp Nx.ch (by exact fun k e=>.inr (e▸NN))
  have hd:=hd.ch Nx.ch (fun k hx e=>(fun hx=>absurd (OR _ hx) (Nat.not_lt.2 NN)) (e▸hx))
  have Nr:=Ch.blk Nx.ch Nr (NY)
  have Ns:=Ch.blk Nx.ch Ns (ne_gv1_gv2)
  exact⟨6,by decide,hp,hd,⟨_,Nr⟩,⟨_,Ns⟩,.inr (.inr (.inl ⟨rfl,rfl,⟨_,Nt⟩⟩))⟩
 ·refine aU ⟨by decide,⟨_,Nr.at2 rfl,⟨by decide,cn (i:=2) Nt (by(simp;done)) fun NI Nx=>?_⟩⟩⟩
  have Nt:=Nx.blk
  rintro _ rfl
  have hp:=Ch.call hp Nx.ch (by exact fun k e=>.inr (e▸NN))
  have hd:=hd.ch Nx.ch (fun k hx e=>(fun hx=>absurd (OR _ hx) (Nat.not_lt.2 NN)) (e▸hx))
  have Nr:=Ch.blk Nx.ch Nr (NY)
  have Ns:=Ch.blk Nx.ch Ns (ne_gv1_gv2)
  exact⟨5,by decide,hp,hd,⟨_,Nr⟩,⟨_,Ns⟩,.inr (.inr (.inr (.inl ⟨rfl,rfl,⟨_,Nt⟩⟩)))⟩
 ·refine aU ⟨by decide,⟨_,Nr.at2 rfl,⟨by decide,cn (i:=3) Nt (by(simp;done)) fun NI Nx=>?_⟩⟩⟩
  have Nt:=Nx.blk
  rintro _ rfl
  have hp:=Ch.call hp Nx.ch (by exact fun k e=>.inr (e▸NN))
  have hd:=hd.ch Nx.ch (fun k hx e=>(fun hx=>absurd (OR _ hx) (Nat.not_lt.2 NN)) (e▸hx))
  have Nr:=Ch.blk Nx.ch Nr (NY)
  have Ns:=Ch.blk Nx.ch Ns (ne_gv1_gv2)
  exact⟨4,by decide,hp,hd,⟨_,Nr⟩,⟨_,Ns⟩,.inr (.inr (.inr (.inr (.inl ⟨rfl,rfl,⟨_,Nt⟩⟩))))⟩
 ·refine aU ⟨by decide,⟨_,Nr.at2 rfl,⟨by decide,cn (i:=4) Nt (by(simp;done)) fun NI Nx=>?_⟩⟩⟩
  have Nt:=Nx.blk
  rintro _ rfl
  have hp:=Ch.call hp Nx.ch (by exact fun k e=>.inr (e▸NN))
  have hd:=hd.ch Nx.ch (fun k hx e=>(fun hx=>absurd (OR _ hx) (Nat.not_lt.2 NN)) (e▸hx))
  have Nr:=Ch.blk Nx.ch Nr (NY)
  have Ns:=Ch.blk Nx.ch Ns (ne_gv1_gv2)
  exact⟨3,by decide,hp,hd,⟨_,Nr⟩,⟨_,Ns⟩,.inr (.inr (.inr (.inr (.inr (.inl ⟨rfl,rfl,⟨_,Nt⟩⟩)))))⟩
 ·refine aU ⟨by decide,⟨_,Nr.at2 rfl,⟨by decide,cn (i:=5) Nt (by(simp;done)) fun NI Nx=>?_⟩⟩⟩
  have Nt:=Nx.blk
  rintro _ rfl
  have hp:=Ch.call hp Nx.ch (by exact fun k e=>.inr (e▸NN))
  have hd:=hd.ch Nx.ch (fun k hx e=>(fun hx=>absurd (OR _ hx) (Nat.not_lt.2 NN)) (e▸hx))
  have Nr:=Ch.blk Nx.ch Nr (NY)
  have Ns:=Ch.blk Nx.ch Ns (ne_gv1_gv2)
  exact⟨2,by decide,hp,hd,⟨_,Nr⟩,⟨_,Ns⟩,.inr (.inr (.inr (.inr (.inr (.inr (.inl ⟨rfl,rfl,⟨_,Nt⟩⟩))))))⟩
 ·refine aU ⟨by decide,⟨_,Nr.at2 rfl,⟨by decide,cn (i:=6) Nt (by(simp;done)) fun NI Nx=>?_⟩⟩⟩
  have Nt:=Nx.blk
  rintro _ rfl
  have hp:=Ch.call hp Nx.ch (by exact fun k e=>.inr (e▸NN))
  have hd:=hd.ch Nx.ch (fun k hx e=>(fun hx=>absurd (OR _ hx) (Nat.not_lt.2 NN)) (e▸hx))
  have Nr:=Ch.blk Nx.ch Nr (NY)
  have Ns:=Ch.blk Nx.ch Ns (ne_gv1_gv2)
  exact⟨1,by decide,hp,hd,⟨_,Nr⟩,⟨_,Ns⟩,.inr (.inr (.inr (.inr (.inr (.inr (.inr (.inl ⟨rfl,rfl,⟨_,Nt⟩⟩)))))))⟩
 ·refine aU ⟨by decide,⟨_,Nr.at2 rfl,⟨by decide,cn (i:=7) Nt (by(simp;done)) fun NI Nx=>?_⟩⟩⟩
  have Nt:=Nx.blk
  rintro _ rfl
  have hp:=Ch.call hp Nx.ch (by exact fun k e=>.inr (e▸NN))
  have hd:=hd.ch Nx.ch (fun k hx e=>(fun hx=>absurd (OR _ hx) (Nat.not_lt.2 NN)) (e▸hx))
  have Nr:=Ch.blk Nx.ch Nr (NY)
  have Ns:=Ch.blk Nx.ch Ns (ne_gv1_gv2)
  exact⟨0,by decide,hp,hd,⟨_,Nr⟩,⟨_,Ns⟩,.inr (.inr (.inr (.inr (.inr (.inr (.inr (.inr (⟨rfl,rfl,⟨_,Nt⟩⟩))))))))⟩
 ·refine gM ⟨_,Nr.at rfl,⟨by decide,cn (i:=8) Nt (by(simp;done)) fun NI Nx=>?_⟩⟩
  have Nt:=Nx.blk
  have Nr:=Ch.blk Nx.ch Nr (NY)
  refine⟨_,Nr.at rfl,⟨by decide,cn (i:=9) Nt (by(simp;done)) fun NW Oq=>?_⟩⟩
  have Nt:=Oq.blk
  rintro _ rfl
  have hp:=Ch.call (Ch.call hp Nx.ch (by exact fun k e=>.inr (e▸NN))) Oq.ch (by exact fun k e=>.inr (e▸NN))
  have hd:=(hd.ch Nx.ch (fun k hx e=>(fun hx=>absurd (OR _ hx) (Nat.not_lt.2 NN)) (e▸hx))).ch Oq.ch (fun k hx e=>(fun hx=>absurd (OR _ hx) (Nat.not_lt.2 NN)) (e▸hx))
  have Nr:=Ch.blk Oq.ch Nr (NY)
  have Ns:=Ch.blk Oq.ch (Ch.blk Nx.ch Ns (ne_gv1_gv2)) (ne_gv1_gv2)
  refine⟨fun mz i3 W=>mz=(16 - i3).toNat∧(0≤i3∧i3≤diN)∧Ch (fun _=>False) w W∧Rd W Zd diA diN diC wl∧(∃T,Blk W gv #[(.int .u32 da),(.int .u32 db),(.int .u32 dc),(.int .u32 dd),(.int .u32 de),(.int .u32 df),(.int .u32 dg),(.int .u32 dh),(.slice diA diN diC),(.int .i64 dj)] T)∧(∃T,Blk W NB (aY (List.replicate 26 0)) T)∧(∃T,Blk W NZ (aY (fI (((((((((((List.replicate 26 0).set 0 da).set 1 db).set 2 dc).set 3 dd).set 4 de).set 5 df).set 6 dg).set 7 dh).set 8 (u32.wrap ((u64.wrap dj:Int).fdiv (2 ^ 32)))).set 9 (u32.wrap (u64.wrap dj))) 10 ((wl.map U32.v).take i3.toNat))) T),⟨_,rfl,(by omega),hp,hd,⟨_,Nr⟩,⟨_,Ns⟩,⟨_,Nt.cast (congrArg aY (by rfl))⟩⟩,?_⟩
  rintro _ _ i3 NT ⟨rfl,h0,hp,hd,⟨_,Nr⟩,⟨_,Ns⟩,⟨_,Nt⟩⟩
  refine⟨_,_,_,Nr.at rfl,?_⟩
  refine ar (fun c1=>?_) (fun c1=>?_)
  ·refine⟨_,_,_,Nr.at rfl,?_⟩
   obtain⟨p2,x2,UW,hx2,Wd,Rt⟩:=hd.ld (i:=i3) (by omega) (by omega)
   refine⟨by constructor<;>omega,ai p2 UW ⟨_,Rt 0 (by decide),⟨by(simp only [IntKind.wrap_i64];omega),kq Nt (by(simp only [ya,List.length_set,List.length_replicate,IntKind.wrap_i64];omega)) fun NU Py=>?_⟩⟩⟩
   have Nt:=Py.blk
   rintro _ rfl
   have hp:=Ch.call hp Py.ch (by exact fun k e=>.inr (e▸NN))
   have hd:=hd.ch Py.ch (fun k hx e=>(fun hx=>absurd (OR _ hx) (Nat.not_lt.2 NN)) (e▸hx))
   have Nr:=Ch.blk Py.ch Nr (NY)
   have Ns:=Ch.blk Py.ch Ns (ne_gv1_gv2)
   exact⟨_,by rw [IntKind.wrap_i64];omega,rfl,by rw [IntKind.wrap_i64];omega,hp,hd,⟨_,Nr⟩,⟨_,Ns⟩,⟨_,Nt.cast (congrArg aY (by exact Ec (by omega) hx2))⟩⟩
  ·refine⟨aY (fI (((((((((((List.replicate 26 0).set 0 da).set 1 db).set 2 dc).set 3 dd).set 4 de).set 5 df).set 6 dg).set 7 dh).set 8 (u32.wrap ((u64.wrap dj:Int).fdiv (2 ^ 32)))).set 9 (u32.wrap (u64.wrap dj))) 10 ((wl.map U32.v).take i3.toNat)),Nt.oN (by(simp;done)),⟨by rw [dL];(simp;done),lg,mj Ns (by(simp;done)) fun NU Py=>?_⟩⟩
   have Ns:=Py.blk
   refine⟨aY (fI (((((((((((List.replicate 26 0).set 0 da).set 1 db).set 2 dc).set 3 dd).set 4 de).set 5 df).set 6 dg).set 7 dh).set 8 (u32.wrap ((u64.wrap dj:Int).fdiv (2 ^ 32)))).set 9 (u32.wrap (u64.wrap dj))) 10 ((wl.map U32.v).take i3.toNat)),Ns.oN (by(simp;done)),?_⟩
   have hp:=Ch.call hp Py.ch (by exact fun k e=>.inr (e▸NO))
   exact⟨congrArg (fun l=>Value.agg (aY l)) (by have e:=i3;have e2:i3.toNat=min diN 16:=(by omega);rw [e2];refine Dg.save_eq ok (Dg.Gy hn) ?_ RZ;rw [ig (by omega),u32_eq]),hp⟩
theorem Ll {Zd:Nat→Prop} {diA:Option Addr} {diN:Nat} {diC:Nat} {wl:List U32} {Z:Nat→Prop} {wordsA:Option Addr} {wordsN:Nat} {wordsC:Nat} {l:List U32} {K:List Int} {w:World}(hd:Rd w Zd diA diN diC wl)(hz:Rd w Z wordsA wordsN wordsC l)(hk:iP w 1 K)(da:Int)(db:Int)(dc:Int)(dd:Int)(de:Int)(df:Int)(dg:Int)(dh:Int)(dj:Int)(ok:(Dg.mk (S8.mk da db dc dd de df dg dh) dj wl).Ok)(hlen:l.length≤1099511627776):
 Calls prog 161 #[(.agg #[(.int .u32 da),(.int .u32 db),(.int .u32 dc),(.int .u32 dd),(.int .u32 de),(.int .u32 df),(.int .u32 dg),(.int .u32 dh),(.slice diA diN diC),(.int .i64 dj)]),(.slice wordsA wordsN wordsC)] w fun e w'=>∃v,e= .returned v∧∃Z':Nat→Prop,∃A':Option Addr,∃N':Nat,∃C':Nat,v= .agg #[(.int .u32 (((Dg.mk (S8.mk da db dc dd de df dg dh) dj wl).add K l).st.a)),(.int .u32 (((Dg.mk (S8.mk da db dc dd de df dg dh) dj wl).add K l).st.b)),(.int .u32 (((Dg.mk (S8.mk da db dc dd de df dg dh) dj wl).add K l).st.c)),(.int .u32 (((Dg.mk (S8.mk da db dc dd de df dg dh) dj wl).add K l).st.d)),(.int .u32 (((Dg.mk (S8.mk da db dc dd de df dg dh) dj wl).add K l).st.e)),(.int .u32 (((Dg.mk (S8.mk da db dc dd de df dg dh) dj wl).add K l).st.f)),(.int .u32 (((Dg.mk (S8.mk da db dc dd de df dg dh) dj wl).add K l).st.g)),(.int .u32 (((Dg.mk (S8.mk da db dc dd de df dg dh) dj wl).add K l).st.h)),(.slice A' N' C'),(.int .i64 (((Dg.mk (S8.mk da db dc dd de df dg dh) dj wl).add K l).n))]∧Rd w' Z' A' N' C' ((Dg.mk (S8.mk da db dc dd de df dg dh) dj wl).add K l).waits∧(∀k,Z' k→Zd k∨w.heap.size≤k)∧((l.length:Int)≤36028797018963968 - dj→Own w' Z' 29 A' N' C' ((Dg.mk (S8.mk da db dc dd de df dg dh) dj wl).add K l).waits∧∀k,Z' k→w.heap.size≤k)∧Pu w w':=by
 refine xb _ _ _ _ _ _ _ _ _ _ _ _ _ _ _ ?_
 have RZ:=hd.len
 have hzn:=hz.len
 have Sg:wl.length=(dj % 16).toNat:=ok.len
 have hn:0≤dj∧dj≤36028797018963968:=ok.n
 have hp:=Ch.refl (fun _=>False) w
 have OR:=hd.lt
 have OG:=hz.lt
 have Og:=hk.lt
 refine mkd fun gv wv NC=>?_
 have Nr:=NC.blk
 have hp:=Ch.made hp NC
 refine mkd fun NB Nw NJ=>?_
 have NO:=NJ.lo hp
 have NS:=NJ.ne Nr
 have Ns:=NJ.blk
 have Nr:=Made.old NJ Nr
 refine⟨_,Nr.at rfl,?_⟩
 refine ar (fun c1=>?_) (fun c1=>?_)
 ·rw [aq (by omega)]at c1
  have hr:((Dg.mk (S8.mk da db dc dd de df dg dh) dj wl).add K l)=(Dg.mk (S8.mk da db dc dd de df dg dh) dj wl):=by rw [Dg.add,if_pos (by rw [hzn];exact c1)]
  refine⟨_,_,_,_,_,_,_,_,_,_,_,_,⟨Nr.at rfl,Nr.at rfl,Nr.at rfl,Nr.at rfl,Nr.at rfl,Nr.at rfl,Nr.at rfl,Nr.at rfl,Nr.at rfl,Nr.at rfl⟩,bH Ns rfl fun Ny Ot=>?_⟩
  have Ns:=Ot.blk
  refine⟨_,_,_,_,_,_,_,_,_,_,_,_,⟨Ns.at rfl,Ns.at rfl,Ns.at rfl,Ns.at rfl,Ns.at rfl,Ns.at rfl,Ns.at rfl,Ns.at rfl,Ns.at rfl,Ns.at rfl⟩,?_⟩
  have hd:=((hd.pu NC.pu).pu NJ.pu).ch Ot.ch (fun k hx e=>(fun hx=>absurd (OR _ hx) (Nat.not_lt.2 NO)) (e▸hx))
  have hp:=Ch.call (Ch.made hp NJ) Ot.ch (by exact fun k e=>.inr (e▸NO))
  exact⟨Zd,_,_,_,by rw [hr],by rw [hr];exact hd,fun k h=>.inl h,fun hh=>by rw [hzn]at hh;omega,hp⟩
 ·rw [aq (by omega)]at c1
  refine⟨_,_,_,Nr.at rfl,?_⟩
  have hd:=(hd.pu NC.pu).pu NJ.pu
  have hp:=Ch.made hp NJ
  refine og nG hd (by omega) (by omega) fun A_wv2 c_wv2 Ny UD N3=>?_
  have Nr:=Pu.blk N3 Nr
  refine⟨_,_,_,_,_,_,_,_,⟨Nr.at2 rfl,Nr.at2 rfl,Nr.at2 rfl,Nr.at2 rfl,Nr.at2 rfl,Nr.at2 rfl,Nr.at2 rfl,Nr.at2 rfl⟩,⟨_,Nr.at rfl,?_⟩⟩
  have hp:=Ch.pu hp N3
  have Ns:=Pu.blk N3 Ns
  refine mkd fun NZ NF NM=>?_
  have NN:=NM.lo hp
  have NY:=NM.ne Nr
  have ne_gv1_gv2:=NM.ne Ns
  have Nt:=NM.blk
  refine bH Nt rfl fun NI Nx=>?_
  have Nt:=Nx.blk
  rintro _ rfl
  have UD:=(UD.pu NM.pu).ch Nx.ch (fun k hx e=>absurd hx.2 (by have:=NM.num;omega))
  have hp:=Ch.call (Ch.made hp NM) Nx.ch (by exact fun k e=>.inr (e▸NN))
  have hd:=((hd.pu N3).pu NM.pu).ch Nx.ch (fun k hx e=>(fun hx=>absurd (OR _ hx) (Nat.not_lt.2 NN)) (e▸hx))
  have hz:=((((hz.pu NC.pu).pu NJ.pu).pu N3).pu NM.pu).ch Nx.ch (fun k hx e=>(fun hx=>absurd (OG _ hx) (Nat.not_lt.2 NN)) (e▸hx))
  have hk:=((((hk.pu NC.pu).pu NJ.pu).pu N3).pu NM.pu).ch Nx.ch (fun k hx e=>(fun hx=>absurd (Og _ hx) (Nat.not_lt.2 NN)) (e▸hx))
  have Ns:=Ch.blk Nx.ch (Made.old NM Ns) (ne_gv1_gv2)
  refine⟨fun mz waitA waitN waitC i1 W=>∃NP:List U32,∃S:S8,∃n2:Int,mz=(wordsN - i1).toNat∧(0≤i1∧i1≤wordsN)∧(bT K (S8.mk da db dc dd de df dg dh) (wl++l.take i1.toNat)=(S,NP))∧(NP.length<16)∧(n2=dj+l.length)∧Own W (fun k=>w.heap.size≤k∧k≠NB∧k≠NZ) 29 waitA waitN waitC NP∧Ch (fun _=>False) w W∧Rd W Zd diA diN diC wl∧Rd W Z wordsA wordsN wordsC l∧iP W 1 K∧Blk W NB #[(.int .u32 0),(.int .u32 0),(.int .u32 0),(.int .u32 0),(.int .u32 0),(.int .u32 0),(.int .u32 0),(.int .u32 0),(.slice none 0 0),(.int .i64 0)] 174∧Blk W NZ #[(.int .u32 S.a),(.int .u32 S.b),(.int .u32 S.c),(.int .u32 S.d),(.int .u32 S.e),(.int .u32 S.f),(.int .u32 S.g),(.int .u32 S.h),(.slice none 0 0),(.int .i64 n2)] 174,⟨_,wl,(S8.mk da db dc dd de df dg dh),_,rfl,(by omega),(by simpa using dE (by omega)),(by omega),(by rw [aq (by omega)];omega),(UD).to (by intro k h1 h2;have e1:=NJ.lt;have e2:=NM.num;have e3:=NC.kept.size;have e4:=NJ.kept.size;refine⟨?_,?_,?_⟩<;>omega),hp,hd,hz,hk,Ns,Nt⟩,?_⟩
  rintro _ _ waitA waitN waitC i1 NW ⟨NP,S,n2,rfl,h0,hI,hwb,R1,NX,hp,hd,hz,hk,Ns,Nt⟩
  refine ar (fun c2=>?_) (fun c2=>?_)
  ·have hwn2:=NX.len
   obtain⟨p3,x3,Xp,hx3,hz3,Qq⟩:=hz.ld (i:=i1) (by omega) (by omega)
   refine⟨by omega,ai p3 Xp ⟨_,Qq 0 (by decide),?_⟩⟩
   refine mkd fun Xt NT OY=>?_
   have ne_gv2_gv4:=OY.ne Nt
   have acD:=OY.blk
   have NX:=NX.pu OY.pu
   have hp:=Ch.made hp OY
   refine NX.app nG acD (x:=(⟨x3.v⟩:U32)) (by rfl) (by omega) (by omega) (by have h1:=Ns.lt;have h2:=Nt.lt;have h3:=OY.kept.size;have h4:=hp.size;refine⟨?_,?_,?_⟩<;>omega) fun A_wv7 Q0 NU NX NL=>?_
   refine aG (fun c4=>?_) (fun c4=>?_)
   ·refine⟨bXU [] [1,4] NU.drew (fun _=>False),?_⟩
    have Nt:=Blk.drew (Ch.blk NL (Made.old OY Nt) (fun h=>h.2.2 rfl))
    have NX:=NX.pu (Pu.aI _)
    refine⟨.inl (by decide),_,_,_,_,_,_,_,_,⟨Nt.at2 rfl,Nt.at2 rfl,Nt.at2 rfl,Nt.at2 rfl,Nt.at2 rfl,Nt.at2 rfl,Nt.at2 rfl,Nt.at2 rfl⟩,⟨by omega,?_⟩⟩
    obtain⟨p5,ha5,hz5,Rs⟩:=NX.rd.u32 (by omega)
    refine ai p5 ha5 ⟨.inl (by decide),_,_,_,_,_,_,_,_,_,_,_,_,_,_,_,_,⟨Rs 0 (by omega),Rs 1 (by omega),Rs 2 (by omega),Rs 3 (by omega),Rs 4 (by omega),Rs 5 (by omega),Rs 6 (by omega),Rs 7 (by omega),Rs 8 (by omega),Rs 9 (by omega),Rs 10 (by omega),Rs 11 (by omega),Rs 12 (by omega),Rs 13 (by omega),Rs 14 (by omega),Rs 15 (by omega)⟩,?_⟩
    have hk:=((hk.pu OY.pu).ch NL (fun k hx hy=>by have h1:=Og k hx;omega)).pu (Pu.aI _)
    refine Calls.mono (GP hk _ _ _ _ _ _ _ _ _ _ _ _ _ _ _ _ _ _ _ _ _ _ _ _) ?_
    rintro e N1 ⟨_,rfl,rfl,NQ⟩
    refine⟨_,_,_,_,_,_,_,_,rfl,?_⟩
    refine bXU.grow NQ ?_
    have Nt:=Pu.blk NQ Nt
    refine aP Nt (by simp) fun Oy NA=>?_
    have Nt:Blk Oy NZ #[(.int .u32 ((dV K (S8.mk S.a S.b S.c S.d S.e S.f S.g S.h) [(((NP++ [(⟨x3.v⟩:U32)]).getD 0 ⟨0⟩).v),(((NP++ [(⟨x3.v⟩:U32)]).getD 1 ⟨0⟩).v),(((NP++ [(⟨x3.v⟩:U32)]).getD 2 ⟨0⟩).v),(((NP++ [(⟨x3.v⟩:U32)]).getD 3 ⟨0⟩).v),(((NP++ [(⟨x3.v⟩:U32)]).getD 4 ⟨0⟩).v),(((NP++ [(⟨x3.v⟩:U32)]).getD 5 ⟨0⟩).v),(((NP++ [(⟨x3.v⟩:U32)]).getD 6 ⟨0⟩).v),(((NP++ [(⟨x3.v⟩:U32)]).getD 7 ⟨0⟩).v),(((NP++ [(⟨x3.v⟩:U32)]).getD 8 ⟨0⟩).v),(((NP++ [(⟨x3.v⟩:U32)]).getD 9 ⟨0⟩).v),(((NP++ [(⟨x3.v⟩:U32)]).getD 10 ⟨0⟩).v),(((NP++ [(⟨x3.v⟩:U32)]).getD 11 ⟨0⟩).v),(((NP++ [(⟨x3.v⟩:U32)]).getD 12 ⟨0⟩).v),(((NP++ [(⟨x3.v⟩:U32)]).getD 13 ⟨0⟩).v),(((NP++ [(⟨x3.v⟩:U32)]).getD 14 ⟨0⟩).v),(((NP++ [(⟨x3.v⟩:U32)]).getD 15 ⟨0⟩).v)]).a)),(.int .u32 ((dV K (S8.mk S.a S.b S.c S.d S.e S.f S.g S.h) [(((NP++ [(⟨x3.v⟩:U32)]).getD 0 ⟨0⟩).v),(((NP++ [(⟨x3.v⟩:U32)]).getD 1 ⟨0⟩).v),(((NP++ [(⟨x3.v⟩:U32)]).getD 2 ⟨0⟩).v),(((NP++ [(⟨x3.v⟩:U32)]).getD 3 ⟨0⟩).v),(((NP++ [(⟨x3.v⟩:U32)]).getD 4 ⟨0⟩).v),(((NP++ [(⟨x3.v⟩:U32)]).getD 5 ⟨0⟩).v),(((NP++ [(⟨x3.v⟩:U32)]).getD 6 ⟨0⟩).v),(((NP++ [(⟨x3.v⟩:U32)]).getD 7 ⟨0⟩).v),(((NP++ [(⟨x3.v⟩:U32)]).getD 8 ⟨0⟩).v),(((NP++ [(⟨x3.v⟩:U32)]).getD 9 ⟨0⟩).v),(((NP++ [(⟨x3.v⟩:U32)]).getD 10 ⟨0⟩).v),(((NP++ [(⟨x3.v⟩:U32)]).getD 11 ⟨0⟩).v),(((NP++ [(⟨x3.v⟩:U32)]).getD 12 ⟨0⟩).v),(((NP++ [(⟨x3.v⟩:U32)]).getD 13 ⟨0⟩).v),(((NP++ [(⟨x3.v⟩:U32)]).getD 14 ⟨0⟩).v),(((NP++ [(⟨x3.v⟩:U32)]).getD 15 ⟨0⟩).v)]).b)),(.int .u32 ((dV K (S8.mk S.a S.b S.c S.d S.e S.f S.g S.h) [(((NP++ [(⟨x3.v⟩:U32)]).getD 0 ⟨0⟩).v),(((NP++ [(⟨x3.v⟩:U32)]).getD 1 ⟨0⟩).v),(((NP++ [(⟨x3.v⟩:U32)]).getD 2 ⟨0⟩).v),(((NP++ [(⟨x3.v⟩:U32)]).getD 3 ⟨0⟩).v),(((NP++ [(⟨x3.v⟩:U32)]).getD 4 ⟨0⟩).v),(((NP++ [(⟨x3.v⟩:U32)]).getD 5 ⟨0⟩).v),(((NP++ [(⟨x3.v⟩:U32)]).getD 6 ⟨0⟩).v),(((NP++ [(⟨x3.v⟩:U32)]).getD 7 ⟨0⟩).v),(((NP++ [(⟨x3.v⟩:U32)]).getD 8 ⟨0⟩).v),(((NP++ [(⟨x3.v⟩:U32)]).getD 9 ⟨0⟩).v),(((NP++ [(⟨x3.v⟩:U32)]).getD 10 ⟨0⟩).v),(((NP++ [(⟨x3.v⟩:U32)]).getD 11 ⟨0⟩).v),(((NP++ [(⟨x3.v⟩:U32)]).getD 12 ⟨0⟩).v),(((NP++ [(⟨x3.v⟩:U32)]).getD 13 ⟨0⟩).v),(((NP++ [(⟨x3.v⟩:U32)]).getD 14 ⟨0⟩).v),(((NP++ [(⟨x3.v⟩:U32)]).getD 15 ⟨0⟩).v)]).c)),(.int .u32 ((dV K (S8.mk S.a S.b S.c S.d S.e S.f S.g S.h) [(((NP++ [(⟨x3.v⟩:U32)]).getD 0 ⟨0⟩).v),(((NP++ [(⟨x3.v⟩:U32)]).getD 1 ⟨0⟩).v),(((NP++ [(⟨x3.v⟩:U32)]).getD 2 ⟨0⟩).v),(((NP++ [(⟨x3.v⟩:U32)]).getD 3 ⟨0⟩).v),(((NP++ [(⟨x3.v⟩:U32)]).getD 4 ⟨0⟩).v),(((NP++ [(⟨x3.v⟩:U32)]).getD 5 ⟨0⟩).v),(((NP++ [(⟨x3.v⟩:U32)]).getD 6 ⟨0⟩).v),(((NP++ [(⟨x3.v⟩:U32)]).getD 7 ⟨0⟩).v),(((NP++ [(⟨x3.v⟩:U32)]).getD 8 ⟨0⟩).v),(((NP++ [(⟨x3.v⟩:U32)]).getD 9 ⟨0⟩).v),(((NP++ [(⟨x3.v⟩:U32)]).getD 10 ⟨0⟩).v),(((NP++ [(⟨x3.v⟩:U32)]).getD 11 ⟨0⟩).v),(((NP++ [(⟨x3.v⟩:U32)]).getD 12 ⟨0⟩).v),(((NP++ [(⟨x3.v⟩:U32)]).getD 13 ⟨0⟩).v),(((NP++ [(⟨x3.v⟩:U32)]).getD 14 ⟨0⟩).v),(((NP++ [(⟨x3.v⟩:U32)]).getD 15 ⟨0⟩).v)]).d)),(.int .u32 ((dV K (S8.mk S.a S.b S.c S.d S.e S.f S.g S.h) [(((NP++ [(⟨x3.v⟩:U32)]).getD 0 ⟨0⟩).v),(((NP++ [(⟨x3.v⟩:U32)]).getD 1 ⟨0⟩).v),(((NP++ [(⟨x3.v⟩:U32)]).getD 2 ⟨0⟩).v),(((NP++ [(⟨x3.v⟩:U32)]).getD 3 ⟨0⟩).v),(((NP++ [(⟨x3.v⟩:U32)]).getD 4 ⟨0⟩).v),(((NP++ [(⟨x3.v⟩:U32)]).getD 5 ⟨0⟩).v),(((NP++ [(⟨x3.v⟩:U32)]).getD 6 ⟨0⟩).v),(((NP++ [(⟨x3.v⟩:U32)]).getD 7 ⟨0⟩).v),(((NP++ [(⟨x3.v⟩:U32)]).getD 8 ⟨0⟩).v),(((NP++ [(⟨x3.v⟩:U32)]).getD 9 ⟨0⟩).v),(((NP++ [(⟨x3.v⟩:U32)]).getD 10 ⟨0⟩).v),(((NP++ [(⟨x3.v⟩:U32)]).getD 11 ⟨0⟩).v),(((NP++ [(⟨x3.v⟩:U32)]).getD 12 ⟨0⟩).v),(((NP++ [(⟨x3.v⟩:U32)]).getD 13 ⟨0⟩).v),(((NP++ [(⟨x3.v⟩:U32)]).getD 14 ⟨0⟩).v),(((NP++ [(⟨x3.v⟩:U32)]).getD 15 ⟨0⟩).v)]).e)),(.int .u32 ((dV K (S8.mk S.a S.b S.c S.d S.e S.f S.g S.h) [(((NP++ [(⟨x3.v⟩:U32)]).getD 0 ⟨0⟩).v),(((NP++ [(⟨x3.v⟩:U32)]).getD 1 ⟨0⟩).v),(((NP++ [(⟨x3.v⟩:U32)]).getD 2 ⟨0⟩).v),(((NP++ [(⟨x3.v⟩:U32)]).getD 3 ⟨0⟩).v),(((NP++ [(⟨x3.v⟩:U32)]).getD 4 ⟨0⟩).v),(((NP++ [(⟨x3.v⟩:U32)]).getD 5 ⟨0⟩).v),(((NP++ [(⟨x3.v⟩:U32)]).getD 6 ⟨0⟩).v),(((NP++ [(⟨x3.v⟩:U32)]).getD 7 ⟨0⟩).v),(((NP++ [(⟨x3.v⟩:U32)]).getD 8 ⟨0⟩).v),(((NP++ [(⟨x3.v⟩:U32)]).getD 9 ⟨0⟩).v),(((NP++ [(⟨x3.v⟩:U32)]).getD 10 ⟨0⟩).v),(((NP++ [(⟨x3.v⟩:U32)]).getD 11 ⟨0⟩).v),(((NP++ [(⟨x3.v⟩:U32)]).getD 12 ⟨0⟩).v),(((NP++ [(⟨x3.v⟩:U32)]).getD 13 ⟨0⟩).v),(((NP++ [(⟨x3.v⟩:U32)]).getD 14 ⟨0⟩).v),(((NP++ [(⟨x3.v⟩:U32)]).getD 15 ⟨0⟩).v)]).f)),(.int .u32 ((dV K (S8.mk S.a S.b S.c S.d S.e S.f S.g S.h) [(((NP++ [(⟨x3.v⟩:U32)]).getD 0 ⟨0⟩).v),(((NP++ [(⟨x3.v⟩:U32)]).getD 1 ⟨0⟩).v),(((NP++ [(⟨x3.v⟩:U32)]).getD 2 ⟨0⟩).v),(((NP++ [(⟨x3.v⟩:U32)]).getD 3 ⟨0⟩).v),(((NP++ [(⟨x3.v⟩:U32)]).getD 4 ⟨0⟩).v),(((NP++ [(⟨x3.v⟩:U32)]).getD 5 ⟨0⟩).v),(((NP++ [(⟨x3.v⟩:U32)]).getD 6 ⟨0⟩).v),(((NP++ [(⟨x3.v⟩:U32)]).getD 7 ⟨0⟩).v),(((NP++ [(⟨x3.v⟩:U32)]).getD 8 ⟨0⟩).v),(((NP++ [(⟨x3.v⟩:U32)]).getD 9 ⟨0⟩).v),(((NP++ [(⟨x3.v⟩:U32)]).getD 10 ⟨0⟩).v),(((NP++ [(⟨x3.v⟩:U32)]).getD 11 ⟨0⟩).v),(((NP++ [(⟨x3.v⟩:U32)]).getD 12 ⟨0⟩).v),(((NP++ [(⟨x3.v⟩:U32)]).getD 13 ⟨0⟩).v),(((NP++ [(⟨x3.v⟩:U32)]).getD 14 ⟨0⟩).v),(((NP++ [(⟨x3.v⟩:U32)]).getD 15 ⟨0⟩).v)]).g)),(.int .u32 ((dV K (S8.mk S.a S.b S.c S.d S.e S.f S.g S.h) [(((NP++ [(⟨x3.v⟩:U32)]).getD 0 ⟨0⟩).v),(((NP++ [(⟨x3.v⟩:U32)]).getD 1 ⟨0⟩).v),(((NP++ [(⟨x3.v⟩:U32)]).getD 2 ⟨0⟩).v),(((NP++ [(⟨x3.v⟩:U32)]).getD 3 ⟨0⟩).v),(((NP++ [(⟨x3.v⟩:U32)]).getD 4 ⟨0⟩).v),(((NP++ [(⟨x3.v⟩:U32)]).getD 5 ⟨0⟩).v),(((NP++ [(⟨x3.v⟩:U32)]).getD 6 ⟨0⟩).v),(((NP++ [(⟨x3.v⟩:U32)]).getD 7 ⟨0⟩).v),(((NP++ [(⟨x3.v⟩:U32)]).getD 8 ⟨0⟩).v),(((NP++ [(⟨x3.v⟩:U32)]).getD 9 ⟨0⟩).v),(((NP++ [(⟨x3.v⟩:U32)]).getD 10 ⟨0⟩).v),(((NP++ [(⟨x3.v⟩:U32)]).getD 11 ⟨0⟩).v),(((NP++ [(⟨x3.v⟩:U32)]).getD 12 ⟨0⟩).v),(((NP++ [(⟨x3.v⟩:U32)]).getD 13 ⟨0⟩).v),(((NP++ [(⟨x3.v⟩:U32)]).getD 14 ⟨0⟩).v),(((NP++ [(⟨x3.v⟩:U32)]).getD 15 ⟨0⟩).v)]).h)),(.slice none 0 0),(.int .i64 n2)] _:=NA.blk.cast (by kernel_rfl)
    refine bXU.grow NA.ch ?_
    rintro _ rfl
    have hp:=Ch.call (Ch.pu (Ch.drew (Ch.call hp NL (by intro k hk;exact .inr hk.1))) NQ) NA.ch (by exact fun k e=>.inr (e▸NN))
    have hd:=((((hd.pu OY.pu).ch NL (fun k hx hy=>by have h1:=OR k hx;omega)).pu (Pu.aI _)).pu NQ).ch NA.ch (fun k hx e=>(fun hx=>absurd (OR _ hx) (Nat.not_lt.2 NN)) (e▸hx))
    have hz:=((((hz.pu OY.pu).ch NL (fun k hx hy=>by have h1:=OG k hx;omega)).pu (Pu.aI _)).pu NQ).ch NA.ch (fun k hx e=>(fun hx=>absurd (OG _ hx) (Nat.not_lt.2 NN)) (e▸hx))
    have hk:=(hk.pu NQ).ch NA.ch (fun k hx e=>(fun hx=>absurd (Og _ hx) (Nat.not_lt.2 NN)) (e▸hx))
    have Ns:=Ch.blk NA.ch (Pu.blk NQ (Blk.drew (Ch.blk NL (Made.old OY Ns) (fun h=>h.2.1 rfl)))) (ne_gv1_gv2)
    exact⟨_,by rw [IntKind.wrap_i64];omega,([]),(dV K S ((NP++ [x3]).map U32.v)),n2,rfl,by rw [IntKind.wrap_i64];omega,by rw [pX hI (by omega) hx3,if_pos (by omega)],by simp,R1,Own.nil,hp,hd,hz,hk,Ns,Nt.cast (lF (congrArg (Value.int .u32) (by rw [pW (by simp;omega)])) (congrArg (Value.int .u32) (by rw [pW (by simp;omega)])) (congrArg (Value.int .u32) (by rw [pW (by simp;omega)])) (congrArg (Value.int .u32) (by rw [pW (by simp;omega)])) (congrArg (Value.int .u32) (by rw [pW (by simp;omega)])) (congrArg (Value.int .u32) (by rw [pW (by simp;omega)])) (congrArg (Value.int .u32) (by rw [pW (by simp;omega)])) (congrArg (Value.int .u32) (by rw [pW (by simp;omega)])) (rfl) (rfl))⟩
   ·rintro _ rfl
    have hp:=Ch.call hp NL (by intro k hk;exact .inr hk.1)
    have hd:=(hd.pu OY.pu).ch NL (fun k hx hy=>by have h1:=OR k hx;omega)
    have hz:=(hz.pu OY.pu).ch NL (fun k hx hy=>by have h1:=OG k hx;omega)
    have hk:=(hk.pu OY.pu).ch NL (fun k hx hy=>by have h1:=Og k hx;omega)
    have Ns:=Ch.blk NL (Made.old OY Ns) (fun h=>h.2.1 rfl)
    have Nt:=Ch.blk NL (Made.old OY Nt) (fun h=>h.2.2 rfl)
    exact⟨_,by rw [IntKind.wrap_i64];omega,(NP++ [(⟨x3.v⟩:U32)]),S,n2,rfl,by rw [IntKind.wrap_i64];omega,by rw [pX hI (by omega) hx3,if_neg (by omega)],by simp;omega,R1,NX,hp,hd,hz,hk,Ns,Nt⟩
  ·have hi:i1.toNat=l.length:=by omega
   have hr:((Dg.mk (S8.mk da db dc dd de df dg dh) dj wl).add K l)=⟨S,n2,NP⟩:=by rw [hi,List.take_of_length_le (Nat.le_refl _)]at hI;rw [Dg.add,if_neg (by rw [hzn];exact c1),hI,R1]
   have Ow:=NX.len
   refine aP Nt (by simp) fun NT Of=>?_
   have Nt:Blk NT NZ #[(.int .u32 S.a),(.int .u32 S.b),(.int .u32 S.c),(.int .u32 S.d),(.int .u32 S.e),(.int .u32 S.f),(.int .u32 S.g),(.int .u32 S.h),(.slice waitA waitN waitC),(.int .i64 n2)] _:=Of.blk.cast (by kernel_rfl)
   have Ns:=Ch.blk Of.ch Ns (ne_gv1_gv2)
   refine⟨_,_,_,_,_,_,_,_,_,_,_,_,⟨Nt.at rfl,Nt.at rfl,Nt.at rfl,Nt.at rfl,Nt.at rfl,Nt.at rfl,Nt.at rfl,Nt.at rfl,Nt.at rfl,Nt.at rfl⟩,bH Ns rfl fun NU Py=>?_⟩
   have Ns:=Py.blk
   refine⟨_,_,_,_,_,_,_,_,_,_,_,_,⟨Ns.at rfl,Ns.at rfl,Ns.at rfl,Ns.at rfl,Ns.at rfl,Ns.at rfl,Ns.at rfl,Ns.at rfl,Ns.at rfl,Ns.at rfl⟩,?_⟩
   have NX:=(NX.ch Of.ch (fun k hx e=>hx.2.2 e)).ch Py.ch (fun k hx e=>hx.2.1 e)
   have hp:=Ch.call (Ch.call hp Of.ch (by exact fun k e=>.inr (e▸NN))) Py.ch (by exact fun k e=>.inr (e▸NO))
   exact⟨_,_,_,_,by rw [hr],by rw [hr];exact(NX).rd,by intro k h;exact .inr h.1.1,fun _=>⟨by rw [hr];exact(NX).within,by intro k h;exact h.1.1⟩,hp⟩
theorem Mj {Z:Nat→Prop} {wordsA:Option Addr} {wordsN:Nat} {wordsC:Nat} {l:List U32} {w:World}(hz:Rd w Z wordsA wordsN wordsC l)(hw:∀x∈l,0≤x.v∧x.v<4294967296):
 Calls prog 70 #[(.slice wordsA wordsN wordsC)] w fun e w'=>∃v,e= .returned v∧∃p:Option Addr,v= .tuple #[(.pointer p),(.int .i64 (Dg.ay l))]∧(Dg.ay l=0→∃g L,p=some (Addr.mk g 0 none)∧oB w' g L (Dg.load l)∧∀k,L.X g k→w.heap.size≤k)∧Pu w w':=by
 refine zs _ _ _ ?_
 have hl:=hz.len
 have Xi:=hz.cap
 have hp:=Ch.refl (fun _=>False) w
 have OG:=hz.lt
 refine aB (fun c1=>?_) (fun c1=>?_)
 ·exact⟨none,congrArg Value.tuple (lE (rfl) (congrArg (Value.int .i64) (by rw [Dg.kC (by omega)]))),fun h=>absurd h (by rw [Dg.kC (by omega)];omega),hp⟩
 ·have Pm:l.length=26:=by omega
  have Vc:=Dg.nOf_eq hw Pm
  refine⟨by omega,?_⟩
  obtain⟨p2,UW,Wd,Rt⟩:=hz.u32 (by omega)
  refine ai p2 UW ?_
  have hz:=hz.pu (Pu.aI _)
  refine⟨_,Rt 8 (by omega),⟨by omega,?_⟩⟩
  obtain⟨p3,Xp,hz3,Qq⟩:=hz.u32 (by omega)
  refine ai p3 Xp ⟨_,Qq 9 (by omega),?_⟩
  rintro n e_n
  obtain rfl:n=Dg.nOf l:=e_n.trans (by exact Vc.1)
  refine⟨by omega,⟨by omega,?_⟩⟩
  rintro Ra XC Q9 XA RC XB
  have WT:=Rd.cut (lo:=0) (hi:=(Int.toNat 8)) hz XC XA XB (by omega) (by omega) (by omega)
  refine⟨by omega,?_⟩
  obtain⟨p4,ha4,hz4,Vf⟩:=WT.u32 (by omega)
  refine ai p4 ha4 ⟨_,_,_,_,_,_,_,_,⟨Vf 0 (by omega),Vf 1 (by omega),Vf 2 (by omega),Vf 3 (by omega),Vf 4 (by omega),Vf 5 (by omega),Vf 6 (by omega),Vf 7 (by omega)⟩,?_⟩
  have hp:=Ch.drew hp
  refine mkd fun gv wv NC=>?_
  have NR:=NC.lo hp
  have Nr:=NC.blk
  refine⟨_,?_,fun _ Qj Nw h=>h⟩
  refine⟨bXU [9] [] wv.drew (fun _=>False),?_⟩
  refine ar (fun c5=>?_) (fun c5=>?_)
  ·refine aU ?_
   have hp:=Ch.drew (Ch.made hp NC)
   exact⟨none,congrArg Value.tuple (lE (rfl) (congrArg (Value.int .i64) (by rw [Dg.ff Pm (.inl c5)]))),fun h=>absurd h (by rw [Dg.ff Pm (.inl c5)];omega),hp⟩
  ·refine ar (fun c6=>?_) (fun c6=>?_)
   ·have Nr:=Blk.drew Nr
    refine⟨.inr ⟨by decide,bX.ld Nr (fun h=>h) _⟩,_,_,_,_,_,_,_,_,⟨Nr.at2 rfl,Nr.at2 rfl,Nr.at2 rfl,Nr.at2 rfl,Nr.at2 rfl,Nr.at2 rfl,Nr.at2 rfl,Nr.at2 rfl⟩,?_⟩
    refine Calls.mono (GI) ?_
    rintro e Nw ⟨_,rfl,rfl,NH⟩
    refine⟨_,_,_,_,_,_,_,_,rfl,?_⟩
    refine bXU.du NH (by decide) ?_
    refine cD (fun c7=>?_) (fun c7=>?_)
    ·have PZ:Dg.ij l≠S8.first:=by intro h;simp [Dg.ij,S8.first]at h;simp [cq,eqL,mB,S8.first,h]at c7
     have hp:=Ch.pu (Ch.drew (Ch.made hp NC)) NH
     exact⟨none,congrArg Value.tuple (lE (rfl) (congrArg (Value.int .i64) (by rw [Dg.ff Pm (.inr ⟨c6,PZ⟩)]))),fun h=>absurd h (by rw [Dg.ff Pm (.inr ⟨c6,PZ⟩)];omega),hp⟩
    ·have PZ:Dg.ij l=S8.first:=by simp [cq,eqL,mB,S8.first]at c7;simp [Dg.ij,S8.first,c7]
     have hg:¬(Dg.nOf l>36028797018963968∨(Dg.nOf l<16∧Dg.ij l≠S8.first)):=by rintro(h | h);exact c5 h;exact h.2 PZ
     rintro waits Rn
     obtain rfl:waits=Dg.nOf l % 16:=Rn.trans (by rw [Int.tmod_eq_emod_of_nonneg Vc.2.1,aq (by omega)])
     refine⟨by(simp only [IntKind.wrap_i64];omega),?_⟩
     have hz:=((hz.pu NC.pu).pu (Pu.aI _)).pu NH
     rintro Qv Sx PH Su Q2 Sw
     have Pr:=Rd.from_ (lo:=(Int.toNat (i64.wrap (10+(Dg.nOf l % 16))))) hz Sx Su Sw (by(rw [Dg.lo_eq];omega)) (by have:=hz.cap;omega)
     have hp:=Ch.pu (Ch.drew (Ch.made hp NC)) NH
     have Nr:=Pu.blk NH Nr
     refine⟨fun mz Qu W=>mz=(PH - Qu).toNat∧(0≤Qu∧Qu≤PH)∧(∀(i:Nat)(x:U32),i<Qu.toNat→(l.drop (10+(Dg.nOf l % 16).toNat))[i]? =some x→x.v=0)∧Ch (fun _=>False) w W∧Rd W Z wordsA wordsN wordsC l∧Blk W gv #[(.int .u32 ((((l.drop 0).take ((Int.toNat 8) - 0)).getD 0 ⟨0⟩).v)),(.int .u32 ((((l.drop 0).take ((Int.toNat 8) - 0)).getD 1 ⟨0⟩).v)),(.int .u32 ((((l.drop 0).take ((Int.toNat 8) - 0)).getD 2 ⟨0⟩).v)),(.int .u32 ((((l.drop 0).take ((Int.toNat 8) - 0)).getD 3 ⟨0⟩).v)),(.int .u32 ((((l.drop 0).take ((Int.toNat 8) - 0)).getD 4 ⟨0⟩).v)),(.int .u32 ((((l.drop 0).take ((Int.toNat 8) - 0)).getD 5 ⟨0⟩).v)),(.int .u32 ((((l.drop 0).take ((Int.toNat 8) - 0)).getD 6 ⟨0⟩).v)),(.int .u32 ((((l.drop 0).take ((Int.toNat 8) - 0)).getD 7 ⟨0⟩).v)),(.int .i64 (i64.wrap (Dg.nOf l))),(.slice none 0 0)] 228∧Rd W Z Qv PH Q2 (l.drop (Int.toNat (i64.wrap (10+(Dg.nOf l % 16))))),⟨_,rfl,(by omega),(by intro i x h;omega),hp,hz,Nr,Pr⟩,?_⟩
     rintro _ _ Qu Ny ⟨rfl,h0,hq,hp,hz,Nr,Pr⟩
     refine ar (fun c8=>?_) (fun c8=>?_)
     ·obtain⟨p9,x9,ha9,XQ,WX,hc9⟩:=Pr.ld (i:=Qu) (by omega) (by omega)
      refine⟨by constructor<;>omega,ai p9 ha9 ⟨_,hc9 0 (by decide),?_⟩⟩
      refine aB (fun To=>?_) (fun To=>?_)
      ·exact⟨none,congrArg Value.tuple (lE (rfl) (congrArg (Value.int .i64) (by rw [Dg.lo_eq]at XQ;rw [Dg.dX Pm hg XQ To]))),fun h=>absurd h (by rw [Dg.dX Pm hg (Dg.lo_eq▸XQ) To];omega),hp⟩
      ·exact⟨_,by rw [IntKind.wrap_i64];omega,rfl,by rw [IntKind.wrap_i64];omega,by rw [aq (by omega)];intro i x hi hx;by_cases he:i=Qu.toNat;(subst he;(rw [Dg.lo_eq]at XQ;rw [hx]at XQ;injection XQ with e;rw [e];simpa using To));exact hq i x (by omega) hx,hp,hz,Nr,Pr⟩
     ·have WX:=hp
      have hgw:gv<Ny.heap.size:=Nr.lt
      refine⟨by(simp only [IntKind.wrap_i64];omega),⟨by(simp only [IntKind.wrap_i64];omega),⟨by(simp only [IntKind.wrap_i64];omega),?_⟩⟩⟩
      rintro Vo Ss Ru Sq Vn Sr
      have Se:=Rd.cut (lo:=10) (hi:=(Int.toNat (i64.wrap (10+(Dg.nOf l % 16))))) hz Ss Sq Sr (by(rw [Dg.lo_eq];omega)) (by(rw [Dg.lo_eq];omega)) (by omega)
      refine og nG Se (by have:= @Dg.lo_eq l;omega) (by have:= @Dg.lo_eq l;omega) fun A_wv3 Qt NF Pz N6=>?_
      have Nr:=Pu.blk N6 Nr
      refine aP Nr (by simp) fun NI Nx=>?_
      have Nr:Blk NI gv #[(.int .u32 ((((l.drop 0).take ((Int.toNat 8) - 0)).getD 0 ⟨0⟩).v)),(.int .u32 ((((l.drop 0).take ((Int.toNat 8) - 0)).getD 1 ⟨0⟩).v)),(.int .u32 ((((l.drop 0).take ((Int.toNat 8) - 0)).getD 2 ⟨0⟩).v)),(.int .u32 ((((l.drop 0).take ((Int.toNat 8) - 0)).getD 3 ⟨0⟩).v)),(.int .u32 ((((l.drop 0).take ((Int.toNat 8) - 0)).getD 4 ⟨0⟩).v)),(.int .u32 ((((l.drop 0).take ((Int.toNat 8) - 0)).getD 5 ⟨0⟩).v)),(.int .u32 ((((l.drop 0).take ((Int.toNat 8) - 0)).getD 6 ⟨0⟩).v)),(.int .u32 ((((l.drop 0).take ((Int.toNat 8) - 0)).getD 7 ⟨0⟩).v)),(.int .i64 (i64.wrap (Dg.nOf l))),(.slice A_wv3 Ru Qt)] _:=Nx.blk.cast (by kernel_rfl)
      have Pz:=Pz.ch Nx.ch (fun k hx e=>absurd hx.1 (by omega))
      have hp:=Ch.call (Ch.pu hp N6) Nx.ch (by exact fun k e=>.inr (e▸NR))
      exact⟨_,congrArg Value.tuple (lE (rfl) (congrArg (Value.int .i64) (by rw [(Dg.jh Pm hg (fun i x hx=>hq i x (by have:=(List.getElem?_eq_some_iff.1 hx).1;rw [List.length_drop]at this;have:= @Dg.lo_eq l;omega) hx))]))),fun _=>⟨gv,⟨fun k=>(Ny.heap.size≤k∧k<NF.heap.size)∧k<NI.heap.size,A_wv3,Ru,Qt⟩,rfl,⟨⟨_,Blk.cast Nr (by simp [Dg.load,Dg.ij];have:=Vc.2;exact(aq (x:=Dg.nOf l) (by omega)).symm)⟩,by have h9:=(Pz).rd;have h8:= @Dg.lo_eq l;have e:Dg.load l=⟨Dg.ij l,Dg.nOf l,(l.drop 10).take (Int.toNat (i64.wrap (10+Dg.nOf l % 16)) - 10)⟩:=(by rw [h8,Nat.add_sub_cancel_left];rfl);rw [e];exact h9,by intro h;exact absurd h.1.1 (by have:=NC.num;have:=WX.size;omega)⟩,fun k hk=>hk.elim (fun e=>by rw [e];exact NR) (fun h=>by have:=WX.size;have:=h.1.1;omega)⟩,hp⟩
   ·have hg:¬(Dg.nOf l>36028797018963968∨(Dg.nOf l<16∧Dg.ij l≠S8.first)):=by rintro(h | h);exact c5 h;exact c6 h.1
    refine gM ?_
    rintro waits Rn
    obtain rfl:waits=Dg.nOf l % 16:=Rn.trans (by rw [Int.tmod_eq_emod_of_nonneg Vc.2.1,aq (by omega)])
    refine⟨by(simp only [IntKind.wrap_i64];omega),?_⟩
    have hz:=(hz.pu NC.pu).pu (Pu.aI _)
    rintro Qv Sx PH Su Q2 Sw
    have Pr:=Rd.from_ (lo:=(Int.toNat (i64.wrap (10+(Dg.nOf l % 16))))) hz Sx Su Sw (by(rw [Dg.lo_eq];omega)) (by have:=hz.cap;omega)
    have hp:=Ch.drew (Ch.made hp NC)
    have Nr:=Blk.drew Nr
    refine⟨fun mz Qu W=>mz=(PH - Qu).toNat∧(0≤Qu∧Qu≤PH)∧(∀(i:Nat)(x:U32),i<Qu.toNat→(l.drop (10+(Dg.nOf l % 16).toNat))[i]? =some x→x.v=0)∧Ch (fun _=>False) w W∧Rd W Z wordsA wordsN wordsC l∧Blk W gv #[(.int .u32 ((((l.drop 0).take ((Int.toNat 8) - 0)).getD 0 ⟨0⟩).v)),(.int .u32 ((((l.drop 0).take ((Int.toNat 8) - 0)).getD 1 ⟨0⟩).v)),(.int .u32 ((((l.drop 0).take ((Int.toNat 8) - 0)).getD 2 ⟨0⟩).v)),(.int .u32 ((((l.drop 0).take ((Int.toNat 8) - 0)).getD 3 ⟨0⟩).v)),(.int .u32 ((((l.drop 0).take ((Int.toNat 8) - 0)).getD 4 ⟨0⟩).v)),(.int .u32 ((((l.drop 0).take ((Int.toNat 8) - 0)).getD 5 ⟨0⟩).v)),(.int .u32 ((((l.drop 0).take ((Int.toNat 8) - 0)).getD 6 ⟨0⟩).v)),(.int .u32 ((((l.drop 0).take ((Int.toNat 8) - 0)).getD 7 ⟨0⟩).v)),(.int .i64 (i64.wrap (Dg.nOf l))),(.slice none 0 0)] 228∧Rd W Z Qv PH Q2 (l.drop (Int.toNat (i64.wrap (10+(Dg.nOf l % 16))))),⟨_,rfl,(by omega),(by intro i x h;omega),hp,hz,Nr,Pr⟩,?_⟩
    rintro _ _ Qu Ny ⟨rfl,h0,hq,hp,hz,Nr,Pr⟩
    refine ar (fun RV=>?_) (fun RV=>?_)
    ·obtain⟨p12,OX,aeH,S4,hz12,aeu⟩:=Pr.ld (i:=Qu) (by omega) (by omega)
     refine⟨by constructor<;>omega,ai p12 aeH ⟨_,aeu 0 (by decide),?_⟩⟩
     refine aB (fun SP=>?_) (fun SP=>?_)
     ·exact⟨none,congrArg Value.tuple (lE (rfl) (congrArg (Value.int .i64) (by rw [Dg.lo_eq]at S4;rw [Dg.dX Pm hg S4 SP]))),fun h=>absurd h (by rw [Dg.dX Pm hg (Dg.lo_eq▸S4) SP];omega),hp⟩
     ·exact⟨_,by rw [IntKind.wrap_i64];omega,rfl,by rw [IntKind.wrap_i64];omega,by rw [aq (by omega)];intro i x hi hx;by_cases he:i=Qu.toNat;(subst he;(rw [Dg.lo_eq]at S4;rw [hx]at S4;injection S4 with e;rw [e];simpa using SP));exact hq i x (by omega) hx,hp,hz,Nr,Pr⟩
    ·have WX:=hp
     have hgw:gv<Ny.heap.size:=Nr.lt
     refine⟨by(simp only [IntKind.wrap_i64];omega),⟨by(simp only [IntKind.wrap_i64];omega),⟨by(simp only [IntKind.wrap_i64];omega),?_⟩⟩⟩
     rintro Vo Ss Ru Sq Vn Sr
     have Se:=Rd.cut (lo:=10) (hi:=(Int.toNat (i64.wrap (10+(Dg.nOf l % 16))))) hz Ss Sq Sr (by(rw [Dg.lo_eq];omega)) (by(rw [Dg.lo_eq];omega)) (by omega)
     refine og nG Se (by have:= @Dg.lo_eq l;omega) (by have:= @Dg.lo_eq l;omega) fun A_wv3 Qt NF Pz N6=>?_
     have Nr:=Pu.blk N6 Nr
     refine aP Nr (by simp) fun NI Nx=>?_
     have Nr:Blk NI gv #[(.int .u32 ((((l.drop 0).take ((Int.toNat 8) - 0)).getD 0 ⟨0⟩).v)),(.int .u32 ((((l.drop 0).take ((Int.toNat 8) - 0)).getD 1 ⟨0⟩).v)),(.int .u32 ((((l.drop 0).take ((Int.toNat 8) - 0)).getD 2 ⟨0⟩).v)),(.int .u32 ((((l.drop 0).take ((Int.toNat 8) - 0)).getD 3 ⟨0⟩).v)),(.int .u32 ((((l.drop 0).take ((Int.toNat 8) - 0)).getD 4 ⟨0⟩).v)),(.int .u32 ((((l.drop 0).take ((Int.toNat 8) - 0)).getD 5 ⟨0⟩).v)),(.int .u32 ((((l.drop 0).take ((Int.toNat 8) - 0)).getD 6 ⟨0⟩).v)),(.int .u32 ((((l.drop 0).take ((Int.toNat 8) - 0)).getD 7 ⟨0⟩).v)),(.int .i64 (i64.wrap (Dg.nOf l))),(.slice A_wv3 Ru Qt)] _:=Nx.blk.cast (by kernel_rfl)
     have Pz:=Pz.ch Nx.ch (fun k hx e=>absurd hx.1 (by omega))
     have hp:=Ch.call (Ch.pu hp N6) Nx.ch (by exact fun k e=>.inr (e▸NR))
     exact⟨_,congrArg Value.tuple (lE (rfl) (congrArg (Value.int .i64) (by rw [(Dg.jh Pm hg (fun i x hx=>hq i x (by have:=(List.getElem?_eq_some_iff.1 hx).1;rw [List.length_drop]at this;have:= @Dg.lo_eq l;omega) hx))]))),fun _=>⟨gv,⟨fun k=>(Ny.heap.size≤k∧k<NF.heap.size)∧k<NI.heap.size,A_wv3,Ru,Qt⟩,rfl,⟨⟨_,Blk.cast Nr (by simp [Dg.load,Dg.ij];have:=Vc.2;exact(aq (x:=Dg.nOf l) (by omega)).symm)⟩,by have h9:=(Pz).rd;have h8:= @Dg.lo_eq l;have e:Dg.load l=⟨Dg.ij l,Dg.nOf l,(l.drop 10).take (Int.toNat (i64.wrap (10+Dg.nOf l % 16)) - 10)⟩:=(by rw [h8,Nat.add_sub_cancel_left];rfl);rw [e];exact h9,by intro h;exact absurd h.1.1 (by have:=NC.num;have:=WX.size;omega)⟩,fun k hk=>hk.elim (fun e=>by rw [e];exact NR) (fun h=>by have:=WX.size;have:=h.1.1;omega)⟩,hp⟩
theorem Jo {Z:Nat→Prop} {wordsA:Option Addr} {wordsN:Nat} {wordsC:Nat} {l:List U32} {w:World}(hz:Rd w Z wordsA wordsN wordsC l)(hw:∀x∈l,0≤x.v∧x.v<4294967296):
 Calls prog 160 #[(.slice wordsA wordsN wordsC)] w fun e w'=>∃v,e= .returned v∧∃Z':Nat→Prop,∃A':Option Addr,∃N':Nat,∃C':Nat,v= .tuple #[(.agg #[(.int .u32 ((Dg.ae l).st.a)),(.int .u32 ((Dg.ae l).st.b)),(.int .u32 ((Dg.ae l).st.c)),(.int .u32 ((Dg.ae l).st.d)),(.int .u32 ((Dg.ae l).st.e)),(.int .u32 ((Dg.ae l).st.f)),(.int .u32 ((Dg.ae l).st.g)),(.int .u32 ((Dg.ae l).st.h)),(.slice A' N' C'),(.int .i64 ((Dg.ae l).n))]),(.int .i64 (Dg.ay l))]∧Rd w' Z' A' N' C' (Dg.ae l).waits∧(∀k,Z' k→w.heap.size≤k)∧Pu w w':=by
 refine uz _ _ _ ?_
 have hl:=hz.len
 have hp:=Ch.refl (fun _=>False) w
 have OG:=hz.lt
 refine mkd fun gv wv NC=>?_
 have NR:=NC.lo hp
 have Nr:=NC.blk
 refine aB (fun c1=>?_) (fun c1=>?_)
 ·have hE:=Dg.kC (l:=l) (by omega)
  refine bH Nr rfl fun Nw OT=>?_
  have Nr:=OT.blk
  refine⟨_,_,_,_,_,_,_,_,_,_,_,_,⟨Nr.at rfl,Nr.at rfl,Nr.at rfl,Nr.at rfl,Nr.at rfl,Nr.at rfl,Nr.at rfl,Nr.at rfl,Nr.at rfl,Nr.at rfl⟩,?_⟩
  have hp:=Ch.call (Ch.made hp NC) OT.ch (by exact fun k e=>.inr (e▸NR))
  exact⟨fun _=>False,none,0,0,congrArg Value.tuple (lE (congrArg Value.agg (lF (congrArg (Value.int .u32) (by(rw [Dg.aH hE];rfl))) (congrArg (Value.int .u32) (by(rw [Dg.aH hE];rfl))) (congrArg (Value.int .u32) (by(rw [Dg.aH hE];rfl))) (congrArg (Value.int .u32) (by(rw [Dg.aH hE];rfl))) (congrArg (Value.int .u32) (by(rw [Dg.aH hE];rfl))) (congrArg (Value.int .u32) (by(rw [Dg.aH hE];rfl))) (congrArg (Value.int .u32) (by(rw [Dg.aH hE];rfl))) (congrArg (Value.int .u32) (by(rw [Dg.aH hE];rfl))) (by rfl) (congrArg (Value.int .i64) (by(rw [Dg.aH hE];rfl))))) (congrArg (Value.int .i64) (by exact hE.symm))),by rw [Dg.aH hE];exact Rd.nil,fun k h=>h.elim,hp⟩
 ·have Pm:l.length=26:=by omega
  have Vc:=(Dg.nOf_eq hw Pm).2
  have hp:=Ch.made hp NC
  refine mkd fun NB Nw NJ=>?_
  have NO:=NJ.lo hp
  have NS:=NJ.ne Nr
  have Ns:=NJ.blk
  rintro _ rfl
  have hp:=Ch.made hp NJ
  have hz:=(hz.pu NC.pu).pu NJ.pu
  have Nr:=Made.old NJ Nr
  refine⟨fun mz i1 W=>Ch (fun _=>False) w W∧Rd W Z wordsA wordsN wordsC l∧(∃T,Blk W gv #[(.int .u32 0),(.int .u32 0),(.int .u32 0),(.int .u32 0),(.int .u32 0),(.int .u32 0),(.int .u32 0),(.int .u32 0),(.slice none 0 0),(.int .i64 0)] T)∧((mz=8∧i1=0∧(∃T,Blk W NB #[(.int .u32 0),(.int .u32 0),(.int .u32 0),(.int .u32 0),(.int .u32 0),(.int .u32 0),(.int .u32 0),(.int .u32 0),(.slice none 0 0),(.int .i64 0)] T))∨(mz=7∧i1=1∧(∃T,Blk W NB #[(.int .u32 ((l.getD 0 ⟨0⟩).v)),(.int .u32 0),(.int .u32 0),(.int .u32 0),(.int .u32 0),(.int .u32 0),(.int .u32 0),(.int .u32 0),(.slice none 0 0),(.int .i64 0)] T))∨(mz=6∧i1=2∧(∃T,Blk W NB #[(.int .u32 ((l.getD 0 ⟨0⟩).v)),(.int .u32 ((l.getD 1 ⟨0⟩).v)),(.int .u32 0),(.int .u32 0),(.int .u32 0),(.int .u32 0),(.int .u32 0),(.int .u32 0),(.slice none 0 0),(.int .i64 0)] T))∨(mz=5∧i1=3∧(∃T,Blk W NB #[(.int .u32 ((l.getD 0 ⟨0⟩).v)),(.int .u32 ((l.getD 1 ⟨0⟩).v)),(.int .u32 ((l.getD 2 ⟨0⟩).v)),(.int .u32 0),(.int .u32 0),(.int .u32 0),(.int .u32 0),(.int .u32 0),(.slice none 0 0),(.int .i64 0)] T))∨(mz=4∧i1=4∧(∃T,Blk W NB #[(.int .u32 ((l.getD 0 ⟨0⟩).v)),(.int .u32 ((l.getD 1 ⟨0⟩).v)),(.int .u32 ((l.getD 2 ⟨0⟩).v)),(.int .u32 ((l.getD 3 ⟨0⟩).v)),(.int .u32 0),(.int .u32 0),(.int .u32 0),(.int .u32 0),(.slice none 0 0),(.int .i64 0)] T))∨(mz=3∧i1=5∧(∃T,Blk W NB #[(.int .u32 ((l.getD 0 ⟨0⟩).v)),(.int .u32 ((l.getD 1 ⟨0⟩).v)),(.int .u32 ((l.getD 2 ⟨0⟩).v)),(.int .u32 ((l.getD 3 ⟨0⟩).v)),(.int .u32 ((l.getD 4 ⟨0⟩).v)),(.int .u32 0),(.int .u32 0),(.int .u32 0),(.slice none 0 0),(.int .i64 0)] T))∨(mz=2∧i1=6∧(∃T,Blk W NB #[(.int .u32 ((l.getD 0 ⟨0⟩).v)),(.int .u32 ((l.getD 1 ⟨0⟩).v)),(.int .u32 ((l.getD 2 ⟨0⟩).v)),(.int .u32 ((l.getD 3 ⟨0⟩).v)),(.int .u32 ((l.getD 4 ⟨0⟩).v)),(.int .u32 ((l.getD 5 ⟨0⟩).v)),(.int .u32 0),(.int .u32 0),(.slice none 0 0),(.int .i64 0)] T))∨(mz=1∧i1=7∧(∃T,Blk W NB #[(.int .u32 ((l.getD 0 ⟨0⟩).v)),(.int .u32 ((l.getD 1 ⟨0⟩).v)),(.int .u32 ((l.getD 2 ⟨0⟩).v)),(.int .u32 ((l.getD 3 ⟨0⟩).v)),(.int .u32 ((l.getD 4 ⟨0⟩).v)),(.int .u32 ((l.getD 5 ⟨0⟩).v)),(.int .u32 ((l.getD 6 ⟨0⟩).v)),(.int .u32 0),(.slice none 0 0),(.int .i64 0)] T))∨(mz=0∧i1=8∧(∃T,Blk W NB #[(.int .u32 ((l.getD 0 ⟨0⟩).v)),(.int .u32 ((l.getD 1 ⟨0⟩).v)),(.int .u32 ((l.getD 2 ⟨0⟩).v)),(.int .u32 ((l.getD 3 ⟨0⟩).v)),(.int .u32 ((l.getD 4 ⟨0⟩).v)),(.int .u32 ((l.getD 5 ⟨0⟩).v)),(.int .u32 ((l.getD 6 ⟨0⟩).v)),(.int .u32 ((l.getD 7 ⟨0⟩).v)),(.slice none 0 0),(.int .i64 0)] T))),⟨_,hp,hz,⟨_,Nr⟩,.inl ⟨rfl,rfl,⟨_,Ns⟩⟩⟩,?_⟩
  rintro _ _ i1 Ny ⟨hp,hz,⟨_,Nr⟩,hU⟩
  rcases hU with⟨rfl,rfl,⟨_,Ns⟩⟩ | ⟨rfl,rfl,⟨_,Ns⟩⟩ | ⟨rfl,rfl,⟨_,Ns⟩⟩ | ⟨rfl,rfl,⟨_,Ns⟩⟩ | ⟨rfl,rfl,⟨_,Ns⟩⟩ | ⟨rfl,rfl,⟨_,Ns⟩⟩ | ⟨rfl,rfl,⟨_,Ns⟩⟩ | ⟨rfl,rfl,⟨_,Ns⟩⟩ | ⟨rfl,rfl,⟨_,Ns⟩⟩
  ·refine aU ⟨by omega,?_⟩
   obtain⟨p2,UW,Wd,Rt⟩:=hz.u32 (by omega)
   refine ai p2 UW ⟨_,Rt 0 (by omega),⟨by decide,fU Ns (by simp) fun NF ND=>?_⟩⟩
   have Ns:Blk NF NB #[(.int .u32 ((l.getD 0 ⟨0⟩).v)),(.int .u32 0),(.int .u32 0),(.int .u32 0),(.int .u32 0),(.int .u32 0),(.int .u32 0),(.int .u32 0),(.slice none 0 0),(.int .i64 0)] _:=ND.blk.cast (by kernel_rfl)
   rintro _ rfl
   have hp:=Ch.call hp ND.ch (by exact fun k e=>.inr (e▸NO))
   have hz:=hz.ch ND.ch (fun k hx e=>(fun hx=>absurd (OG _ hx) (Nat.not_lt.2 NO)) (e▸hx))
   have Nr:=Ch.blk ND.ch Nr (NS)
   exact⟨7,by decide,hp,hz,⟨_,Nr⟩,.inr (.inl ⟨rfl,rfl,⟨_,Ns⟩⟩)⟩
  ·refine aU ⟨by omega,?_⟩
   obtain⟨p3,Xp,hz3,Qq⟩:=hz.u32 (by omega)
   refine ai p3 Xp ⟨_,Qq 1 (by omega),⟨by decide,fU Ns (by simp) fun NF ND=>?_⟩⟩
   have Ns:Blk NF NB #[(.int .u32 ((l.getD 0 ⟨0⟩).v)),(.int .u32 ((l.getD 1 ⟨0⟩).v)),(.int .u32 0),(.int .u32 0),(.int .u32 0),(.int .u32 0),(.int .u32 0),(.int .u32 0),(.slice none 0 0),(.int .i64 0)] _:=ND.blk.cast (by kernel_rfl)
   rintro _ rfl
   have hp:=Ch.call hp ND.ch (by exact fun k e=>.inr (e▸NO))
   have hz:=hz.ch ND.ch (fun k hx e=>(fun hx=>absurd (OG _ hx) (Nat.not_lt.2 NO)) (e▸hx))
   have Nr:=Ch.blk ND.ch Nr (NS)
   exact⟨6,by decide,hp,hz,⟨_,Nr⟩,.inr (.inr (.inl ⟨rfl,rfl,⟨_,Ns⟩⟩))⟩
  ·refine aU ⟨by omega,?_⟩
   obtain⟨p4,ha4,hz4,Vf⟩:=hz.u32 (by omega)
   refine ai p4 ha4 ⟨_,Vf 2 (by omega),⟨by decide,fU Ns (by simp) fun NF ND=>?_⟩⟩
   have Ns:Blk NF NB #[(.int .u32 ((l.getD 0 ⟨0⟩).v)),(.int .u32 ((l.getD 1 ⟨0⟩).v)),(.int .u32 ((l.getD 2 ⟨0⟩).v)),(.int .u32 0),(.int .u32 0),(.int .u32 0),(.int .u32 0),(.int .u32 0),(.slice none 0 0),(.int .i64 0)] _:=ND.blk.cast (by kernel_rfl)
   rintro _ rfl
   have hp:=Ch.call hp ND.ch (by exact fun k e=>.inr (e▸NO))
   have hz:=hz.ch ND.ch (fun k hx e=>(fun hx=>absurd (OG _ hx) (Nat.not_lt.2 NO)) (e▸hx))
   have Nr:=Ch.blk ND.ch Nr (NS)
   exact⟨5,by decide,hp,hz,⟨_,Nr⟩,.inr (.inr (.inr (.inl ⟨rfl,rfl,⟨_,Ns⟩⟩)))⟩
  ·refine aU ⟨by omega,?_⟩
   obtain⟨p5,ha5,hz5,Rs⟩:=hz.u32 (by omega)
   refine ai p5 ha5 ⟨_,Rs 3 (by omega),⟨by decide,fU Ns (by simp) fun NF ND=>?_⟩⟩
   have Ns:Blk NF NB #[(.int .u32 ((l.getD 0 ⟨0⟩).v)),(.int .u32 ((l.getD 1 ⟨0⟩).v)),(.int .u32 ((l.getD 2 ⟨0⟩).v)),(.int .u32 ((l.getD 3 ⟨0⟩).v)),(.int .u32 0),(.int .u32 0),(.int .u32 0),(.int .u32 0),(.slice none 0 0),(.int .i64 0)] _:=ND.blk.cast (by kernel_rfl)
   rintro _ rfl
   have hp:=Ch.call hp ND.ch (by exact fun k e=>.inr (e▸NO))
   have hz:=hz.ch ND.ch (fun k hx e=>(fun hx=>absurd (OG _ hx) (Nat.not_lt.2 NO)) (e▸hx))
   have Nr:=Ch.blk ND.ch Nr (NS)
   exact⟨4,by decide,hp,hz,⟨_,Nr⟩,.inr (.inr (.inr (.inr (.inl ⟨rfl,rfl,⟨_,Ns⟩⟩))))⟩
  ·refine aU ⟨by omega,?_⟩
   obtain⟨p6,ha6,hz6,hc6⟩:=hz.u32 (by omega)
   refine ai p6 ha6 ⟨_,hc6 4 (by omega),⟨by decide,fU Ns (by simp) fun NF ND=>?_⟩⟩
   have Ns:Blk NF NB #[(.int .u32 ((l.getD 0 ⟨0⟩).v)),(.int .u32 ((l.getD 1 ⟨0⟩).v)),(.int .u32 ((l.getD 2 ⟨0⟩).v)),(.int .u32 ((l.getD 3 ⟨0⟩).v)),(.int .u32 ((l.getD 4 ⟨0⟩).v)),(.int .u32 0),(.int .u32 0),(.int .u32 0),(.slice none 0 0),(.int .i64 0)] _:=ND.blk.cast (by kernel_rfl)
   rintro _ rfl
   have hp:=Ch.call hp ND.ch (by exact fun k e=>.inr (e▸NO))
   have hz:=hz.ch ND.ch (fun k hx e=>(fun hx=>absurd (OG _ hx) (Nat.not_lt.2 NO)) (e▸hx))
   have Nr:=Ch.blk ND.ch Nr (NS)
   exact⟨3,by decide,hp,hz,⟨_,Nr⟩,.inr (.inr (.inr (.inr (.inr (.inl ⟨rfl,rfl,⟨_,Ns⟩⟩)))))⟩
  ·refine aU ⟨by omega,?_⟩
   obtain⟨p7,ha7,hz7,hc7⟩:=hz.u32 (by omega)
   refine ai p7 ha7 ⟨_,hc7 5 (by omega),⟨by decide,fU Ns (by simp) fun NF ND=>?_⟩⟩
   have Ns:Blk NF NB #[(.int .u32 ((l.getD 0 ⟨0⟩).v)),(.int .u32 ((l.getD 1 ⟨0⟩).v)),(.int .u32 ((l.getD 2 ⟨0⟩).v)),(.int .u32 ((l.getD 3 ⟨0⟩).v)),(.int .u32 ((l.getD 4 ⟨0⟩).v)),(.int .u32 ((l.getD 5 ⟨0⟩).v)),(.int .u32 0),(.int .u32 0),(.slice none 0 0),(.int .i64 0)] _:=ND.blk.cast (by kernel_rfl)
   rintro _ rfl
   have hp:=Ch.call hp ND.ch (by exact fun k e=>.inr (e▸NO))
   have hz:=hz.ch ND.ch (fun k hx e=>(fun hx=>absurd (OG _ hx) (Nat.not_lt.2 NO)) (e▸hx))
   have Nr:=Ch.blk ND.ch Nr (NS)
   exact⟨2,by decide,hp,hz,⟨_,Nr⟩,.inr (.inr (.inr (.inr (.inr (.inr (.inl ⟨rfl,rfl,⟨_,Ns⟩⟩))))))⟩
  ·refine aU ⟨by omega,?_⟩
   obtain⟨p8,ha8,hz8,hc8⟩:=hz.u32 (by omega)
   refine ai p8 ha8 ⟨_,hc8 6 (by omega),⟨by decide,fU Ns (by simp) fun NF ND=>?_⟩⟩
   have Ns:Blk NF NB #[(.int .u32 ((l.getD 0 ⟨0⟩).v)),(.int .u32 ((l.getD 1 ⟨0⟩).v)),(.int .u32 ((l.getD 2 ⟨0⟩).v)),(.int .u32 ((l.getD 3 ⟨0⟩).v)),(.int .u32 ((l.getD 4 ⟨0⟩).v)),(.int .u32 ((l.getD 5 ⟨0⟩).v)),(.int .u32 ((l.getD 6 ⟨0⟩).v)),(.int .u32 0),(.slice none 0 0),(.int .i64 0)] _:=ND.blk.cast (by kernel_rfl)
   rintro _ rfl
   have hp:=Ch.call hp ND.ch (by exact fun k e=>.inr (e▸NO))
   have hz:=hz.ch ND.ch (fun k hx e=>(fun hx=>absurd (OG _ hx) (Nat.not_lt.2 NO)) (e▸hx))
   have Nr:=Ch.blk ND.ch Nr (NS)
   exact⟨1,by decide,hp,hz,⟨_,Nr⟩,.inr (.inr (.inr (.inr (.inr (.inr (.inr (.inl ⟨rfl,rfl,⟨_,Ns⟩⟩)))))))⟩
  ·refine aU ⟨by omega,?_⟩
   obtain⟨p9,ha9,WX,hc9⟩:=hz.u32 (by omega)
   refine ai p9 ha9 ⟨_,hc9 7 (by omega),⟨by decide,fU Ns (by simp) fun NF ND=>?_⟩⟩
   have Ns:Blk NF NB #[(.int .u32 ((l.getD 0 ⟨0⟩).v)),(.int .u32 ((l.getD 1 ⟨0⟩).v)),(.int .u32 ((l.getD 2 ⟨0⟩).v)),(.int .u32 ((l.getD 3 ⟨0⟩).v)),(.int .u32 ((l.getD 4 ⟨0⟩).v)),(.int .u32 ((l.getD 5 ⟨0⟩).v)),(.int .u32 ((l.getD 6 ⟨0⟩).v)),(.int .u32 ((l.getD 7 ⟨0⟩).v)),(.slice none 0 0),(.int .i64 0)] _:=ND.blk.cast (by kernel_rfl)
   rintro _ rfl
   have hp:=Ch.call hp ND.ch (by exact fun k e=>.inr (e▸NO))
   have hz:=hz.ch ND.ch (fun k hx e=>(fun hx=>absurd (OG _ hx) (Nat.not_lt.2 NO)) (e▸hx))
   have Nr:=Ch.blk ND.ch Nr (NS)
   exact⟨0,by decide,hp,hz,⟨_,Nr⟩,.inr (.inr (.inr (.inr (.inr (.inr (.inr (.inr (⟨rfl,rfl,⟨_,Ns⟩⟩))))))))⟩
  ·refine gM ⟨by omega,?_⟩
   obtain⟨XO,aeJ,hz10,aew⟩:=hz.u32 (by omega)
   refine ai XO aeJ ?_
   have hz:=hz.pu (Pu.aI _)
   refine⟨_,aew 8 (by omega),⟨by omega,?_⟩⟩
   obtain⟨p11,aeI,hz11,aev⟩:=hz.u32 (by omega)
   refine ai p11 aeI ⟨_,aev 9 (by omega),?_⟩
   rintro n e_n
   obtain rfl:n=Dg.nOf l:=e_n.trans (by exact Dg.JD hw Pm)
   refine⟨_,?_,fun _ VS NF h=>h⟩
   refine⟨bXU [7] [] Ny.drew.drew (fun _=>False),?_⟩
   refine ar (fun Vj=>?_) (fun Vj=>?_)
   ·have hE:=Dg.ff Pm (.inl Vj)
    have Nr:=Blk.drew (Blk.drew Nr)
    refine aU (bH Nr rfl fun NI Nx=>?_)
    have Nr:=Nx.blk
    refine⟨_,_,_,_,_,_,_,_,_,_,_,_,⟨Nr.at rfl,Nr.at rfl,Nr.at rfl,Nr.at rfl,Nr.at rfl,Nr.at rfl,Nr.at rfl,Nr.at rfl,Nr.at rfl,Nr.at rfl⟩,?_⟩
    have hp:=Ch.call (Ch.drew (Ch.drew hp)) Nx.ch (by exact fun k e=>.inr (e▸NR))
    exact⟨fun _=>False,none,0,0,congrArg Value.tuple (lE (congrArg Value.agg (lF (congrArg (Value.int .u32) (by(rw [Dg.aH hE];rfl))) (congrArg (Value.int .u32) (by(rw [Dg.aH hE];rfl))) (congrArg (Value.int .u32) (by(rw [Dg.aH hE];rfl))) (congrArg (Value.int .u32) (by(rw [Dg.aH hE];rfl))) (congrArg (Value.int .u32) (by(rw [Dg.aH hE];rfl))) (congrArg (Value.int .u32) (by(rw [Dg.aH hE];rfl))) (congrArg (Value.int .u32) (by(rw [Dg.aH hE];rfl))) (congrArg (Value.int .u32) (by(rw [Dg.aH hE];rfl))) (by rfl) (congrArg (Value.int .i64) (by(rw [Dg.aH hE];rfl))))) (congrArg (Value.int .i64) (by exact hE.symm))),by rw [Dg.aH hE];exact Rd.nil,fun k h=>h.elim,hp⟩
   ·refine ar (fun SP=>?_) (fun SP=>?_)
    ·have Ns:=Blk.drew (Blk.drew Ns)
     refine⟨.inr ⟨by decide,bX.ld Ns (fun h=>h) _⟩,_,_,_,_,_,_,_,_,⟨Ns.at2 rfl,Ns.at2 rfl,Ns.at2 rfl,Ns.at2 rfl,Ns.at2 rfl,Ns.at2 rfl,Ns.at2 rfl,Ns.at2 rfl⟩,?_⟩
     refine Calls.mono (yk) ?_
     rintro e NF ⟨_,rfl,rfl,N6⟩
     refine⟨_,_,_,_,_,_,_,_,rfl,?_⟩
     refine bXU.du N6 (by decide) ?_
     refine cD (fun Vi=>?_) (fun Vi=>?_)
     ·have PZ:Dg.ij l≠S8.first:=by intro h;simp [Dg.ij,S8.first]at h;simp [cq,eqL,mB,S8.first,h]at Vi
      have hE:=Dg.ff Pm (.inr ⟨SP,PZ⟩)
      have Nr:=Pu.blk N6 (Blk.drew (Blk.drew Nr))
      refine bH Nr rfl fun NI Nx=>?_
      have Nr:=Nx.blk
      refine⟨_,_,_,_,_,_,_,_,_,_,_,_,⟨Nr.at rfl,Nr.at rfl,Nr.at rfl,Nr.at rfl,Nr.at rfl,Nr.at rfl,Nr.at rfl,Nr.at rfl,Nr.at rfl,Nr.at rfl⟩,?_⟩
      have hp:=Ch.call (Ch.pu (Ch.drew (Ch.drew hp)) N6) Nx.ch (by exact fun k e=>.inr (e▸NR))
      exact⟨fun _=>False,none,0,0,congrArg Value.tuple (lE (congrArg Value.agg (lF (congrArg (Value.int .u32) (by(rw [Dg.aH hE];rfl))) (congrArg (Value.int .u32) (by(rw [Dg.aH hE];rfl))) (congrArg (Value.int .u32) (by(rw [Dg.aH hE];rfl))) (congrArg (Value.int .u32) (by(rw [Dg.aH hE];rfl))) (congrArg (Value.int .u32) (by(rw [Dg.aH hE];rfl))) (congrArg (Value.int .u32) (by(rw [Dg.aH hE];rfl))) (congrArg (Value.int .u32) (by(rw [Dg.aH hE];rfl))) (congrArg (Value.int .u32) (by(rw [Dg.aH hE];rfl))) (by rfl) (congrArg (Value.int .i64) (by(rw [Dg.aH hE];rfl))))) (congrArg (Value.int .i64) (by exact hE.symm))),by rw [Dg.aH hE];exact Rd.nil,fun k h=>h.elim,hp⟩
     ·have PZ:Dg.ij l=S8.first:=by simp [cq,eqL,mB,S8.first]at Vi;simp [Dg.ij,S8.first,Vi]
      have hg:¬(Dg.nOf l>36028797018963968∨(Dg.nOf l<16∧Dg.ij l≠S8.first)):=by rintro(h | h);exact Vj h;exact h.2 PZ
      have Ns:=Pu.blk N6 Ns
      refine aP Ns (by simp) fun NI Nx=>?_
      have Ns:Blk NI NB #[(.int .u32 ((l.getD 0 ⟨0⟩).v)),(.int .u32 ((l.getD 1 ⟨0⟩).v)),(.int .u32 ((l.getD 2 ⟨0⟩).v)),(.int .u32 ((l.getD 3 ⟨0⟩).v)),(.int .u32 ((l.getD 4 ⟨0⟩).v)),(.int .u32 ((l.getD 5 ⟨0⟩).v)),(.int .u32 ((l.getD 6 ⟨0⟩).v)),(.int .u32 ((l.getD 7 ⟨0⟩).v)),(.slice none 0 0),(.int .i64 (i64.wrap (Dg.nOf l)))] _:=Nx.blk.cast (by kernel_rfl)
      rintro _ rfl
      have hp:=Ch.call (Ch.pu (Ch.drew (Ch.drew hp)) N6) Nx.ch (by exact fun k e=>.inr (e▸NO))
      have hz:=((hz.pu (Pu.aI _)).pu N6).ch Nx.ch (fun k hx e=>(fun hx=>absurd (OG _ hx) (Nat.not_lt.2 NO)) (e▸hx))
      have Nr:=Ch.blk Nx.ch (Pu.blk N6 (Blk.drew (Blk.drew Nr))) (NS)
      refine⟨fun mz i3 W=>∃A8:Option Addr,∃N8:Nat,∃C8:Nat,∃NP:List U32,mz=(26 - i3).toNat∧(10≤i3∧i3≤26)∧(NP=(l.drop 10).take (min (i3.toNat - 10) (Dg.nOf l % 16).toNat))∧(∀(i:Nat)(x:U32),i+(10+(Dg.nOf l % 16).toNat)<i3.toNat→(l.drop (10+(Dg.nOf l % 16).toNat))[i]? =some x→x.v=0)∧Own W (fun k=>w.heap.size≤k∧k≠gv∧k≠NB) 29 A8 N8 C8 NP∧Ch (fun _=>False) w W∧Rd W Z wordsA wordsN wordsC l∧(∃T,Blk W gv #[(.int .u32 0),(.int .u32 0),(.int .u32 0),(.int .u32 0),(.int .u32 0),(.int .u32 0),(.int .u32 0),(.int .u32 0),(.slice none 0 0),(.int .i64 0)] T)∧(∃T,Blk W NB #[(.int .u32 ((l.getD 0 ⟨0⟩).v)),(.int .u32 ((l.getD 1 ⟨0⟩).v)),(.int .u32 ((l.getD 2 ⟨0⟩).v)),(.int .u32 ((l.getD 3 ⟨0⟩).v)),(.int .u32 ((l.getD 4 ⟨0⟩).v)),(.int .u32 ((l.getD 5 ⟨0⟩).v)),(.int .u32 ((l.getD 6 ⟨0⟩).v)),(.int .u32 ((l.getD 7 ⟨0⟩).v)),(.slice A8 N8 C8),(.int .i64 (Dg.nOf l))] T),⟨_,none,0,0,([]),rfl,(by omega),(by simp),(by intro i x h;omega),Own.nil,hp,hz,⟨_,Nr⟩,⟨_,Ns.cast (lF (congrArg (Value.int .u32) (by rfl)) (congrArg (Value.int .u32) (by rfl)) (congrArg (Value.int .u32) (by rfl)) (congrArg (Value.int .u32) (by rfl)) (congrArg (Value.int .u32) (by rfl)) (congrArg (Value.int .u32) (by rfl)) (congrArg (Value.int .u32) (by rfl)) (congrArg (Value.int .u32) (by rfl)) rfl (congrArg (Value.int .i64) (by exact(aq (by omega)).symm)))⟩⟩,?_⟩
      rintro _ _ i3 NW ⟨A8,N8,C8,NP,rfl,h0,hv,hq,NX,hp,hz,⟨_,Nr⟩,⟨_,Ns⟩⟩
      refine ar (fun c15=>?_) (fun c15=>?_)
      ·refine ar (fun c16=>?_) (fun c16=>?_)
       ·rw [Int.tmod_eq_emod_of_nonneg Vc.1,aq (x:=Dg.nOf l % 16) (by omega),aq (by omega)]at c16
        refine⟨bXU [1] [5] NW.drew (fun k=>w.heap.size≤k∧k≠gv∧k≠NB),?_⟩
        have Ns:=Blk.drew Ns
        have hz:=hz.pu (Pu.aI _)
        refine⟨.inr ⟨by decide,bX.ld Ns (by(intro h;omega)) _⟩,_,_,_,Ns.at rfl,?_⟩
        obtain⟨p17,Po,aeG,hx17,hz17,aet⟩:=hz.ld (i:=i3) (by omega) (by omega)
        refine⟨by constructor<;>omega,ai p17 aeG ⟨.inl (by decide),_,aet 0 (by decide),?_⟩⟩
        refine mkd fun Ox NT NG=>?_
        have ne_gv1_gv5:=NG.ne Ns
        have Nv:=NG.blk
        refine bXU.du NG.pu (by decide) ?_
        have NX:=(NX.pu (Pu.aI _)).pu NG.pu
        have hp:=Ch.made (Ch.drew hp) NG
        refine NX.app nG Nv (x:=(⟨Po.v⟩:U32)) (by rfl) (by have:=NX.len;have:NP.length≤26:=(by rw [hv];simp;omega);omega) (by have:=NX.len;have:NP.length≤26:=(by rw [hv];simp;omega);omega) (by have h1:gv<NW.heap.size:=Nr.lt;have h2:NB<NW.heap.size:=Ns.lt;have h3:NW.heap.size≤NT.heap.size:=NG.kept.size;have h4:w.heap.size≤NT.heap.size:=(by exact hp.size);refine⟨?_,?_,?_⟩<;>omega) fun A_wv7 Q0 NU NX NL=>?_
        refine bXU.more NL (by intro k hk;exact .inl hk) (by decide) ?_
        have Ns:=Ch.blk NL (Made.old NG Ns) (fun h=>h.2.2 rfl)
        refine aP Ns (by simp) fun N1 Nz=>?_
        have Ns:Blk N1 NB #[(.int .u32 ((l.getD 0 ⟨0⟩).v)),(.int .u32 ((l.getD 1 ⟨0⟩).v)),(.int .u32 ((l.getD 2 ⟨0⟩).v)),(.int .u32 ((l.getD 3 ⟨0⟩).v)),(.int .u32 ((l.getD 4 ⟨0⟩).v)),(.int .u32 ((l.getD 5 ⟨0⟩).v)),(.int .u32 ((l.getD 6 ⟨0⟩).v)),(.int .u32 ((l.getD 7 ⟨0⟩).v)),(.slice A_wv7 (N8+1) Q0),(.int .i64 (Dg.nOf l))] _:=Nz.blk.cast (by kernel_rfl)
        refine bXU.grow Nz.ch ?_
        rintro _ rfl
        have hp:=Ch.call (Ch.call hp NL (by intro k hk;exact .inr hk.1)) Nz.ch (by exact fun k e=>.inr (e▸NO))
        have hz:=((hz.pu NG.pu).ch NL (fun k hx hy=>by have h1:=OG k hx;omega)).ch Nz.ch (fun k hx e=>(fun hx=>absurd (OG _ hx) (Nat.not_lt.2 NO)) (e▸hx))
        have Nr:=Ch.blk Nz.ch (Ch.blk NL (Made.old NG (Blk.drew Nr)) (fun h=>h.2.1 rfl)) (NS)
        have NX:=NX.ch Nz.ch (fun k hx e=>hx.2.2 e)
        exact⟨_,by rw [IntKind.wrap_i64];omega,A_wv7,(N8+1),Q0,(NP++ [(⟨Po.v⟩:U32)]),rfl,by rw [IntKind.wrap_i64];omega,by rw [Dg.uQ (by omega) (by omega) (by omega) ‹_›,← hv],by rw [aq (by omega)];intro i x hi hx;exact hq i x (by omega) hx,NX,hp,hz,⟨_,Nr⟩,⟨_,Ns⟩⟩
       ·rw [Int.tmod_eq_emod_of_nonneg Vc.1,aq (x:=Dg.nOf l % 16) (by omega),aq (by omega)]at c16
        obtain⟨Va,RX,aeF,adJ,hz18,aes⟩:=hz.ld (i:=i3) (by omega) (by omega)
        refine⟨by constructor<;>omega,ai Va aeF ⟨_,aes 0 (by decide),?_⟩⟩
        refine aB (fun c19=>?_) (fun c19=>?_)
        ·have hE:Dg.ay l=20:=Dg.dX Pm hg (i:=i3.toNat - (10+(Dg.nOf l % 16).toNat)) (by rw [List.getElem?_drop,show 10+(Dg.nOf l % 16).toNat+(i3.toNat - (10+(Dg.nOf l % 16).toNat))=i3.toNat by omega];exact adJ) c19
         refine bH Nr rfl fun NT Of=>?_
         have Nr:=Of.blk
         refine⟨_,_,_,_,_,_,_,_,_,_,_,_,⟨Nr.at rfl,Nr.at rfl,Nr.at rfl,Nr.at rfl,Nr.at rfl,Nr.at rfl,Nr.at rfl,Nr.at rfl,Nr.at rfl,Nr.at rfl⟩,?_⟩
         have hp:=Ch.call hp Of.ch (by exact fun k e=>.inr (e▸NR))
         exact⟨fun _=>False,none,0,0,congrArg Value.tuple (lE (congrArg Value.agg (lF (congrArg (Value.int .u32) (by(rw [Dg.aH hE];rfl))) (congrArg (Value.int .u32) (by(rw [Dg.aH hE];rfl))) (congrArg (Value.int .u32) (by(rw [Dg.aH hE];rfl))) (congrArg (Value.int .u32) (by(rw [Dg.aH hE];rfl))) (congrArg (Value.int .u32) (by(rw [Dg.aH hE];rfl))) (congrArg (Value.int .u32) (by(rw [Dg.aH hE];rfl))) (congrArg (Value.int .u32) (by(rw [Dg.aH hE];rfl))) (congrArg (Value.int .u32) (by(rw [Dg.aH hE];rfl))) (by rfl) (congrArg (Value.int .i64) (by(rw [Dg.aH hE];rfl))))) (congrArg (Value.int .i64) (by exact hE.symm))),by rw [Dg.aH hE];exact Rd.nil,fun k h=>h.elim,hp⟩
        ·rintro _ rfl
         exact⟨_,by rw [IntKind.wrap_i64];omega,A8,N8,C8,NP,rfl,by rw [IntKind.wrap_i64];omega,by rw [hv,aq (by omega)];congr 1;omega,by rw [aq (by omega)];intro i x hi hx;by_cases he:i+(10+(Dg.nOf l % 16).toNat)=i3.toNat;(rw [List.getElem?_drop,Nat.add_comm,he]at hx;simp_all);exact hq i x (by omega) hx,NX,hp,hz,⟨_,Nr⟩,⟨_,Ns⟩⟩
      ·have hE:Dg.ay l=0:=Dg.jh Pm hg (fun i x hx=>hq i x (by have:=(List.getElem?_eq_some_iff.1 hx).1;rw [List.length_drop]at this;omega) hx)
       have WY:NP=(l.drop 10).take (Dg.nOf l % 16).toNat:=by rw [hv,Dg.xV (by omega) (by omega)]
       refine⟨_,_,_,_,_,_,_,_,_,_,_,_,⟨Ns.at rfl,Ns.at rfl,Ns.at rfl,Ns.at rfl,Ns.at rfl,Ns.at rfl,Ns.at rfl,Ns.at rfl,Ns.at rfl,Ns.at rfl⟩,bH Nr rfl fun NT Of=>?_⟩
       have Nr:=Of.blk
       refine⟨_,_,_,_,_,_,_,_,_,_,_,_,⟨Nr.at rfl,Nr.at rfl,Nr.at rfl,Nr.at rfl,Nr.at rfl,Nr.at rfl,Nr.at rfl,Nr.at rfl,Nr.at rfl,Nr.at rfl⟩,?_⟩
       have NX:=NX.ch Of.ch (fun k hx e=>hx.2.1 e)
       have hp:=Ch.call hp Of.ch (by exact fun k e=>.inr (e▸NR))
       exact⟨_,_,_,_,congrArg Value.tuple (lE (congrArg Value.agg (lF (congrArg (Value.int .u32) (by(rw [Dg.bQ hE];rfl))) (congrArg (Value.int .u32) (by(rw [Dg.bQ hE];rfl))) (congrArg (Value.int .u32) (by(rw [Dg.bQ hE];rfl))) (congrArg (Value.int .u32) (by(rw [Dg.bQ hE];rfl))) (congrArg (Value.int .u32) (by(rw [Dg.bQ hE];rfl))) (congrArg (Value.int .u32) (by(rw [Dg.bQ hE];rfl))) (congrArg (Value.int .u32) (by(rw [Dg.bQ hE];rfl))) (congrArg (Value.int .u32) (by(rw [Dg.bQ hE];rfl))) (by rfl) (congrArg (Value.int .i64) (by(rw [Dg.bQ hE];rfl))))) (congrArg (Value.int .i64) (by exact hE.symm))),by rw [Dg.bQ hE];have h9:=(NX).rd;rw [WY]at h9;exact h9,by intro k h;exact h.1.1,hp⟩
    ·have hg:¬(Dg.nOf l>36028797018963968∨(Dg.nOf l<16∧Dg.ij l≠S8.first)):=by rintro(h | h);exact Vj h;exact SP h.1
     have Ns:=Blk.drew (Blk.drew Ns)
     refine gM (aP Ns (by simp) fun NI Nx=>?_)
     have Ns:Blk NI NB #[(.int .u32 ((l.getD 0 ⟨0⟩).v)),(.int .u32 ((l.getD 1 ⟨0⟩).v)),(.int .u32 ((l.getD 2 ⟨0⟩).v)),(.int .u32 ((l.getD 3 ⟨0⟩).v)),(.int .u32 ((l.getD 4 ⟨0⟩).v)),(.int .u32 ((l.getD 5 ⟨0⟩).v)),(.int .u32 ((l.getD 6 ⟨0⟩).v)),(.int .u32 ((l.getD 7 ⟨0⟩).v)),(.slice none 0 0),(.int .i64 (i64.wrap (Dg.nOf l)))] _:=Nx.blk.cast (by kernel_rfl)
     rintro _ rfl
     have hp:=Ch.call (Ch.drew (Ch.drew hp)) Nx.ch (by exact fun k e=>.inr (e▸NO))
     have hz:=(hz.pu (Pu.aI _)).ch Nx.ch (fun k hx e=>(fun hx=>absurd (OG _ hx) (Nat.not_lt.2 NO)) (e▸hx))
     have Nr:=Ch.blk Nx.ch (Blk.drew (Blk.drew Nr)) (NS)
     refine⟨fun mz i3 W=>∃A8:Option Addr,∃N8:Nat,∃C8:Nat,∃NP:List U32,mz=(26 - i3).toNat∧(10≤i3∧i3≤26)∧(NP=(l.drop 10).take (min (i3.toNat - 10) (Dg.nOf l % 16).toNat))∧(∀(i:Nat)(x:U32),i+(10+(Dg.nOf l % 16).toNat)<i3.toNat→(l.drop (10+(Dg.nOf l % 16).toNat))[i]? =some x→x.v=0)∧Own W (fun k=>w.heap.size≤k∧k≠gv∧k≠NB) 29 A8 N8 C8 NP∧Ch (fun _=>False) w W∧Rd W Z wordsA wordsN wordsC l∧(∃T,Blk W gv #[(.int .u32 0),(.int .u32 0),(.int .u32 0),(.int .u32 0),(.int .u32 0),(.int .u32 0),(.int .u32 0),(.int .u32 0),(.slice none 0 0),(.int .i64 0)] T)∧(∃T,Blk W NB #[(.int .u32 ((l.getD 0 ⟨0⟩).v)),(.int .u32 ((l.getD 1 ⟨0⟩).v)),(.int .u32 ((l.getD 2 ⟨0⟩).v)),(.int .u32 ((l.getD 3 ⟨0⟩).v)),(.int .u32 ((l.getD 4 ⟨0⟩).v)),(.int .u32 ((l.getD 5 ⟨0⟩).v)),(.int .u32 ((l.getD 6 ⟨0⟩).v)),(.int .u32 ((l.getD 7 ⟨0⟩).v)),(.slice A8 N8 C8),(.int .i64 (Dg.nOf l))] T),⟨_,none,0,0,([]),rfl,(by omega),(by simp),(by intro i x h;omega),Own.nil,hp,hz,⟨_,Nr⟩,⟨_,Ns.cast (lF (congrArg (Value.int .u32) (by rfl)) (congrArg (Value.int .u32) (by rfl)) (congrArg (Value.int .u32) (by rfl)) (congrArg (Value.int .u32) (by rfl)) (congrArg (Value.int .u32) (by rfl)) (congrArg (Value.int .u32) (by rfl)) (congrArg (Value.int .u32) (by rfl)) (congrArg (Value.int .u32) (by rfl)) rfl (congrArg (Value.int .i64) (by exact(aq (by omega)).symm)))⟩⟩,?_⟩
     rintro _ _ i3 NW ⟨A8,N8,C8,NP,rfl,h0,hv,hq,NX,hp,hz,⟨_,Nr⟩,⟨_,Ns⟩⟩
     refine ar (fun c20=>?_) (fun c20=>?_)
     ·refine ar (fun c21=>?_) (fun c21=>?_)
      ·rw [Int.tmod_eq_emod_of_nonneg Vc.1,aq (x:=Dg.nOf l % 16) (by omega),aq (by omega)]at c21
       refine⟨bXU [1] [5] NW.drew (fun k=>w.heap.size≤k∧k≠gv∧k≠NB),?_⟩
       have Ns:=Blk.drew Ns
       have hz:=hz.pu (Pu.aI _)
       refine⟨.inr ⟨by decide,bX.ld Ns (by(intro h;omega)) _⟩,_,_,_,Ns.at rfl,?_⟩
       obtain⟨UB,O1,aeE,hx22,hz22,aer⟩:=hz.ld (i:=i3) (by omega) (by omega)
       refine⟨by constructor<;>omega,ai UB aeE ⟨.inl (by decide),_,aer 0 (by decide),?_⟩⟩
       refine mkd fun Ox NT NG=>?_
       have ne_gv1_gv5:=NG.ne Ns
       have Nv:=NG.blk
       refine bXU.du NG.pu (by decide) ?_
       have NX:=(NX.pu (Pu.aI _)).pu NG.pu
       have hp:=Ch.made (Ch.drew hp) NG
       refine NX.app nG Nv (x:=(⟨O1.v⟩:U32)) (by rfl) (by have:=NX.len;have:NP.length≤26:=(by rw [hv];simp;omega);omega) (by have:=NX.len;have:NP.length≤26:=(by rw [hv];simp;omega);omega) (by have h1:gv<NW.heap.size:=Nr.lt;have h2:NB<NW.heap.size:=Ns.lt;have h3:NW.heap.size≤NT.heap.size:=NG.kept.size;have h4:w.heap.size≤NT.heap.size:=(by exact hp.size);refine⟨?_,?_,?_⟩<;>omega) fun A_wv7 Q0 NU NX NL=>?_
       refine bXU.more NL (by intro k hk;exact .inl hk) (by decide) ?_
       have Ns:=Ch.blk NL (Made.old NG Ns) (fun h=>h.2.2 rfl)
       refine aP Ns (by simp) fun N1 Nz=>?_
       have Ns:Blk N1 NB #[(.int .u32 ((l.getD 0 ⟨0⟩).v)),(.int .u32 ((l.getD 1 ⟨0⟩).v)),(.int .u32 ((l.getD 2 ⟨0⟩).v)),(.int .u32 ((l.getD 3 ⟨0⟩).v)),(.int .u32 ((l.getD 4 ⟨0⟩).v)),(.int .u32 ((l.getD 5 ⟨0⟩).v)),(.int .u32 ((l.getD 6 ⟨0⟩).v)),(.int .u32 ((l.getD 7 ⟨0⟩).v)),(.slice A_wv7 (N8+1) Q0),(.int .i64 (Dg.nOf l))] _:=Nz.blk.cast (by kernel_rfl)
       refine bXU.grow Nz.ch ?_
       rintro _ rfl
       have hp:=Ch.call (Ch.call hp NL (by intro k hk;exact .inr hk.1)) Nz.ch (by exact fun k e=>.inr (e▸NO))
       have hz:=((hz.pu NG.pu).ch NL (fun k hx hy=>by have h1:=OG k hx;omega)).ch Nz.ch (fun k hx e=>(fun hx=>absurd (OG _ hx) (Nat.not_lt.2 NO)) (e▸hx))
       have Nr:=Ch.blk Nz.ch (Ch.blk NL (Made.old NG (Blk.drew Nr)) (fun h=>h.2.1 rfl)) (NS)
       have NX:=NX.ch Nz.ch (fun k hx e=>hx.2.2 e)
       exact⟨_,by rw [IntKind.wrap_i64];omega,A_wv7,(N8+1),Q0,(NP++ [(⟨O1.v⟩:U32)]),rfl,by rw [IntKind.wrap_i64];omega,by rw [Dg.uQ (by omega) (by omega) (by omega) ‹_›,← hv],by rw [aq (by omega)];intro i x hi hx;exact hq i x (by omega) hx,NX,hp,hz,⟨_,Nr⟩,⟨_,Ns⟩⟩
      ·rw [Int.tmod_eq_emod_of_nonneg Vc.1,aq (x:=Dg.nOf l % 16) (by omega),aq (by omega)]at c21
       obtain⟨SF,QP,aeD,adI,hz23,aeq⟩:=hz.ld (i:=i3) (by omega) (by omega)
       refine⟨by constructor<;>omega,ai SF aeD ⟨_,aeq 0 (by decide),?_⟩⟩
       refine aB (fun c24=>?_) (fun c24=>?_)
       ·have hE:Dg.ay l=20:=Dg.dX Pm hg (i:=i3.toNat - (10+(Dg.nOf l % 16).toNat)) (by rw [List.getElem?_drop,show 10+(Dg.nOf l % 16).toNat+(i3.toNat - (10+(Dg.nOf l % 16).toNat))=i3.toNat by omega];exact adI) c24
        refine bH Nr rfl fun NT Of=>?_
        have Nr:=Of.blk
        refine⟨_,_,_,_,_,_,_,_,_,_,_,_,⟨Nr.at rfl,Nr.at rfl,Nr.at rfl,Nr.at rfl,Nr.at rfl,Nr.at rfl,Nr.at rfl,Nr.at rfl,Nr.at rfl,Nr.at rfl⟩,?_⟩
        have hp:=Ch.call hp Of.ch (by exact fun k e=>.inr (e▸NR))
        exact⟨fun _=>False,none,0,0,congrArg Value.tuple (lE (congrArg Value.agg (lF (congrArg (Value.int .u32) (by(rw [Dg.aH hE];rfl))) (congrArg (Value.int .u32) (by(rw [Dg.aH hE];rfl))) (congrArg (Value.int .u32) (by(rw [Dg.aH hE];rfl))) (congrArg (Value.int .u32) (by(rw [Dg.aH hE];rfl))) (congrArg (Value.int .u32) (by(rw [Dg.aH hE];rfl))) (congrArg (Value.int .u32) (by(rw [Dg.aH hE];rfl))) (congrArg (Value.int .u32) (by(rw [Dg.aH hE];rfl))) (congrArg (Value.int .u32) (by(rw [Dg.aH hE];rfl))) (by rfl) (congrArg (Value.int .i64) (by(rw [Dg.aH hE];rfl))))) (congrArg (Value.int .i64) (by exact hE.symm))),by rw [Dg.aH hE];exact Rd.nil,fun k h=>h.elim,hp⟩
       ·rintro _ rfl
        exact⟨_,by rw [IntKind.wrap_i64];omega,A8,N8,C8,NP,rfl,by rw [IntKind.wrap_i64];omega,by rw [hv,aq (by omega)];congr 1;omega,by rw [aq (by omega)];intro i x hi hx;by_cases he:i+(10+(Dg.nOf l % 16).toNat)=i3.toNat;(rw [List.getElem?_drop,Nat.add_comm,he]at hx;simp_all);exact hq i x (by omega) hx,NX,hp,hz,⟨_,Nr⟩,⟨_,Ns⟩⟩
     ·have hE:Dg.ay l=0:=Dg.jh Pm hg (fun i x hx=>hq i x (by have:=(List.getElem?_eq_some_iff.1 hx).1;rw [List.length_drop]at this;omega) hx)
      have WY:NP=(l.drop 10).take (Dg.nOf l % 16).toNat:=by rw [hv,Dg.xV (by omega) (by omega)]
      refine⟨_,_,_,_,_,_,_,_,_,_,_,_,⟨Ns.at rfl,Ns.at rfl,Ns.at rfl,Ns.at rfl,Ns.at rfl,Ns.at rfl,Ns.at rfl,Ns.at rfl,Ns.at rfl,Ns.at rfl⟩,bH Nr rfl fun NT Of=>?_⟩
      have Nr:=Of.blk
      refine⟨_,_,_,_,_,_,_,_,_,_,_,_,⟨Nr.at rfl,Nr.at rfl,Nr.at rfl,Nr.at rfl,Nr.at rfl,Nr.at rfl,Nr.at rfl,Nr.at rfl,Nr.at rfl,Nr.at rfl⟩,?_⟩
      have NX:=NX.ch Of.ch (fun k hx e=>hx.2.1 e)
      have hp:=Ch.call hp Of.ch (by exact fun k e=>.inr (e▸NR))
      exact⟨_,_,_,_,congrArg Value.tuple (lE (congrArg Value.agg (lF (congrArg (Value.int .u32) (by(rw [Dg.bQ hE];rfl))) (congrArg (Value.int .u32) (by(rw [Dg.bQ hE];rfl))) (congrArg (Value.int .u32) (by(rw [Dg.bQ hE];rfl))) (congrArg (Value.int .u32) (by(rw [Dg.bQ hE];rfl))) (congrArg (Value.int .u32) (by(rw [Dg.bQ hE];rfl))) (congrArg (Value.int .u32) (by(rw [Dg.bQ hE];rfl))) (congrArg (Value.int .u32) (by(rw [Dg.bQ hE];rfl))) (congrArg (Value.int .u32) (by(rw [Dg.bQ hE];rfl))) (by rfl) (congrArg (Value.int .i64) (by(rw [Dg.bQ hE];rfl))))) (congrArg (Value.int .i64) (by exact hE.symm))),by rw [Dg.bQ hE];have h9:=(NX).rd;rw [WY]at h9;exact h9,by intro k h;exact h.1.1,hp⟩
end
end Go.Proofs.YtinhphjfnedhgaaGreatDoor
namespace Go.Proofs.YtinhphjfnedhgaaGreatDoor
open Go.Proofs.Tryz (prog)
open Go Go.RowKit V
open Go.IntKind (i64 u32 u64)
section
set_option maxRecDepth 100000
set_option maxHeartbeats 1000000
attribute [local irreducible] Vc2 VcD
def L6:Ctr Un:=⟨[.one (.int .i64),.one (.int .i64)],[],[],[],fun s i K=>((1≤(s:Int)∧(s:Int)≤64)∧(1≤(i:Int)∧(i:Int)≤64))∧∀(rN:Nat→Nat),K ⟨(.tuple #[(.pointer (some (Addr.mk (rN 0) 0 none))),(.int .i64 0)]),(some (.t [(some (.obj 0 0 0)),none])),[],[(.ob 0 rN (Mem.fresh s.toNat i.toNat))],[]⟩⟩
theorem IF:LV Un prog 27 L6:=by
 show ∀(s:Int)(i:Int),∀Q:Ou Un→Prop,(((1≤(s:Int)∧(s:Int)≤64)∧(1≤(i:Int)∧(i:Int)≤64))∧∀(rN:Nat→Nat),Q ⟨(.tuple #[(.pointer (some (Addr.mk (rN 0) 0 none))),(.int .i64 0)]),(some (.t [(some (.obj 0 0 0)),none])),[],[(.ob 0 rN (Mem.fresh s.toNat i.toNat))],[]⟩)→∀(X:Nat→Nat→Prop)(w:World),Sat (U:=Un) [] X w→aC (U:=Un) [] fr0 []→Calls prog 27 #[(.int .i64 s),(.int .i64 i)] w (aM (U:=Un) [] [] X w Q)
 intro s i Q hQ X w hs hl
 obtain⟨⟨h1,h2⟩,hQ⟩:=hQ
 refine(Ng s i h1 h2).mono ?_
 rintro e w' ⟨u,rfl,L,rfl,hM,hf,q⟩
 exact aM.rZ (Z:=L.X) hs q (show RS (U:=Un) L.X w' (.ob 0 (fun _=>L.g) (Mem.fresh s.toNat i.toNat))from(⟨L,rfl,fun _=>Iff.rfl,hM⟩:bJ 0 (fun _=>L.g) (Mem.fresh s.toNat i.toNat) L.X w')) hf (hQ (fun _=>L.g)) (KnO.pair rfl) (fun _ _ h=>by cases h)
def Ij:Ctr Un:=⟨[.one (.int .i64),.one (.int .i64)],[],[],[],fun s i K=>((1≤(s:Int)∧(s:Int)≤64)∧(1≤(i:Int)∧(i:Int)≤64))∧∀(rN:Nat→Nat),K ⟨(.tuple #[(.pointer (some (Addr.mk (rN 0) 0 none))),(.int .i64 0)]),(some (.t [(some (.obj 0 0 0)),none])),[],[(.ob 2 rN (Mem.fresh s.toNat i.toNat))],[]⟩⟩
theorem Ii:LV Un prog 28 Ij:=by
 show ∀(s:Int)(i:Int),∀Q:Ou Un→Prop,(((1≤(s:Int)∧(s:Int)≤64)∧(1≤(i:Int)∧(i:Int)≤64))∧∀(rN:Nat→Nat),Q ⟨(.tuple #[(.pointer (some (Addr.mk (rN 0) 0 none))),(.int .i64 0)]),(some (.t [(some (.obj 0 0 0)),none])),[],[(.ob 2 rN (Mem.fresh s.toNat i.toNat))],[]⟩)→∀(X:Nat→Nat→Prop)(w:World),Sat (U:=Un) [] X w→aC (U:=Un) [] fr0 []→Calls prog 28 #[(.int .i64 s),(.int .i64 i)] w (aM (U:=Un) [] [] X w Q)
 intro s i Q hQ X w hs hl
 obtain⟨⟨h1,h2⟩,hQ⟩:=hQ
 refine(Lj s i h1 h2).mono ?_
 rintro e w' ⟨u,rfl,g,L,rfl,hM,hf,q⟩
 exact aM.rZ (Z:=L.X) hs q (show RS (U:=Un) L.X w' (.ob 2 (fun _=>g) (Mem.fresh s.toNat i.toNat))from(⟨L,fun _=>Iff.rfl,hM⟩:bJ 2 (fun _=>g) (Mem.fresh s.toNat i.toNat) L.X w')) hf (hQ (fun _=>g)) (KnO.pair rfl) (fun _ _ h=>by cases h)
def tK:Ctr Un:=⟨[.one (.obj 0 0)],[],[.ob 0 []],[0],fun rm m K=>1≤m.S∧∀(rN:Nat→Nat),K ⟨(.pointer (some (Addr.mk (rN 0) 0 none))),(some (.p (.obj 1 0 0))),[.ob 0 (m.cH m.S)],[(.ob 1 rN ((DB.new m).pd))],[(.l 1 1,.p (.obj 0 0 0))]⟩⟩
theorem IT:LV Un prog 29 tK:=by
 show ∀(rm:Nat→Nat)(m:Mem),∀Q:Ou Un→Prop,(1≤m.S∧∀(rN:Nat→Nat),Q ⟨(.pointer (some (Addr.mk (rN 0) 0 none))),(some (.p (.obj 1 0 0))),[.ob 0 (m.cH m.S)],[(.ob 1 rN ((DB.new m).pd))],[(.l 1 1,.p (.obj 0 0 0))]⟩)→∀(X:Nat→Nat→Prop)(w:World),Sat (U:=Un) [(.ob 0 rm m)] X w→aC (U:=Un) [(.ob 0 rm m)] fr0 []→Calls prog 29 #[(.pointer (some (Addr.mk (rm 0) 0 none)))] w (aM (U:=Un) [(.ob 0 rm m)] [0] X w Q)
 intro rm m Q hQ X w hs hl
 obtain⟨hS,hQ⟩:=hQ
 obtain⟨L,hg,hM,hX⟩:=lv hs
 rw [hg]
 refine(No hM hS).mono ?_
 rintro e w' ⟨u,rfl,g,a,rfl,UY,hD,⟨Ws,Tl⟩,q⟩
 have Ow:∀k,L.X k→k<w.heap.size:=hM.lt
 exact aM.Bm (k:=some (.p (.obj 1 0 0))) (kc:= [(.l 1 1,.p (.obj 0 0 0))]) (Z0:=X 0) (Z1:=fun k=>k=g∨k=a) (q.mono fun k hk=>(hX k).1 hk) (show bJ 0 rm (m.cH m.S) (X 0) w' from⟨L,hg,hX,UY⟩) (fun k hk=>.inl hk) (show RS (U:=Un) (fun k=>k=g∨k=a) w' (.ob 1 (fun i=>if i=0 then g else L.g) (DB.new m).pd)from(⟨a,fun k=>Iff.rfl,hD.pd⟩:bJ 1 (fun i=>if i=0 then g else L.g) (DB.new m).pd (fun k=>k=g∨k=a) w'))
  (fun k hk=>by rcases hk with rfl | rfl;exact Ws;exact Tl) (fun k hk OO=>by have:=Ow k ((hX k).2 hk);rcases OO with rfl | rfl<;>omega) (hQ (fun i=>if i=0 then g else L.g)) rfl (r9 ⟨_,_,_,rfl,show some (Value.pointer (some ⟨rm 0,0,none⟩))=some (.pointer (some ⟨L.g,0,none⟩))by rw [hg]⟩)
def jw:Ctr Un:=⟨[.one (.obj 0 0)],[],[.ob 1 [(1,1,0)],.ob 0 []],[],fun r E rm m K=>E.n=m.S∧∀(A:Option Addr)(c:Nat),K ⟨(.slice A (((E.on m).words.map U32.mk).length) c),(some (.p (.sl 2 0))),[],[(.lst 1 true 29 A c ((E.on m).words.map U32.mk))],[]⟩⟩
theorem oC:LV Un prog 52 jw:=by
 show ∀(r:Nat→Nat)(E:Pd)(rm:Nat→Nat)(m:Mem),∀Q:Ou Un→Prop,(E.n=m.S∧∀(A:Option Addr)(c:Nat),Q ⟨(.slice A (((E.on m).words.map U32.mk).length) c),(some (.p (.sl 2 0))),[],[(.lst 1 true 29 A c ((E.on m).words.map U32.mk))],[]⟩)→∀(X:Nat→Nat→Prop)(w:World),Sat (U:=Un) [(.ob 1 r E),(.ob 0 rm m)] X w→aC (U:=Un) [(.ob 1 r E),(.ob 0 rm m)] fr0 [(.l 0 1,.p (.obj 1 0 0))]→Calls prog 52 #[(.pointer (some (Addr.mk (r 0) 0 none)))] w (aM (U:=Un) [(.ob 1 r E),(.ob 0 rm m)] [] X w Q)
 intro r E rm m Q hQ X w hs hl
 obtain⟨hn,hQ⟩:=hQ
 obtain⟨a,L,hg,hr,hD,QT,Rm⟩:=yq hs hl hn
 refine(LI hD).mono ?_
 rintro e w' ⟨u,rfl,g,n,rfl,ho,hz,q⟩
 have Rj:=ho.len
 subst Rj
 exact aM.more hs q (GW (U:=Un) (t:=1) ho) (fun k hk=>by have:=hk.1;omega) (hQ _ _) rfl
def nd:Ctr Un:=⟨[.one (.obj 0 0)],[],[.ob 3 [(1,1,0)],.ob 2 []],[],fun r E rm m K=>E.n=m.S∧∀(A:Option Addr)(c:Nat),K ⟨(.slice A (((E.on m).words.map U32.mk).length) c),(some (.p (.sl 2 0))),[],[(.lst 1 true 29 A c ((E.on m).words.map U32.mk))],[]⟩⟩
theorem B8:LV Un prog 53 nd:=by
 show ∀(r:Nat→Nat)(E:Pd)(rm:Nat→Nat)(m:Mem),∀Q:Ou Un→Prop,(E.n=m.S∧∀(A:Option Addr)(c:Nat),Q ⟨(.slice A (((E.on m).words.map U32.mk).length) c),(some (.p (.sl 2 0))),[],[(.lst 1 true 29 A c ((E.on m).words.map U32.mk))],[]⟩)→∀(X:Nat→Nat→Prop)(w:World),Sat (U:=Un) [(.ob 3 r E),(.ob 2 rm m)] X w→aC (U:=Un) [(.ob 3 r E),(.ob 2 rm m)] fr0 [(.l 0 1,.p (.obj 1 0 0))]→Calls prog 53 #[(.pointer (some (Addr.mk (r 0) 0 none)))] w (aM (U:=Un) [(.ob 3 r E),(.ob 2 rm m)] [] X w Q)
 intro r E rm m Q hQ X w hs hl
 obtain⟨hn,hQ⟩:=hQ
 obtain⟨L,hD⟩:=Mk hs hl hn
 refine(GN hD).mono ?_
 rintro e w' ⟨u,rfl,Z',A',N',C',rfl,ho,hz,q⟩
 have Rj:=ho.len
 subst Rj
 exact aM.more hs q (GW (U:=Un) (t:=1) ho) (fun k hk=>hz k hk.1) (hQ _ _) rfl
def BY:Ctr Un:=⟨[],[],[],[],fun K=>∀(rN:Nat→Nat),K ⟨(.pointer (some (Addr.mk (rN 0) 0 none))),(some (.p (.obj 0 0 0))),[],[(.ob 4 rN Dg.new)],[]⟩⟩
theorem LZ:LV Un prog 125 BY:=by
 show ∀Q:Ou Un→Prop,(∀(rN:Nat→Nat),Q ⟨(.pointer (some (Addr.mk (rN 0) 0 none))),(some (.p (.obj 0 0 0))),[],[(.ob 4 rN Dg.new)],[]⟩)→∀(X:Nat→Nat→Prop)(w:World),Sat (U:=Un) [] X w→aC (U:=Un) [] fr0 []→Calls prog 125 #[] w (aM (U:=Un) [] [] X w Q)
 intro Q hQ X w hs hl
 refine M9.mono ?_
 rintro e w' ⟨u,rfl,g,L,rfl,hD,hf,q⟩
 exact aM.rZ (Z:=L.X g) hs q (show RS (U:=Un) (L.X g) w' (.ob 4 (fun _=>g) Dg.new)from(⟨L,fun _=>Iff.rfl,hD⟩:bJ 4 (fun _=>g) Dg.new (L.X g) w')) hf (hQ (fun _=>g)) rfl (fun _ _ h=>by cases h)
def sF:Ctr Un:=⟨[.one (.obj 0 0),.one (.sl 1)],[(2,5)],[.ob 4 [],.lst 1 false 29,.ob 5 []],[0],fun r d A c l rk kk K=>d.Ok∧l.length≤1099511627776∧K ⟨(.tuple #[]),(some (.t [])),[.ob 4 (d.add kk l)],[],[]⟩⟩
theorem Ia:LV Un prog 135 sF:=by
 show ∀(r:Nat→Nat)(d:Dg)(A:Option Addr)(c:Nat)(l:List U32)(rk:Nat→Nat)(kk:List Int),∀Q:Ou Un→Prop,(d.Ok∧l.length≤1099511627776∧Q ⟨(.tuple #[]),(some (.t [])),[.ob 4 (d.add kk l)],[],[]⟩)→∀(X:Nat→Nat→Prop)(w:World),Sat (U:=Un) [(.ob 4 r d),(.lst 1 false 29 A c l),(.ob 5 rk kk)] X w→aC (U:=Un) [(.ob 4 r d),(.lst 1 false 29 A c l),(.ob 5 rk kk)] fr0 []→Calls prog 135 #[(.pointer (some (Addr.mk (r 0) 0 none))),(.slice A l.length c)] w (aM (U:=Un) [(.ob 4 r d),(.lst 1 false 29 A c l),(.ob 5 rk kk)] [0] X w Q)
 intro r d A c l rk kk Q hQ X w hs hl
 obtain⟨OZ,hlen,hQ⟩:=hQ
 obtain⟨L,hX,hD⟩:=(hs.res 0 _ rfl:bJ 4 r d (X 0) w)
 have hr:Rd w (X 1) A l.length c l:=hs.res 1 _ rfl
 obtain⟨hX2,hK⟩:=(hs.res 2 _ rfl:bJ 5 rk kk (X 2) w)
 have h0:X 0 (r 0):=(hX _).1 (.inl rfl)
 refine(Na hD hr hK OZ hlen (fun h=>hs.dis 0 1 (by simp) (by simp) (by omega) _ h0 h) (fun h=>hs.dis 0 2 (by simp) (by simp) (by omega) _ h0 ((hX2 _).1 h))).mono ?_
 rintro e w' ⟨u,rfl,L',rfl,hD',hg,q⟩
 exact aM.first (Z:=L'.X (r 0)) hs (q.mono fun k hk=>(hX k).1 hk) (show bJ 4 r (d.add kk l) (L'.X (r 0)) w' from⟨L',fun _=>Iff.rfl,hD'⟩) (fun k hk=>(hg k hk).imp (fun h=>(hX k).1 h) id) hQ (KnO.tup _ (by simp))
def kL:Ctr Un:=⟨[.one (.obj 0 0)],[],[.ob 4 []],[],fun r d K=>d.Ok∧K ⟨(.agg ⟨Dg.sv d⟩),none,[],[],[]⟩⟩
theorem wV:LV Un prog 126 kL:=by
 show ∀(r:Nat→Nat)(d:Dg),∀Q:Ou Un→Prop,(d.Ok∧Q ⟨(.agg ⟨Dg.sv d⟩),none,[],[],[]⟩)→∀(X:Nat→Nat→Prop)(w:World),Sat (U:=Un) [(.ob 4 r d)] X w→aC (U:=Un) [(.ob 4 r d)] fr0 []→Calls prog 126 #[(.pointer (some (Addr.mk (r 0) 0 none)))] w (aM (U:=Un) [(.ob 4 r d)] [] X w Q)
 intro r d Q hQ X w hs hl
 obtain⟨OZ,hQ⟩:=hQ
 obtain⟨L,hX,hD⟩:=(hs.res 0 _ rfl:bJ 4 r d (X 0) w)
 refine(Mi hD OZ).mono ?_
 rintro e w' ⟨u,rfl,rfl,q⟩
 rw [rI (by rw [Dg.ek OZ])]
 exact aM.pu hs q hQ trivial
def tw:Ctr Un:=⟨[],[],[],[],fun K=>K ⟨(.agg #[(.int .u32 S8.first.a),(.int .u32 S8.first.b),(.int .u32 S8.first.c),(.int .u32 S8.first.d),(.int .u32 S8.first.e),(.int .u32 S8.first.f),(.int .u32 S8.first.g),(.int .u32 S8.first.h),(.slice none 0 0),(.int .i64 0)]),none,[],[],[]⟩⟩
theorem Ik:LV Un prog 101 tw:=by
 show ∀Q:Ou Un→Prop,(Q ⟨(.agg #[(.int .u32 S8.first.a),(.int .u32 S8.first.b),(.int .u32 S8.first.c),(.int .u32 S8.first.d),(.int .u32 S8.first.e),(.int .u32 S8.first.f),(.int .u32 S8.first.g),(.int .u32 S8.first.h),(.slice none 0 0),(.int .i64 0)]),none,[],[],[]⟩)→∀(X:Nat→Nat→Prop)(w:World),Sat (U:=Un) [] X w→aC (U:=Un) [] fr0 []→Calls prog 101 #[] w (aM (U:=Un) [] [] X w Q)
 intro Q hQ X w hs hl
 refine Lk.mono ?_
 rintro e w' ⟨u,rfl,rfl,q⟩
 exact aM.pu hs q hQ trivial
end
end Go.Proofs.YtinhphjfnedhgaaGreatDoor
namespace Go.Proofs.YtinhphjfnedhgaaGreatDoor
open Go.Proofs.Tryz (prog)
open Go Go.RowKit V
open Go.IntKind (i64 u32 u64)
section
theorem Ei {n j:Nat} {f:Nat→Int} {v:Int}:((List.range n).map f).set j v=(List.range n).map fun o=>if o=j then v else f o:=by
 apply List.ext_getElem?
 intro i
 rw [List.getElem?_set,List.getElem?_map,List.getElem?_map,List.length_map,List.length_range]
 by_cases hi:i<n
 ·rw [List.getElem?_range hi]
  by_cases hj:j=i
  ·subst hj;simp [hi]
  ·rw [if_neg hj];simp [show ¬i=j from fun e=>hj e.symm]
 ·rw [List.getElem?_eq_none (by simp;omega)]
  split<;>simp<;>omega
theorem Mem.cS(m:Mem)(s:Bool)(p:Nat):(m.words s p).length=1024:=by rw [Mem.words,List.length_map,List.length_range]
theorem Mem.KK(m:Mem)(s:Bool)(p o:Int):m.rd s p o=m:=by unfold Mem.rd;split<;>rfl
theorem Ew {w:World} {L:eW} {m:Mem}(h:cv w L m):Calls prog 55 #[ptr L.g] w fun e w'=>∃v,e= .returned v∧v= .int .i64 m.I∧w'=w:=by
 obtain⟨T,hd⟩:=h.hd
 exact qx _ (JL hd rfl ⟨rfl,rfl⟩)
section
variable {w:World} {g:Nat} {L:fL} {m:Mem}
theorem yi(h:bU w g L m) {i:Nat}(hi:i<L.n):
 Calls prog 167 #[ptr g,.int .i64 i] w fun e w'=>∃v,e= .returned v∧∃b,v= .slice (some (Addr.mk b 0 none)) 1024 1024∧Blk w' b (aY ((List.range 1024).map (m.word i))) 29∧w.heap.size≤b∧Pu w w':=by
 have hg:=h.gq
 subst hg
 refine tl _ _ ?_
 refine gR nL (by omega) (by omega) (by omega) fun b w1 hM=>?_
 have e1:(1024:Int).toNat=1024:=rfl
 rw [e1]at hM ⊢
 rintro _ rfl
 have Vh:Blk w1 b (aY ((List.range 1024).map fun o=>if o<0 then m.word i o else 0)) 29:=by
  have e:(List.range 1024).map (fun o=>if o<0 then m.word i o else 0)=List.replicate 1024 0:=by
   rw [List.map_congr_left (g:=fun _=>(0:Int)) (fun a _=>by simp),List.map_const',List.length_range]
  rw [e,dM];exact hM.blk
 refine⟨fun k x w'=>∃j:Nat,x=(j:Int)∧j≤1024∧k=1024 - j∧Blk w' b (aY ((List.range 1024).map fun o=>if o<j then m.word i o else 0)) 29∧Pu w w',⟨1024,0,rfl,by omega,by omega,Vh,hM.pu⟩,?_⟩
 rintro k _ x w2 ⟨j,rfl,hj,rfl,hb,QR⟩
 have h2:=h.pu QR
 obtain⟨T,hd⟩:=h2.hd
 obtain⟨T1,cs,hr,On,O0⟩:=h2.row
 have hn:(0≤(i:Int)∧(i:Int)<(L.n:Int)):=by omega
 cases hp:L.pg i with
 | none=>
  have hc:=O0 i hi
  rw [hp]at hc
  refine ai _ rfl ⟨_,_,_,hd.at rfl,hn,ai _ rfl ⟨none,0,0,by rw [Nat.mul_one,Int.toNat_natCast];exact hr.at hc,af (fun hb=>by simp at hb;omega) (fun _=>⟨b,rfl,?_,?_,QR⟩)⟩⟩
  ·have hz:=h.nil i hi hp
   have e:(fun o=>if o<j then m.word i o else 0)=m.word i:=by funext o;rw [hz o];simp
   rw [← e];exact hb
  ·rw [hM.num];exact Nat.le_refl _
 | some bc=>
  obtain⟨b',c⟩:=bc
  have hc:=O0 i hi
  rw [hp]at hc
  obtain⟨T2,X9,QK,VE,acp⟩:=h2.pgs i b' c hi hp
  refine ai _ rfl ⟨_,_,_,hd.at rfl,hn,ai _ rfl ⟨some (Addr.mk b' 0 none),1024,c,by rw [Nat.mul_one,Int.toNat_natCast];exact hr.at hc,af (fun Ow=>?_) (fun Ow=>⟨b,rfl,?_,?_,QR⟩)⟩⟩
  ·have QS:j<1024:=by simp at Ow;omega
   refine ai _ rfl ⟨_,_,_,hd.at rfl,hn,ai _ rfl ⟨some (Addr.mk b' 0 none),1024,c,by rw [Nat.mul_one,Int.toNat_natCast];exact hr.at hc,⟨by omega,by omega⟩,ai _ rfl ⟨_,by rw [Nat.mul_one,Int.toNat_natCast];exact QK.at (acp j QS),⟨by omega,by omega⟩,ai _ rfl ?_⟩⟩⟩
   rw [Nat.mul_one,Int.toNat_natCast]
   refine cn hb (by rw [List.length_map,List.length_range];exact QS) fun w3 hs=>?_
   rintro _ rfl
   refine⟨1024 - (j+1),by omega,j+1,?_,QS,rfl,?_,?_⟩
   ·rw [aq (by omega)];omega
   ·rw [Ei]at hs
    have e:(fun o=>if o=j then m.word i j else if o<j then m.word i o else 0)=fun o=>if o<j+1 then m.word i o else 0:=by
     funext o
     by_cases h1:o=j
     ·subst h1;simp
     ·by_cases h2:o<j
      ·rw [if_neg h1,if_pos h2,if_pos (by omega)]
      ·rw [if_neg h1,if_neg h2,if_neg (by omega)]
    rw [e]at hs
    exact hs.blk
   ·exact QR.stored hs (.inr (by rw [hM.num];exact Nat.le_refl _))
  ·have:j=1024:=by simp at Ow;omega
   subst this
   have e:(List.range 1024).map (fun o=>if o<1024 then m.word i o else 0)=(List.range 1024).map (m.word i):=List.map_congr_left fun o ho=>by rw [if_pos (List.mem_range.1 ho)]
   rw [← e];exact hb
  ·rw [hM.num];exact Nat.le_refl _
theorem Jm(h:bU w g L m)(s:Bool)(p:Int):
 Calls prog 113 #[ptr g,fr s p] w fun e w'=>∃v,e= .returned v∧
  (m.has s p=true∧bU w' g L m∧Ch L.X w w'∧(∃b,v= .tuple #[.slice (some (Addr.mk b 0 none)) 1024 1024,.int .i64 0]∧w.heap.size≤b∧b<w'.heap.size∧Own w' (fun k=>k=b) 29 (some (Addr.mk b 0 none)) 1024 1024 (m.words s p.toNat))∨
   m.has s p=false∧v= .tuple #[.slice none 0 0,.int .i64 5]∧Pu w w'):=by
 refine uv _ s p ?_
 refine mkd fun g1 w1 m1=>?_
 refine⟨_,_,⟨m1.blk.at rfl,m1.blk.at rfl⟩,(jT (h.pu m1.pu) s p).mono ?_⟩
 rintro e w2 ⟨_,rfl,rfl,q2⟩
 have p2:Ch L.X w w2:=((Ch.refl L.X w).made m1).pu q2
 have h2:=(h.pu m1.pu).pu q2
 have hg:=h2.gq
 subst hg
 refine⟨_,rfl,?_⟩
 cases hh:m.has s p with
 | false=>
  refine af (fun _=>?_) (fun hb=>by simp [jV,hh]at hb)
  exact Or.inr ⟨rfl,rfl,m1.pu.trans q2⟩
 | true=>
  have hn:=Mem.cK hh
  have Wi:=gA hh
  refine af (fun hb=>?_) (fun _=>?_)
  ·have:m.place s p<0:=by simpa using hb
   omega
  obtain⟨T,hd⟩:=h2.hd
  refine ai _ rfl ⟨_,hd.at rfl,ai _ rfl (aP hd (by simp) fun w3 s3=>?_)⟩
  have h3:bU w3 L.g L m:=h2.tick s3
  have hi:=m.oX hn
  rw [Wi]
  refine(yi h3 (i:=m.idx s p.toNat) (by rw [h3.n];exact hi)).mono ?_
  rintro e w4 ⟨_,rfl,b,rfl,hb,UQ,q4⟩
  refine⟨_,_,_,rfl,?_⟩
  have ew:(List.range 1024).map (m.word (m.idx s p.toNat))=(List.range 1024).map (m.pg s p.toNat):=List.map_congr_left fun o _=>Mem.jN _ hn o
  rw [ew]at hb
  have ho:=Own.ofRow (w:=w4) (e:=29) hb (by rw [List.length_map,List.length_range]) (by decide)
  have e9:((List.range 1024).map (m.pg s p.toNat)).map U32.mk=m.words s p.toNat:=by rw [List.map_map];rfl
  rw [e9]at ho
  have p3:Ch L.X w w3:=p2.stored s3 (.inl (.inl rfl))
  exact Or.inl ⟨rfl,h3.pu q4,p3.pu q4,b,rfl,Nat.le_trans p3.size UQ,hb.lt,ho⟩
theorem Jn(h:bU w g L m)(s:Bool)(p:Int)(s':Bool)(p':Int):
 Calls prog 111 #[ptr g,fr s p,fr s' p'] w fun e w'=>∃u,e= .returned u∧∃L1,u= .int .i64 (m.mG s p s' p')∧bU w' g L1 (m.copy s p s' p')∧qy L L1 w∧Ch L.X w w':=by
 refine uw _ s p s' p' ?_
 refine mkd fun g1 w1 m1=>mkd fun g2 w2 m2=>?_
 refine⟨_,_,⟨(m2.old m1.blk).at rfl,(m2.old m1.blk).at rfl⟩,(jT ((h.pu m1.pu).pu m2.pu) s p).mono ?_⟩
 rintro e w3 ⟨_,rfl,rfl,q3⟩
 refine⟨_,rfl,_,_,⟨(q3.blk m2.blk).at rfl,(q3.blk m2.blk).at rfl⟩,(jT (((h.pu m1.pu).pu m2.pu).pu q3) s' p').mono ?_⟩
 rintro e w4 ⟨_,rfl,rfl,q4⟩
 have Qs:Pu w w4:=((m1.pu.trans m2.pu).trans q3).trans q4
 have h4:=h.pu Qs
 have hg:=h4.gq
 subst hg
 have pl0:∀s p,(decide (m.place s p<0))= !(m.has s p):=fun s p=>by
  cases hh:m.has s p with
  | false=>simp [jV,hh]
  | true=>have:=gA hh;simp;omega
 refine⟨_,rfl,fun b w'=>w4=w'∧b= !(m.has s p && m.has s' p'),?_,?_⟩
 ·rw [pl0,pl0]
  refine af (fun hb=>⟨rfl,?_⟩) (fun hb=>⟨rfl,?_⟩)
  ·cases hq:m.has s p<;>simp [hq]at hb ⊢
  ·cases hq:m.has s p
   ·simp [hq]at hb
   ·simp
 rintro _ x _ ⟨rfl,rfl⟩
 refine af (fun hb=>?_) (fun hb=>?_)
 ·have Qf:(m.has s p && m.has s' p')=false:=by simpa only [Bool.not_eq_true']using hb
  exact⟨L,by simp [Mem.mG,Qf],by simpa [Mem.copy,Qf]using h4,qy.refl _ _,Qs.mono (by simp)⟩
 have Qf:(m.has s p && m.has s' p')=true:=by simpa only [Bool.not_eq_false']using hb
 have hh:=Qf
 simp only [Bool.and_eq_true]at hh
 have hn:=Mem.cK hh.1
 have Ri:=Mem.cK hh.2
 have Wi:=gA hh.1
 have abS:=gA hh.2
 obtain⟨T,hd⟩:=h4.hd
 refine ai _ rfl ⟨_,hd.at rfl,ai _ rfl (aP hd (by simp) fun w5 s5=>?_)⟩
 have h5:bU w5 L.g L m:=h4.tick s5
 obtain⟨T',hd'⟩:=h5.hd
 refine⟨fun _ k=>k=L.g,ai _ rfl ⟨block_add _ _,_,_,_,hd'.drew.at rfl,?_⟩⟩
 have h5d:=h5.pu (Pu.aI w5)
 have hi:=m.oX hn
 have OI:=m.oX Ri
 have hLX:∀k,L.X k→k<w5.heap.size:=h5.lt
 rw [abS]
 refine(yi h5d (i:=m.idx s' p'.toNat) (by rw [h5.n];exact OI)).mono ?_
 rintro e w6 ⟨_,rfl,b,rfl,Vh,UQ,q6⟩
 refine⟨_,_,_,rfl,q6.iL fun k hk=>(show k=L.g by simpa [bE]using hk)▸hLX _ (.inl rfl),fun _ k=>k=L.g,fun _ _ h=>h,by rw [Wi,h5.n];omega,ai _ rfl ?_⟩
 have h6:=h5d.pu q6
 obtain⟨T8,cs8,hr8,adN,hi8,hc8⟩:=h6.slot hn
 rw [Wi,Nat.mul_one,Int.toNat_natCast]
 refine aP hr8 (by simp;omega) fun w7 s7=>⟨fun _ k=>k=L.g,fun _ _ h=>h,?_⟩
 have hbn:¬L.X b:=fun hx=>by have:=hLX b hx;have h10:w5.drew.heap.size=w5.heap.size:=rfl;omega
 have adV:PgB w6 b (m.pg s' p'.toNat):=⟨_,_,Vh,by rw [dL,List.length_map,List.length_range];exact Nat.le_refl _,fun o ho=>by
  rw [eo (by rw [List.length_map,List.length_range];exact ho),List.getD_eq_getElem?_getD,List.getElem?_map,List.getElem?_range ho]
  show some (Value.int .u32 (m.word _ o))=_
  rw [Mem.jN _ Ri]⟩
 have h7:=h6.lay (s:=s) (p:=p.toNat) (v:=some (b,1024)) (f:=m.pg s' p'.toNat) hn (fun o=>h6.u32 _ _ _) (fun e=>by cases e)
  (fun b' c' e=>by injection e with e;injection e with e1 e2;subst e1;exact⟨adV,hbn⟩) hr8 s7
 have p5:Ch L.X w w5:=(Qs.mono (by simp):Ch L.X w w4).stored s5 (.inl (.inl rfl))
 have p6:Ch L.X w w6:=p5.drew.pu q6
 refine⟨L.put (m.idx s p.toNat) (some (b,1024)),by simp [Mem.mG,Qf],?_,fun k hk=>?_,p6.stored s7 (.inl (.inr (.inl rfl)))⟩
 ·simp only [Mem.copy,Qf,if_true];exact h7
 ·rcases fL.HX hk with h6 | ⟨c6,h6⟩
  ·exact .inl h6
  ·injection h6 with h6;injection h6 with h6 _;subst h6
   right
   exact Nat.le_trans p5.size UQ
end
end
end Go.Proofs.YtinhphjfnedhgaaGreatDoor
namespace Go.Proofs.YtinhphjfnedhgaaGreatDoor
open Go.Proofs.Tryz (prog)
open Go Go.RowKit V
open Go.IntKind (i64 u32 u64)
section
set_option maxRecDepth 100000
set_option maxHeartbeats 1000000
attribute [local irreducible] Vc2 VcD
def kO:Ctr Un:=⟨[.one (.obj 0 0),.agg [.bool,.int .i64],.one (.int .i64)],[],[.ob 0 []],[0],fun fa fb off rm m K=>K ⟨(.tuple #[(.int .u32 (m.bD fa fb off)),(.int .i64 (m.err fa fb off))]),(some (.t [none,none])),[.ob 0 m],[],[]⟩⟩
theorem xf:LV Un prog 92 kO:=by
 show ∀(fa:Bool)(fb:Int)(off:Int)(rm:Nat→Nat)(m:Mem),∀Q:Ou Un→Prop,(Q ⟨(.tuple #[(.int .u32 (m.bD fa fb off)),(.int .i64 (m.err fa fb off))]),(some (.t [none,none])),[.ob 0 m],[],[]⟩)→∀(X:Nat→Nat→Prop)(w:World),Sat (U:=Un) [(.ob 0 rm m)] X w→aC (U:=Un) [(.ob 0 rm m)] fr0 []→Calls prog 92 #[(.pointer (some (Addr.mk (rm 0) 0 none))),(.agg #[(.bool fa),(.int .i64 fb)]),(.int .i64 off)] w (aM (U:=Un) [(.ob 0 rm m)] [0] X w Q)
 intro fa fb off rm m Q hQ X w hs hl
 obtain⟨L,hg,hM,hX⟩:=lv hs
 rw [hg]
 refine(KR hM fa fb off).mono ?_
 rintro e w' ⟨u,rfl,rfl,h2,q⟩
 rw [Mem.KK]at h2
 exact aM.one (Z:=X 0) (q.mono fun k hk=>(hX k).1 hk) (show bJ 0 rm _ (X 0) w' from⟨L,hg,hX,h2⟩) (fun k hk=>.inl hk) hQ (KnO.tup _ (by simp))
def lR:Ctr Un:=⟨[.one (.obj 0 0)],[],[.ob 0 []],[],fun rm m K=>K ⟨(.int .i64 (m.I:Int)),none,[],[],[]⟩⟩
theorem qg:LV Un prog 55 lR:=by
 show ∀(rm:Nat→Nat)(m:Mem),∀Q:Ou Un→Prop,(Q ⟨(.int .i64 (m.I:Int)),none,[],[],[]⟩)→∀(X:Nat→Nat→Prop)(w:World),Sat (U:=Un) [(.ob 0 rm m)] X w→aC (U:=Un) [(.ob 0 rm m)] fr0 []→Calls prog 55 #[(.pointer (some (Addr.mk (rm 0) 0 none)))] w (aM (U:=Un) [(.ob 0 rm m)] [] X w Q)
 intro rm m Q hQ X w hs hl
 obtain⟨L,hg,hM,hX⟩:=lv hs
 rw [hg]
 refine(Ew hM).mono ?_
 rintro e w' ⟨u,rfl,rfl,q⟩
 subst q
 exact aM.pu hs (Ch.refl _ _) hQ trivial
def xm:Ctr Un:=⟨[.one (.obj 0 0),.agg [.bool,.int .i64],.agg [.bool,.int .i64]],[],[.ob 0 []],[0],fun fa fb fc fd rm m K=>K ⟨(.int .i64 (m.mG fa fb fc fd)),none,[.ob 0 (m.copy fa fb fc fd)],[],[]⟩⟩
theorem Kz:LV Un prog 66 xm:=by
 show ∀(fa:Bool)(fb:Int)(fc:Bool)(fd:Int)(rm:Nat→Nat)(m:Mem),∀Q:Ou Un→Prop,(Q ⟨(.int .i64 (m.mG fa fb fc fd)),none,[.ob 0 (m.copy fa fb fc fd)],[],[]⟩)→∀(X:Nat→Nat→Prop)(w:World),Sat (U:=Un) [(.ob 0 rm m)] X w→aC (U:=Un) [(.ob 0 rm m)] fr0 []→Calls prog 66 #[(.pointer (some (Addr.mk (rm 0) 0 none))),(.agg #[(.bool fa),(.int .i64 fb)]),(.agg #[(.bool fc),(.int .i64 fd)])] w (aM (U:=Un) [(.ob 0 rm m)] [0] X w Q)
 intro fa fb fc fd rm m Q hQ X w hs hl
 obtain⟨L,hg,hM,hX⟩:=lv hs
 rw [hg]
 refine(Mz hM fa fb fc fd).mono ?_
 rintro e w' ⟨u,rfl,rfl,h2,q⟩
 exact aM.one (Z:=X 0) (q.mono fun k hk=>(hX k).1 hk) (show bJ 0 rm _ (X 0) w' from⟨L,hg,hX,h2⟩) (fun k hk=>.inl hk) hQ trivial
def pr:Ctr Un:=⟨[.one (.obj 0 0),.agg [.bool,.int .i64],.agg [.bool,.int .i64]],[],[.ob 2 []],[0],fun fa fb fc fd rm m K=>K ⟨(.int .i64 (m.mG fa fb fc fd)),none,[.ob 2 (m.copy fa fb fc fd)],[],[]⟩⟩
theorem FA:LV Un prog 111 pr:=by
 show ∀(fa:Bool)(fb:Int)(fc:Bool)(fd:Int)(rm:Nat→Nat)(m:Mem),∀Q:Ou Un→Prop,(Q ⟨(.int .i64 (m.mG fa fb fc fd)),none,[.ob 2 (m.copy fa fb fc fd)],[],[]⟩)→∀(X:Nat→Nat→Prop)(w:World),Sat (U:=Un) [(.ob 2 rm m)] X w→aC (U:=Un) [(.ob 2 rm m)] fr0 []→Calls prog 111 #[(.pointer (some (Addr.mk (rm 0) 0 none))),(.agg #[(.bool fa),(.int .i64 fb)]),(.agg #[(.bool fc),(.int .i64 fd)])] w (aM (U:=Un) [(.ob 2 rm m)] [0] X w Q)
 intro fa fb fc fd rm m Q hQ X w hs hl
 obtain⟨L,hX,hM⟩:=(hs.res 0 _ rfl:bJ 2 rm m (X 0) w)
 refine(Jn hM fa fb fc fd).mono ?_
 rintro e w' ⟨u,rfl,L1,rfl,h2,hg,q⟩
 exact aM.one (Z:=L1.X) (q.mono fun k hk=>(hX k).1 hk) (show bJ 2 rm _ L1.X w' from⟨L1,fun _=>Iff.rfl,h2⟩) (fun k hk=>(hg k hk).imp (fun h=>(hX k).1 h) id) hQ trivial
def xh:Ctr Un:=⟨[.one (.obj 0 0),.agg [.bool,.int .i64]],[],[.ob 0 []],[0],fun fa fb rm m K=>split (m.has fa fb) (∀(A:Option Addr),K ⟨(.tuple #[(.slice A ((m.words fa fb.toNat).length) 1024),(.int .i64 0)]),(some (.t [(some (.sl 1 0)),none])),[.ob 0 m],[(.lst 1 true 29 A 1024 (m.words fa fb.toNat))],[]⟩) (K ⟨(.tuple #[(.slice none 0 0),(.int .i64 5)]),(some (.t [none,none])),[.ob 0 m],[],[]⟩)⟩
theorem Kv:LV Un prog 69 xh:=by
 show ∀(fa:Bool)(fb:Int)(rm:Nat→Nat)(m:Mem),∀Q:Ou Un→Prop,(split (m.has fa fb) (∀(A:Option Addr),Q ⟨(.tuple #[(.slice A ((m.words fa fb.toNat).length) 1024),(.int .i64 0)]),(some (.t [(some (.sl 1 0)),none])),[.ob 0 m],[(.lst 1 true 29 A 1024 (m.words fa fb.toNat))],[]⟩) (Q ⟨(.tuple #[(.slice none 0 0),(.int .i64 5)]),(some (.t [none,none])),[.ob 0 m],[],[]⟩))→∀(X:Nat→Nat→Prop)(w:World),Sat (U:=Un) [(.ob 0 rm m)] X w→aC (U:=Un) [(.ob 0 rm m)] fr0 []→Calls prog 69 #[(.pointer (some (Addr.mk (rm 0) 0 none))),(.agg #[(.bool fa),(.int .i64 fb)])] w (aM (U:=Un) [(.ob 0 rm m)] [0] X w Q)
 intro fa fb rm m Q hQ X w hs hl
 obtain⟨L,hg,hM,hX⟩:=lv hs
 rw [hg]
 refine(My hM fa fb).mono ?_
 rintro e w' ⟨u,rfl,⟨hh,h2,q,g,rfl,UQ,Ow,ho⟩ | ⟨hh,rfl,q⟩⟩
 ·have hQ:=bL hQ hh (some (Addr.mk g 0 none))
  rw [Mem.cS]at hQ
  have hr:RS (U:=Un) (fun k=>k=g) w' (.lst 1 true 29 (some (Addr.mk g 0 none)) 1024 (m.words fa fb.toNat)):=⟨(by have h9:=Mem.cS m fa fb.toNat;show Own w' _ _ _ (m.words fa fb.toNat).length _ _;rw [h9];exact ho),fun k hk=>hk▸Ow⟩
  exact aM.Bm (k:=some (.t [some (.sl 1 0),none])) (kc:= []) (Z0:=X 0) (q.mono fun k hk=>(hX k).1 hk) (show bJ 0 rm m (X 0) w' from⟨L,hg,hX,h2⟩) (fun k hk=>.inl hk) hr (fun k hk=>hk▸UQ) (fun k h1 h3=>by have:=hs.lt (i:=0) (by simp) k h1;omega) hQ (KnO.pair (by show some (Value.slice _ (m.words fa fb.toNat).length _)=_;rw [Mem.cS])) (fun _ _ h=>by cases h)
 ·exact aM.one (Z:=X 0) (q.mono fun k hk=>hk.elim) (show bJ 0 rm m (X 0) w' from⟨L,hg,hX,hM.pu q⟩) (fun k hk=>.inl hk) (bq hQ hh) (KnO.tup _ (by simp))
def po:Ctr Un:=⟨[.one (.obj 0 0),.agg [.bool,.int .i64]],[],[.ob 2 []],[0],fun fa fb rm m K=>split (m.has fa fb) (∀(A:Option Addr),K ⟨(.tuple #[(.slice A ((m.words fa fb.toNat).length) 1024),(.int .i64 0)]),(some (.t [(some (.sl 1 0)),none])),[.ob 2 m],[(.lst 1 true 29 A 1024 (m.words fa fb.toNat))],[]⟩) (K ⟨(.tuple #[(.slice none 0 0),(.int .i64 5)]),(some (.t [none,none])),[.ob 2 m],[],[]⟩)⟩
theorem Fx:LV Un prog 113 po:=by
 show ∀(fa:Bool)(fb:Int)(rm:Nat→Nat)(m:Mem),∀Q:Ou Un→Prop,(split (m.has fa fb) (∀(A:Option Addr),Q ⟨(.tuple #[(.slice A ((m.words fa fb.toNat).length) 1024),(.int .i64 0)]),(some (.t [(some (.sl 1 0)),none])),[.ob 2 m],[(.lst 1 true 29 A 1024 (m.words fa fb.toNat))],[]⟩) (Q ⟨(.tuple #[(.slice none 0 0),(.int .i64 5)]),(some (.t [none,none])),[.ob 2 m],[],[]⟩))→∀(X:Nat→Nat→Prop)(w:World),Sat (U:=Un) [(.ob 2 rm m)] X w→aC (U:=Un) [(.ob 2 rm m)] fr0 []→Calls prog 113 #[(.pointer (some (Addr.mk (rm 0) 0 none))),(.agg #[(.bool fa),(.int .i64 fb)])] w (aM (U:=Un) [(.ob 2 rm m)] [0] X w Q)
 intro fa fb rm m Q hQ X w hs hl
 obtain⟨L,hX,hM⟩:=(hs.res 0 _ rfl:bJ 2 rm m (X 0) w)
 refine(Jm hM fa fb).mono ?_
 rintro e w' ⟨u,rfl,⟨hh,h2,q,g,rfl,UQ,Ow,ho⟩ | ⟨hh,rfl,q⟩⟩
 ·have hQ:=bL hQ hh (some (Addr.mk g 0 none))
  rw [Mem.cS]at hQ
  have hr:RS (U:=Un) (fun k=>k=g) w' (.lst 1 true 29 (some (Addr.mk g 0 none)) 1024 (m.words fa fb.toNat)):=⟨(by have h9:=Mem.cS m fa fb.toNat;show Own w' _ _ _ (m.words fa fb.toNat).length _ _;rw [h9];exact ho),fun k hk=>hk▸Ow⟩
  exact aM.Bm (k:=some (.t [some (.sl 1 0),none])) (kc:= []) (Z0:=X 0) (q.mono fun k hk=>(hX k).1 hk) (show bJ 2 rm m (X 0) w' from⟨L,hX,h2⟩) (fun k hk=>.inl hk) hr (fun k hk=>hk▸UQ) (fun k h1 h3=>by have:=hs.lt (i:=0) (by simp) k h1;omega) hQ (KnO.pair (by show some (Value.slice _ (m.words fa fb.toNat).length _)=_;rw [Mem.cS])) (fun _ _ h=>by cases h)
 ·exact aM.one (Z:=X 0) (q.mono fun k hk=>hk.elim) (show bJ 2 rm m (X 0) w' from⟨L,hX,hM.pu q⟩) (fun k hk=>.inl hk) (bq hQ hh) (KnO.tup _ (by simp))
end
end Go.Proofs.YtinhphjfnedhgaaGreatDoor
namespace Go.Proofs.YtinhphjfnedhgaaGreatDoor
open Go.Proofs.Tryz (prog)
open Go Go.RowKit V
open Go.IntKind (i64 u32 u64)
section
set_option maxRecDepth 10000
set_option maxHeartbeats 1000000
theorem I9 {w:World}(ma:Bool)(mb:Int)(mc:Bool)(md:Bool):
 Calls prog 133 #[(.agg #[(.bool ma),(.int .i64 mb),(.bool mc),(.bool md)])] w fun e w'=>∃v,e= .returned v∧v= .tuple #[(.int .u32 ((Mp.mk ma mb mc md).word)),(.int .i64 ((Mp.mk ma mb mc md).err))]∧Pu w w':=by
 refine tV _ _ _ _ ?_
 have hp:=Ch.refl (fun _=>False) w
 refine mkd fun gv wv NC=>?_
 have Nr:=NC.blk
 refine⟨fun x w'=>x=((decide ((mb:Int)<0)) || (decide ((mb:Int)>63)))∧Pu wv w',?_,?_⟩
 ·refine⟨_,Nr.at2 rfl,?_⟩
  refine af (fun c1=>?_) (fun c1=>?_)
  ·exact⟨by simp only [c1,Bool.true_and,Bool.and_true,Bool.false_and,Bool.and_false,Bool.true_or,Bool.or_true,Bool.false_or,Bool.or_false,Bool.not_true,Bool.not_false,if_true,if_false,Bool.false_eq_true],Ch.refl _ _⟩
  ·refine⟨_,Nr.at2 rfl,?_⟩
   exact⟨by simp only [c1,Bool.true_and,Bool.and_true,Bool.false_and,Bool.and_false,Bool.true_or,Bool.or_true,Bool.false_or,Bool.or_false,Bool.not_true,Bool.not_false,if_true,if_false,Bool.false_eq_true],Ch.refl _ _⟩
 rintro _ _ Nw ⟨rfl,NH⟩
 refine aZ (fun c2=>?_) (fun c2=>?_)
 ·have hp:=Ch.pu (Ch.made hp NC) NH
  exact⟨congrArg Value.tuple (lE (congrArg (Value.int .u32) (by grind [Mp.word,Mp.err,Mp.bits])) (congrArg (Value.int .i64) (by grind [Mp.word,Mp.err,Mp.bits]))),hp⟩
 ·refine⟨fun x w'=>x=(md && (!ma))∧Pu Nw w',?_,?_⟩
  ·have Nr:=Pu.blk NH Nr
   refine⟨_,Nr.at rfl,?_⟩
   refine af (fun c3=>?_) (fun c3=>?_)
   ·refine⟨_,Nr.at2 rfl,?_⟩
    exact⟨by simp only [c3,Bool.true_and,Bool.and_true,Bool.false_and,Bool.and_false,Bool.true_or,Bool.or_true,Bool.false_or,Bool.or_false,Bool.not_true,Bool.not_false,if_true,if_false,Bool.false_eq_true],Ch.refl _ _⟩
   ·exact⟨by simp only [c3,Bool.true_and,Bool.and_true,Bool.false_and,Bool.and_false,Bool.true_or,Bool.or_true,Bool.false_or,Bool.or_false,Bool.not_true,Bool.not_false,if_true,if_false,Bool.false_eq_true],Ch.refl _ _⟩
  rintro _ _ Ny ⟨rfl,N3⟩
  refine cE (fun c4=>?_) (fun c4=>?_)
  ·have hp:=Ch.pu (Ch.pu (Ch.made hp NC) NH) N3
   exact⟨congrArg Value.tuple (lE (congrArg (Value.int .u32) (by grind [Mp.word,Mp.err,Mp.bits])) (congrArg (Value.int .i64) (by grind [Mp.word,Mp.err,Mp.bits]))),hp⟩
  ·have S5:0≤mb∧mb<64:=by grind
   have Nr:=Pu.blk N3 (Pu.blk NH Nr)
   refine⟨_,Nr.at2 rfl,?_⟩
   rintro _ rfl
   refine⟨_,Nr.at2 rfl,⟨_,Nr.at rfl,⟨_,Nr.at rfl,?_⟩⟩⟩
   refine mkd fun Oa NI Oe=>?_
   have Nu:=Oe.blk
   have hp:=Ch.made (Ch.pu (Ch.pu (Ch.made hp NC) NH) N3) Oe
   have Nr:=Made.old Oe Nr
   refine⟨fun mz NW Qj W=>Ch (fun _=>False) w W∧(∃T,Blk W gv #[(.bool ma),(.int .i64 mb),(.bool mc),(.bool md)] T)∧(∃T,Blk W Oa #[(.bool ma),(.int .u32 2),(.bool mc),(.int .u32 4),(.bool md),(.int .u32 8)] T)∧((mz=3∧NW=(256*mb+1)∧Qj=0)∨(mz=2∧NW=(256*mb+(1+(if ma then 2 else 0)))∧Qj=1)∨(mz=1∧NW=(256*mb+(1+(if ma then 2 else 0)+(if mc then 4 else 0)))∧Qj=2)∨(mz=0∧NW=(256*mb+(1+(if ma then 2 else 0)+(if mc then 4 else 0)+(if md then 8 else 0)))∧Qj=3)),⟨_,hp,⟨_,Nr⟩,⟨_,Nu⟩,.inl ⟨rfl,by exact GX S5,rfl⟩⟩,?_⟩
   rintro _ _ NW Qj NT ⟨hp,⟨_,Nr⟩,⟨_,Nu⟩,hU⟩
   rcases hU with⟨rfl,rfl,rfl⟩ | ⟨rfl,rfl,rfl⟩ | ⟨rfl,rfl,rfl⟩ | ⟨rfl,rfl,rfl⟩
   ·refine aU ⟨by decide,⟨_,_,⟨Nu.at2 rfl,Nu.at2 rfl⟩,?_⟩⟩
    refine mkd fun Ox NU NG=>?_
    have N0:=NG.lo hp
    have NV:=NG.ne Nr
    have ne_gv3_gv5:=NG.ne Nu
    have Nv:=NG.blk
    refine cx Nv (by simp) fun N1 Nz=>?_
    have Nv:Blk N1 Ox #[(.bool ma),(.int .u32 2)] _:=Nz.blk
    refine⟨_,Nv.at rfl,?_⟩
    refine af (fun c5=>?_) (fun c5=>?_)
    ·refine⟨_,Nv.at rfl,?_⟩
     rintro _ rfl
     have hp:=Ch.call (Ch.made hp NG) Nz.ch (by exact fun k e=>.inr (e▸N0))
     have Nr:=Ch.blk Nz.ch (Made.old NG Nr) (NV)
     have Nu:=Ch.blk Nz.ch (Made.old NG Nu) (ne_gv3_gv5)
     exact⟨2,by decide,hp,⟨_,Nr⟩,⟨_,Nu⟩,.inr (.inl ⟨rfl,by(rw [Bk 1 2 (by decide) (by omega) S5 (a:=1) (by constructor<;>grind)];simp only [c2,c4,c5,if_true];done),rfl⟩)⟩
    ·have hp:=Ch.call (Ch.made hp NG) Nz.ch (by exact fun k e=>.inr (e▸N0))
     have Nr:=Ch.blk Nz.ch (Made.old NG Nr) (NV)
     have Nu:=Ch.blk Nz.ch (Made.old NG Nu) (ne_gv3_gv5)
     exact⟨2,by decide,hp,⟨_,Nr⟩,⟨_,Nu⟩,.inr (.inl ⟨rfl,by(simp [c2,c4,c5];done),rfl⟩)⟩
   ·refine aU ⟨by decide,⟨_,_,⟨Nu.at2 rfl,Nu.at2 rfl⟩,?_⟩⟩
    refine mkd fun Ox NU NG=>?_
    have N0:=NG.lo hp
    have NV:=NG.ne Nr
    have ne_gv3_gv5:=NG.ne Nu
    have Nv:=NG.blk
    refine cx Nv (by simp) fun N1 Nz=>?_
    have Nv:Blk N1 Ox #[(.bool mc),(.int .u32 4)] _:=Nz.blk
    refine⟨_,Nv.at rfl,?_⟩
    refine af (fun c6=>?_) (fun c6=>?_)
    ·refine⟨_,Nv.at rfl,?_⟩
     rintro _ rfl
     have hp:=Ch.call (Ch.made hp NG) Nz.ch (by exact fun k e=>.inr (e▸N0))
     have Nr:=Ch.blk Nz.ch (Made.old NG Nr) (NV)
     have Nu:=Ch.blk Nz.ch (Made.old NG Nu) (ne_gv3_gv5)
     exact⟨1,by decide,hp,⟨_,Nr⟩,⟨_,Nu⟩,.inr (.inr (.inl ⟨rfl,by(rw [Bk 2 4 (by decide) (by omega) S5 (a:=(1+(if ma then 2 else 0))) (by constructor<;>grind)];simp only [c2,c4,c6,if_true];done),rfl⟩))⟩
    ·have hp:=Ch.call (Ch.made hp NG) Nz.ch (by exact fun k e=>.inr (e▸N0))
     have Nr:=Ch.blk Nz.ch (Made.old NG Nr) (NV)
     have Nu:=Ch.blk Nz.ch (Made.old NG Nu) (ne_gv3_gv5)
     exact⟨1,by decide,hp,⟨_,Nr⟩,⟨_,Nu⟩,.inr (.inr (.inl ⟨rfl,by(simp [c2,c4,c6];done),rfl⟩))⟩
   ·refine aU ⟨by decide,⟨_,_,⟨Nu.at2 rfl,Nu.at2 rfl⟩,?_⟩⟩
    refine mkd fun Ox NU NG=>?_
    have N0:=NG.lo hp
    have NV:=NG.ne Nr
    have ne_gv3_gv5:=NG.ne Nu
    have Nv:=NG.blk
    refine cx Nv (by simp) fun N1 Nz=>?_
    have Nv:Blk N1 Ox #[(.bool md),(.int .u32 8)] _:=Nz.blk
    refine⟨_,Nv.at rfl,?_⟩
    refine af (fun c7=>?_) (fun c7=>?_)
    ·refine⟨_,Nv.at rfl,?_⟩
     rintro _ rfl
     have hp:=Ch.call (Ch.made hp NG) Nz.ch (by exact fun k e=>.inr (e▸N0))
     have Nr:=Ch.blk Nz.ch (Made.old NG Nr) (NV)
     have Nu:=Ch.blk Nz.ch (Made.old NG Nu) (ne_gv3_gv5)
     exact⟨0,by decide,hp,⟨_,Nr⟩,⟨_,Nu⟩,.inr (.inr (.inr (⟨rfl,by(rw [Bk 3 8 (by decide) (by omega) S5 (a:=(1+(if ma then 2 else 0)+(if mc then 4 else 0))) (by constructor<;>grind)];simp only [c2,c4,c7,if_true];done),rfl⟩)))⟩
    ·have hp:=Ch.call (Ch.made hp NG) Nz.ch (by exact fun k e=>.inr (e▸N0))
     have Nr:=Ch.blk Nz.ch (Made.old NG Nr) (NV)
     have Nu:=Ch.blk Nz.ch (Made.old NG Nu) (ne_gv3_gv5)
     exact⟨0,by decide,hp,⟨_,Nr⟩,⟨_,Nu⟩,.inr (.inr (.inr (⟨rfl,by(simp [c2,c4,c7];done),rfl⟩)))⟩
   ·refine gM ?_
    exact⟨congrArg Value.tuple (lE (congrArg (Value.int .u32) (by grind [Mp.word,Mp.err,Mp.bits])) (congrArg (Value.int .i64) (by grind [Mp.word,Mp.err,Mp.bits]))),hp⟩
end
end Go.Proofs.YtinhphjfnedhgaaGreatDoor
namespace Go.Proofs.YtinhphjfnedhgaaGreatDoor
open Go.Proofs.Tryz (prog)
open Go Go.RowKit V
open Go.IntKind (i64 u32 u64)
section
set_option maxRecDepth 100000
set_option maxHeartbeats 1000000
attribute [local irreducible] Vc2 VcD
def jj:Ctr Un:=⟨[.one (.int .i64)],[],[],[],fun p K=>K ⟨(.tuple #[(.int .u32 (cm p)),(.int .i64 (dD p))]),(some (.t [none,none])),[],[],[]⟩⟩
def H2(p:Int)(Q:Ou Un→Prop):Prop:=
 ∃J:Bool→Prop,(
  split (decide (p<0)) (
   J true) (
   J (decide (p≥64))))∧∀(PO:Nat→Value)(x9:Bool),J x9→
 split x9 (
  Q ⟨(.tuple #[(.int .u32 0),(.int .i64 4)]),(some (.t [none,none])),[],[],[]⟩) (
  Q ⟨(.tuple #[(.int .u32 (u32.wrap (BitVec.ofInt u32.bits (u32.wrap ((u32.wrap p)*2 ^ 8)) ||| BitVec.ofInt u32.bits 1).toNat)),(.int .i64 0)]),(some (.t [none,none])),[],[],[]⟩)
theorem H3:Vc2 Un prog (aR []) [] Tryz.f131 (.r' (.two (.two (.node [] (some ⟨[(9,(.one .bool))],[],upN 4 6,[]⟩) [] [] .leaf .leaf) .leaf) .leaf)) [] jj=(∀p,∀Q,(jj.body p Q)→H2 p Q):=by kernel_rfl
theorem zo:LV Un prog 131 jj:=verify Tryz.func131 aa (tb:= []) trivial (by kernel_rfl) (H3.mpr fun p Q h=>cN ((decide ((p:Int)<0)) || (decide ((p:Int)≥64))) (af (fun c1=>(by grind)) fun c1=>(by grind))<| aZ (fun c2=>ao h (by(have h:¬(0≤p∧p<64):=by grind);simp [cm,dD,h]) rfl rfl) fun c2=>ao h (by(have h:0≤p∧p<64:=by grind);rw [GX h];simp [cm,dD,h]) rfl rfl)
def fP:Ctr Un:=⟨[.one (.int .i64)],[],[],[],fun p K=>K ⟨(.tuple #[(.int .u32 (cm p)),(.int .i64 (dD p))]),(some (.t [none,none])),[],[],[]⟩⟩
def Cm(p:Int)(Q:Ou Un→Prop):Prop:=
 ∃J:Bool→Prop,(
  split (decide (p<0)) (
   J true) (
   J (decide (p≥64))))∧∀(PO:Nat→Value)(x9:Bool),J x9→
 split x9 (
  Q ⟨(.tuple #[(.int .u32 0),(.int .i64 4)]),(some (.t [none,none])),[],[],[]⟩) (
  Q ⟨(.tuple #[(.int .u32 (u32.wrap (i64.wrap ((i64.wrap (256*p))+1)))),(.int .i64 0)]),(some (.t [none,none])),[],[],[]⟩)
theorem Cn:Vc2 Un prog (aR []) [] Tryz.f164 (.r' (.two (.two (.node [] (some ⟨[(9,(.one .bool))],[],upN 4 6,[]⟩) [] [] .leaf .leaf) .leaf) .leaf)) [] fP=(∀p,∀Q,(fP.body p Q)→Cm p Q):=by kernel_rfl
theorem th:LV Un prog 164 fP:=verify Tryz.func164 aa (tb:= []) trivial (by kernel_rfl) (Cn.mpr fun p Q h=>cN ((decide ((p:Int)<0)) || (decide ((p:Int)≥64))) (af (fun c1=>(by grind)) fun c1=>(by grind))<| aZ (fun c2=>ao h (by(have h:¬(0≤p∧p<64):=by grind);simp [cm,dD,h]) rfl rfl) fun c2=>ao h (by(have h:0≤p∧p<64:=by grind);rw [aq (x:=256*p) (by omega),aq (by omega),bj (by omega)];simp [cm,dD,h]) rfl rfl)
def fx:Ctr Un:=⟨[.one (.int .u32),.one (.int .i64),.one (.fn 131)],[],[],[],fun v x K=>∀(ra:Int)(re:Int),((ra=(if v≠0∧dD x=0∧cm x=v then x else 0)∧re=(if v=0 then 92 else if dD x=0∧cm x=v then 0 else 90)))→K ⟨(.tuple #[(.int .i64 ra),(.int .i64 re)]),(some (.t [none,none])),[],[],[]⟩⟩
def tX(v:Int)(x:Int)(Q:Ou Un→Prop):Prop:=
 split (v==0) (
  Q ⟨(.tuple #[(.int .i64 0),(.int .i64 92)]),(some (.t [none,none])),[],[],[]⟩) (
  ∃J:Bool→Prop,(
   split ((dD x) !=0) (
    J true) (
    J ((cm x) !=v)))∧∀(PO:Nat→Value)(RB:Bool),J RB→
  split RB (
   Q ⟨(.tuple #[(.int .i64 0),(.int .i64 90)]),(some (.t [none,none])),[],[],[]⟩) (
   Q ⟨(.tuple #[(.int .i64 x),(.int .i64 0)]),(some (.t [none,none])),[],[],[]⟩))
theorem tY:Vc2 Un prog (aR [(131,jj)]) [] Tryz.f195 (.r' (.r' (.r' (.two (.r' (.two (.node [] (some ⟨[(26,(.one .bool))],[],upN 20 7,[]⟩) [] [] .leaf .leaf) .leaf)) .leaf)))) [] fx=(∀v x,∀Q,(fx.body v x Q)→tX v x Q):=by kernel_rfl
theorem tW:LV Un prog 195 fx:=verify Tryz.func195 aa (tb:= [(131,jj)]) ⟨zo,trivial⟩ (by kernel_rfl) (tY.mpr fun v x Q h=>by
 try skip
 exact aG (fun c1=>(h 0 92 (by omega))) fun c1=>cN ((((dD x):Int) !=0) || (((cm x):Int) !=v)) (af (fun c2=>(by grind)) fun c2=>(by grind))<| aZ (fun c3=>(h 0 90 (by grind))) fun c3=>(h x 0 (by grind)))
def fy:Ctr Un:=⟨[.one (.int .u32)],[],[],[],fun v K=>(0≤(v:Int)∧(v:Int)<4294967296)∧K ⟨(.tuple #[(.int .i64 (cl v)),(.int .i64 (kZ v))]),(some (.t [none,none])),[],[],[]⟩⟩
def ua(v:Int)(Q:Ou Un→Prop):Prop:=
 ∀(ra:Int)(re:Int),
 ((ra=(if v≠0∧dD (i64.wrap (v.fdiv (2 ^ 8)))=0∧cm (i64.wrap (v.fdiv (2 ^ 8)))=v then(i64.wrap (v.fdiv (2 ^ 8)))else 0)∧re=(if v=0 then 92 else if dD (i64.wrap (v.fdiv (2 ^ 8)))=0∧cm (i64.wrap (v.fdiv (2 ^ 8)))=v then 0 else 90)))→
 Q ⟨(.tuple #[(.int .i64 ra),(.int .i64 re)]),(some (.t [none,none])),[],[],[]⟩
theorem ub:Vc2 Un prog (aR [(195,fx)]) [] Tryz.f182 .leaf [] fy=(∀v,∀Q,(fy.body v Q)→ua v Q):=by kernel_rfl
theorem tZ:LV Un prog 182 fy:=verify Tryz.func182 aa (tb:= [(195,fx)]) ⟨tW,trivial⟩ (by kernel_rfl) (ub.mpr fun v Q h=>by
 obtain⟨NK,h⟩:=h
 exact fun ra re f1=>(by(have e0:i64.wrap ((v:Int).fdiv (2 ^ 8))=v / 256:=by rw [mE,aq (by omega)];rfl);rw [e0]at f1;(have h1:(dD (v / 256)=0∧cm (v / 256)=v)↔rK v=true:=(by simp only [dD,cm,rK,decide_eq_true_eq];constructor<;>intro h<;>grind));(have h2:v=0→rK v=false:=by intro h;subst h;decide);exact ao h (by simp only [h1]at f1;rw [f1.1,f1.2];simp only [cl,kZ]<;>grind) rfl rfl))
def ez:Ctr Un:=⟨[.one (.int .u32)],[],[],[],fun v K=>(0≤(v:Int)∧(v:Int)<4294967296)∧K ⟨(.tuple #[(.int .i64 (cl v)),(.int .i64 (kZ v))]),(some (.t [none,none])),[],[],[]⟩⟩
def qu(v:Int)(Q:Ou Un→Prop):Prop:=
 split (v==0) (
  Q ⟨(.tuple #[(.int .i64 0),(.int .i64 92)]),(some (.t [none,none])),[],[],[]⟩) (
  ∀p:Int,p=0→
  ∃I:Nat→Int→Prop,(∃m,I m p)∧∀(m:Nat)(PO:Nat→Value)(p1:Int),I m p1→
  split (decide (p1<64)) (
   split ((cm p1)==v) (
    Q ⟨(.tuple #[(.int .i64 p1),(.int .i64 0)]),(some (.t [none,none])),[],[],[]⟩) (
    ∀p2:Int,p2=(i64.wrap (p1+1))→
    ∃m1,m1<m∧I m1 p2)) (
   Q ⟨(.tuple #[(.int .i64 0),(.int .i64 90)]),(some (.t [none,none])),[],[],[]⟩))
theorem qv:Vc2 Un prog (aR [(164,fP)]) [4] Tryz.f188 (.r' (.r' (.two (.r' (.two (.node [] (some ⟨[(4,(.one (.int .i64)))],[],upN 2 5++upN 9 13,[]⟩) [] [] .leaf .leaf) .leaf)) .leaf))) [] ez=(∀v,∀Q,(ez.body v Q)→qu v Q):=by kernel_rfl
theorem qt:LV Un prog 188 ez:=verify Tryz.func188 aa (tb:= [(164,fP)]) ⟨th,trivial⟩ (by kernel_rfl) (qv.mpr fun v Q h=>by
 obtain⟨NK,h⟩:=h
 exact aG (fun c1=>ao h (congrArg (fun l=>Value.tuple (List.toArray l)) (ab (aE (by(grind [cl,kZ,rK,cm]))) (ab (aE (by(grind [cl,kZ,rK,cm]))) rfl))) rfl rfl) fun c1=>allEq<| ⟨fun m p1=>(m=(64 - p1).toNat)∧(0≤p1∧p1≤64)∧(∀q:Int,0≤q→q<p1→256*q+1≠v),⟨_,rfl,(by omega),(by intro q;omega)⟩,fun m _ p1 ⟨hm,hi,hq⟩=>ar (fun c2=>aG (fun c3=>ao h (congrArg (fun l=>Value.tuple (List.toArray l)) (ab (aE (by(grind [cl,kZ,rK,cm]))) (ab (aE (by(grind [cl,kZ,rK,cm]))) rfl))) rfl rfl) fun c3=>allEq<| ⟨_,(by(grind [IntKind.wrap_i64])),rfl,(by rw [aq (by omega)];omega),(by rw [aq (by omega)];intro q ha hb;rcases Int.lt_or_eq_of_le (show q≤p1 by omega)with h | h<;>(first | grind | grind [cm]))⟩) fun c2=>ao h (by have h:=hq (v / 256);(have h2:rK v=false:=by rw [rK,decide_eq_false_iff_not];rintro⟨a,b⟩;exact h (by omega) (by omega) (by omega));simp [cl,kZ,h2,c1]) rfl rfl⟩)
def pf:Ctr Un:=⟨[.agg [.bool,.int .i64,.bool,.bool]],[],[],[],fun ma mb mc md K=>K ⟨(.tuple #[(.int .u32 ((Mp.mk ma mb mc md).word)),(.int .i64 ((Mp.mk ma mb mc md).err))]),(some (.t [none,none])),[],[],[]⟩⟩
theorem EV:LV Un prog 133 pf:=by
 show ∀(ma:Bool)(mb:Int)(mc:Bool)(md:Bool),∀Q:Ou Un→Prop,(Q ⟨(.tuple #[(.int .u32 ((Mp.mk ma mb mc md).word)),(.int .i64 ((Mp.mk ma mb mc md).err))]),(some (.t [none,none])),[],[],[]⟩)→∀(X:Nat→Nat→Prop)(w:World),Sat (U:=Un) [] X w→aC (U:=Un) [] fr0 []→Calls prog 133 #[(.agg #[(.bool ma),(.int .i64 mb),(.bool mc),(.bool md)])] w (aM (U:=Un) [] [] X w Q)
 intro ma mb mc md Q hQ X w hs hl
 refine(I9 ma mb mc md).mono ?_
 rintro e w' ⟨u,rfl,rfl,q⟩
 exact aM.pu hs q hQ (KnO.tup _ (by simp))
def ia:Ctr Un:=⟨[.agg [.bool,.int .i64,.bool,.bool]],[],[],[],fun ma mb mc md K=>K ⟨(.tuple #[(.int .u32 ((Mp.mk ma mb mc md).word)),(.int .i64 ((Mp.mk ma mb mc md).err))]),(some (.t [none,none])),[],[],[]⟩⟩
def zJ(ma:Bool)(mb:Int)(mc:Bool)(md:Bool)(Q:Ou Un→Prop):Prop:=
 ∀(gv:Nat),
 ∃J:Bool→Prop,(
  split (decide (mb<0)) (
   J true) (
   J (decide (mb≥64))))∧∀(Oi:Nat→Value)(OX:Bool),J OX→
 split OX (
  Q ⟨(.tuple #[(.int .u32 0),(.int .i64 4)]),(some (.t [none,none])),[],[],[]⟩) (
  ∃J1:Bool→Prop,(
   split (!ma) (
    J1 md) (
    J1 false))∧∀(OW:Nat→Value)(Pw:Bool),J1 Pw→
  split Pw (
   Q ⟨(.tuple #[(.int .u32 0),(.int .i64 1)]),(some (.t [none,none])),[],[],[]⟩) (
   ∀n:Int,n=(i64.wrap ((i64.wrap (256*mb))+1))→
   split ma (
    ∀n1:Int,n1=(i64.wrap (n+2))→
    split mc (
     ∀n2:Int,n2=(i64.wrap (n1+4))→
     split md (
      ∀n3:Int,n3=(i64.wrap (n2+8))→
      Q ⟨(.tuple #[(.int .u32 (u32.wrap n3)),(.int .i64 0)]),(some (.t [none,none])),[],[],[]⟩) (
      Q ⟨(.tuple #[(.int .u32 (u32.wrap n2)),(.int .i64 0)]),(some (.t [none,none])),[],[],[]⟩)) (
     split md (
      ∀n2:Int,n2=(i64.wrap (n1+8))→
      Q ⟨(.tuple #[(.int .u32 (u32.wrap n2)),(.int .i64 0)]),(some (.t [none,none])),[],[],[]⟩) (
      Q ⟨(.tuple #[(.int .u32 (u32.wrap n1)),(.int .i64 0)]),(some (.t [none,none])),[],[],[]⟩))) (
    split mc (
     ∀n1:Int,n1=(i64.wrap (n+4))→
     split md (
      ∀n2:Int,n2=(i64.wrap (n1+8))→
      Q ⟨(.tuple #[(.int .u32 (u32.wrap n2)),(.int .i64 0)]),(some (.t [none,none])),[],[],[]⟩) (
      Q ⟨(.tuple #[(.int .u32 (u32.wrap n1)),(.int .i64 0)]),(some (.t [none,none])),[],[],[]⟩)) (
     split md (
      ∀n1:Int,n1=(i64.wrap (n+8))→
      Q ⟨(.tuple #[(.int .u32 (u32.wrap n1)),(.int .i64 0)]),(some (.t [none,none])),[],[],[]⟩) (
      Q ⟨(.tuple #[(.int .u32 (u32.wrap n)),(.int .i64 0)]),(some (.t [none,none])),[],[],[]⟩)))))
theorem zK:Vc2 Un prog (aR []) [4] Tryz.f168 (.r' (.two (.two (.node [] (some ⟨[(12,(.one .bool))],[],upN 5 8,[]⟩) [] [] .leaf .leaf) .leaf) (.two (.two (.node [] (some ⟨[(19,(.one .bool))],[],upN 13 7,[]⟩) [] [] .leaf .leaf) .leaf) .leaf))) [] ia=(∀ma mb mc md,∀Q,(ia.body ma mb mc md Q)→zJ ma mb mc md Q):=by kernel_rfl
theorem zI:LV Un prog 168 ia:=verify Tryz.func168 aa (tb:= []) trivial (by kernel_rfl) (zK.mpr fun ma mb mc md Q h gv=>cN ((decide ((mb:Int)<0)) || (decide ((mb:Int)≥64))) (af (fun c1=>(by grind)) fun c1=>(by grind))<| aZ (fun c2=>ao h (congrArg (fun l=>Value.tuple (List.toArray l)) (ab (bC (by(try simp only [IntKind.wrap_i64,IntKind.wrap_u32])<;>(grind [Mp.word,Mp.err,Mp.bits]))) (ab (aE (by(try simp only [IntKind.wrap_i64,IntKind.wrap_u32])<;>(grind [Mp.word,Mp.err,Mp.bits]))) rfl))) rfl rfl) fun c2=>cN ((!ma) && md) (af (fun c3=>(by grind)) fun c3=>(by grind))<| cE (fun c4=>ao h (congrArg (fun l=>Value.tuple (List.toArray l)) (ab (bC (by(try simp only [IntKind.wrap_i64,IntKind.wrap_u32])<;>(grind [Mp.word,Mp.err,Mp.bits]))) (ab (aE (by(try simp only [IntKind.wrap_i64,IntKind.wrap_u32])<;>(grind [Mp.word,Mp.err,Mp.bits]))) rfl))) rfl rfl) fun c4=>allEq<| af (fun c5=>allEq<| af (fun c6=>allEq<| af (fun c7=>allEq<| ao h (congrArg (fun l=>Value.tuple (List.toArray l)) (ab (bC (by(try simp only [IntKind.wrap_i64,IntKind.wrap_u32])<;>(grind [Mp.word,Mp.err,Mp.bits]))) (ab (aE (by(try simp only [IntKind.wrap_i64,IntKind.wrap_u32])<;>(grind [Mp.word,Mp.err,Mp.bits]))) rfl))) rfl rfl) fun c7=>ao h (congrArg (fun l=>Value.tuple (List.toArray l)) (ab (bC (by(try simp only [IntKind.wrap_i64,IntKind.wrap_u32])<;>(grind [Mp.word,Mp.err,Mp.bits]))) (ab (aE (by(try simp only [IntKind.wrap_i64,IntKind.wrap_u32])<;>(grind [Mp.word,Mp.err,Mp.bits]))) rfl))) rfl rfl) fun c6=>af (fun c8=>allEq<| ao h (congrArg (fun l=>Value.tuple (List.toArray l)) (ab (bC (by(try simp only [IntKind.wrap_i64,IntKind.wrap_u32])<;>(grind [Mp.word,Mp.err,Mp.bits]))) (ab (aE (by(try simp only [IntKind.wrap_i64,IntKind.wrap_u32])<;>(grind [Mp.word,Mp.err,Mp.bits]))) rfl))) rfl rfl) fun c8=>ao h (congrArg (fun l=>Value.tuple (List.toArray l)) (ab (bC (by(try simp only [IntKind.wrap_i64,IntKind.wrap_u32])<;>(grind [Mp.word,Mp.err,Mp.bits]))) (ab (aE (by(try simp only [IntKind.wrap_i64,IntKind.wrap_u32])<;>(grind [Mp.word,Mp.err,Mp.bits]))) rfl))) rfl rfl) fun c5=>af (fun c9=>allEq<| af (fun To=>allEq<| ao h (congrArg (fun l=>Value.tuple (List.toArray l)) (ab (bC (by(try simp only [IntKind.wrap_i64,IntKind.wrap_u32])<;>(grind))) (ab (aE (by(try simp only [IntKind.wrap_i64,IntKind.wrap_u32])<;>(grind))) rfl))) rfl rfl) fun To=>ao h (congrArg (fun l=>Value.tuple (List.toArray l)) (ab (bC (by(try simp only [IntKind.wrap_i64,IntKind.wrap_u32])<;>(grind [Mp.word,Mp.err,Mp.bits]))) (ab (aE (by(try simp only [IntKind.wrap_i64,IntKind.wrap_u32])<;>(grind [Mp.word,Mp.err,Mp.bits]))) rfl))) rfl rfl) fun c9=>af (fun RV=>allEq<| ao h (congrArg (fun l=>Value.tuple (List.toArray l)) (ab (bC (by(try simp only [IntKind.wrap_i64,IntKind.wrap_u32])<;>(grind))) (ab (aE (by(try simp only [IntKind.wrap_i64,IntKind.wrap_u32])<;>(grind))) rfl))) rfl rfl) fun RV=>ao h (congrArg (fun l=>Value.tuple (List.toArray l)) (ab (bC (by(try simp only [IntKind.wrap_i64,IntKind.wrap_u32])<;>(grind [Mp.word,Mp.err,Mp.bits]))) (ab (aE (by(try simp only [IntKind.wrap_i64,IntKind.wrap_u32])<;>(grind [Mp.word,Mp.err,Mp.bits]))) rfl))) rfl rfl)
end
section
set_option maxRecDepth 100000
set_option maxHeartbeats 1000000
attribute [local irreducible] Vc2 VcD
attribute [local grind=] Pd.dQ Pd.cT Pd.kz Pd.nS Pd.bk Pd.jd Pd.fJ Pd.iI Pd.nH
attribute [local grind .] Pd.Ok.ent
attribute [local grind→] Pd.Ok.er
def cj:Ctr Un:=⟨[.one (.obj 0 0),.agg [.bool,.int .i64],.one (.int .i64)],[],[.ob 2 []],[],fun fa fb off rm m K=>K ⟨(.int .u32 (m.bD fa fb off)),none,[],[],[]⟩⟩
theorem gh:LV Un prog 56 cj:=by
 show ∀(fa:Bool)(fb:Int)(off:Int)(rm:Nat→Nat)(m:Mem),∀Q:Ou Un→Prop,(Q ⟨(.int .u32 (m.bD fa fb off)),none,[],[],[]⟩)→∀(X:Nat→Nat→Prop)(w:World),Sat (U:=Un) [(.ob 2 rm m)] X w→aC (U:=Un) [(.ob 2 rm m)] fr0 []→Calls prog 56 #[(.pointer (some (Addr.mk (rm 0) 0 none))),(.agg #[(.bool fa),(.int .i64 fb)]),(.int .i64 off)] w (aM (U:=Un) [(.ob 2 rm m)] [] X w Q)
 intro fa fb off rm m Q hQ X w hs hl
 obtain⟨L,hX,hM⟩:=(hs.res 0 _ rfl:bJ 2 rm m (X 0) w)
 refine(Jl hM fa fb off).mono ?_
 rintro e w' ⟨u,rfl,rfl,q⟩
 exact aM.pu hs q hQ trivial
theorem xQ {E:Pd} {m:Mem}(h:m.Wf)(p o:Int):0≤(E.on m).word p o∧(E.on m).word p o<4294967296:=by
 show 0≤m.bD true p o∧m.bD true p o<_
 unfold Mem.bD
 split
 ·exact h.1 _ _ _
 ·omega
def fD:Ctr Un:=⟨[.one (.obj 0 0)],[],[.ob 2 []],[],fun rm m K=>K ⟨(.int .i64 (m.I:Int)),none,[],[],[]⟩⟩
theorem mJ:LV Un prog 109 fD:=by
 show ∀(rm:Nat→Nat)(m:Mem),∀Q:Ou Un→Prop,(Q ⟨(.int .i64 (m.I:Int)),none,[],[],[]⟩)→∀(X:Nat→Nat→Prop)(w:World),Sat (U:=Un) [(.ob 2 rm m)] X w→aC (U:=Un) [(.ob 2 rm m)] fr0 []→Calls prog 109 #[(.pointer (some (Addr.mk (rm 0) 0 none)))] w (aM (U:=Un) [(.ob 2 rm m)] [] X w Q)
 intro rm m Q hQ X w hs hl
 obtain⟨L,hX,hM⟩:=(hs.res 0 _ rfl:bJ 2 rm m (X 0) w)
 refine(yj hM).mono ?_
 rintro e w' ⟨u,rfl,rfl,q⟩
 exact aM.pu hs q hQ trivial
structure AS(D:DB)(p:Int)(l:List I64)(n:Int):Prop where
 len:l.length=D.S
 val:∀q:Int,0≤q→q<(D.S:Int)→(l.getD q.toNat (I64.mk 0)).v=D.named p n q
theorem rY(D:DB)(p q:Int) {n:Int}(h:0≤n):D.named p (n+1) q=D.named p n q+(if D.word p n !=0 && cl (D.word p n)==q then 1 else 0):=EK h
theorem AS.zero(D:DB)(p:Int)(n:Nat)(h:n=D.S):AS D p (List.replicate n (I64.mk 0)) 0:=
 ⟨by simp [h],fun q h1 h2=>by rw [List.getD_eq_getElem?_getD,List.getElem?_replicate,if_pos (by omega)];rfl⟩
theorem AS.skip {D:DB} {p n:Int} {l:List I64}(h:AS D p l n)(h0:0≤n)(hw:D.word p n=0):AS D p l (n+1):=
 ⟨h.len,fun q h1 h2=>by rw [h.val q h1 h2,rY D p q h0,hw];simp⟩
theorem AS.put {D:DB} {p n:Int} {l:List I64}(h:AS D p l n)(h0:0≤n∧n<256)(hw:¬D.word p n=0)(hp:0≤cl (D.word p n)∧cl (D.word p n)<(D.S:Int)):
 AS D p (l.set (cl (D.word p n)).toNat (I64.mk (i64.wrap ((l.getD (cl (D.word p n)).toNat (I64.mk 0)).v+1)))) (n+1):=by
 refine⟨by simp [h.len],fun q h1 h2=>?_⟩
 have hr:=JU (f:=fun i=>D.word p i !=0 && cl (D.word p i)==cl (D.word p n)) h0.1
 have QK:=JV (f:=fun i=>D.word p i !=0 && cl (D.word p i)==cl (D.word p n)) (n:=n)
 have hv:=h.val _ hp.1 hp.2
 rw [rY D p q h0.1,List.getD_eq_getElem?_getD,List.getElem?_set]
 by_cases hq:cl (D.word p n)=q
 ·subst hq
  rw [if_pos rfl,if_pos (by rw [h.len];omega)]
  show i64.wrap _=_
  rw [hv]
  unfold DB.named at *
  rw [aq (by omega)]
  simp [hw]
 ·rw [if_neg (by omega),← List.getD_eq_getElem?_getD,h.val q h1 h2]
  simp [hq]
end
section
set_option maxRecDepth 100000
set_option maxHeartbeats 1000000
attribute [local irreducible] Vc2 VcD
attribute [local grind=] Pd.dQ Pd.cT Pd.kz Pd.nS Pd.bk Pd.jd Pd.fJ Pd.iI Pd.nH Pd.Bn
attribute [local grind .] Pd.Ok.ent
attribute [local grind→] Pd.Ok.er
def jq:Ctr Un:=⟨[.one (.int .u32)],[],[],[],fun v K=>(0≤(v:Int)∧(v:Int)<4294967296)∧K ⟨(.tuple #[(.int .i64 (vaI v)),(.int .i64 (vaJ v)),(.int .i64 (vaO v)),(.int .i64 (iB v))]),(some (.t [none,none,none,none])),[],[],[]⟩⟩
def Ck(v:Int)(Q:Ou Un→Prop):Prop:=
 ∀n:Int,n=(i64.wrap v)→
 ∃J:Bool→Prop,(
  split (decide (n≥1073741824)) (
   J true) (
   J ((n.tmod 4) !=0)))∧∀(PO:Nat→Value)(PQ:Bool),J PQ→
 split PQ (
  Q ⟨(.tuple #[(.int .i64 0),(.int .i64 0),(.int .i64 0),(.int .i64 91)]),(some (.t [none,none,none,none])),[],[],[]⟩) (
  Q ⟨(.tuple #[(.int .i64 (i64.wrap (n.tdiv 4194304))),(.int .i64 ((i64.wrap (n.tdiv 4096)).tmod 1024)),(.int .i64 (i64.wrap ((n.tmod 4096).tdiv 4))),(.int .i64 0)]),(some (.t [none,none,none,none])),[],[],[]⟩)
theorem Cl:Vc2 Un prog (aR []) [6] Tryz.f187 (.r' (.r' (.two (.two (.node [] (some ⟨[(15,(.one .bool))],[],upN 9 7,[]⟩) [] [] .leaf .leaf) .leaf) .leaf))) [] jq=(∀v,∀Q,(jq.body v Q)→Ck v Q):=by kernel_rfl
theorem Cj:LV Un prog 187 jq:=verify Tryz.func187 aa (tb:= []) trivial (by kernel_rfl) (Cl.mpr fun v Q h=>by
 obtain⟨NK,h⟩:=h
 exact allEq<| cN ((decide (((i64.wrap v):Int)≥1073741824)) || ((((i64.wrap v):Int).tmod 4:Int) !=0)) (af (fun c1=>(by grind)) fun c1=>(by grind))<| aZ (fun c2=>ao h (by(have w0:i64.wrap (v)=v:=aq (by omega));(have d0:(v).tmod 4=v % 4:=Int.tmod_eq_emod_of_nonneg NK.1);simp only [w0,d0]at c2;(have h:iB v=91:=by grind [iB]);simp [vaI,vaJ,vaO,h]) rfl rfl) fun c2=>ao h (by(have w0:i64.wrap (v)=v:=aq (by omega));(have d0:(v).tmod 4=v % 4:=Int.tmod_eq_emod_of_nonneg NK.1);(have d1:(v).tdiv 4194304=v / 4194304:=Int.tdiv_eq_ediv_of_nonneg NK.1);(have d2:(v).tdiv 4096=v / 4096:=Int.tdiv_eq_ediv_of_nonneg NK.1);(have d3:(v).tmod 4096=v % 4096:=Int.tmod_eq_emod_of_nonneg NK.1);(have d4:(v / 4096).tmod 1024=(v / 4096) % 1024:=Int.tmod_eq_emod_of_nonneg (by omega));(have d5:(v % 4096).tdiv 4=(v % 4096) / 4:=Int.tdiv_eq_ediv_of_nonneg (by omega));(have w1:i64.wrap (v / 4194304)=v / 4194304:=aq (by omega));(have w2:i64.wrap (v / 4096)=v / 4096:=aq (by omega));(have w3:i64.wrap (v % 4096 / 4)=v % 4096 / 4:=aq (by omega));(have w4:i64.wrap (v / 4096 % 1024)=v / 4096 % 1024:=aq (by omega));(have w5:i64.wrap (v % 4096)=v % 4096:=aq (by omega));(have w6:i64.wrap (v / 4 % 1024)=v / 4 % 1024:=aq (by omega));(have e5:v % 4096 / 4=v / 4 % 1024:=by omega);simp only [w0,d0]at c2;simp only [w0,d1,d2,d3,w1,w2,w5,d4,d5,w3,w4,e5,w6];(have h:iB v=0:=by grind [iB]);simp [vaI,vaJ,vaO,h]) rfl rfl)
def j7:Ctr Un:=⟨[.agg [.int .u32,.bool,.bool]],[],[],[],fun va wr ex K=>(0≤(va:Int)∧(va:Int)<4294967296)∧K ⟨(.tuple #[(.int .u32 (mgW va wr ex)),(.int .i64 (cI va))]),(some (.t [none,none])),[],[],[]⟩⟩
def Fh(va:Int)(wr:Bool)(ex:Bool)(Q:Ou Un→Prop):Prop:=
 ∀(gv:Nat),
 ∃J:Bool→Prop,(
  split ((va.tmod 4096) !=0) (
   J true) (
   J (decide (va≥1073741824))))∧∀(Oi:Nat→Value)(P7:Bool),J P7→
 split P7 (
  Q ⟨(.tuple #[(.int .u32 0),(.int .i64 91)]),(some (.t [none,none])),[],[],[]⟩) (
  ∀wv:Int,wv=(u32.wrap (va+1))→
  split wr (
   ∀Nw:Int,Nw=(u32.wrap (wv+2))→
   split ex (
    ∀Ny:Int,Ny=(u32.wrap (Nw+4))→
    Q ⟨(.tuple #[(.int .u32 Ny),(.int .i64 0)]),(some (.t [none,none])),[],[],[]⟩) (
    Q ⟨(.tuple #[(.int .u32 Nw),(.int .i64 0)]),(some (.t [none,none])),[],[],[]⟩)) (
   split ex (
    ∀Nw:Int,Nw=(u32.wrap (wv+4))→
    Q ⟨(.tuple #[(.int .u32 Nw),(.int .i64 0)]),(some (.t [none,none])),[],[],[]⟩) (
    Q ⟨(.tuple #[(.int .u32 wv),(.int .i64 0)]),(some (.t [none,none])),[],[],[]⟩)))
theorem Fi:Vc2 Un prog (aR []) [4] Tryz.f165 (.r' (.two (.two (.node [] (some ⟨[(13,(.one .bool))],[],upN 5 9,[]⟩) [] [] .leaf .leaf) .leaf) .leaf)) [] j7=(∀va wr ex,∀Q,(j7.body va wr ex Q)→Fh va wr ex Q):=by kernel_rfl
theorem Fg:LV Un prog 165 j7:=verify Tryz.func165 aa (tb:= []) trivial (by kernel_rfl) (Fi.mpr fun va wr ex Q h=>by
 obtain⟨NK,h⟩:=h
 exact fun gv=>cN ((((va:Int).tmod 4096:Int) !=0) || (decide ((va:Int)≥1073741824))) (af (fun c1=>(by grind)) fun c1=>(by grind))<| aZ (fun c2=>ao h (by(have d0:(va).tmod 4096=va % 4096:=Int.tmod_eq_emod_of_nonneg NK.1);simp only [d0]at c2;(have h:cI va=91:=by grind [cI]);simp [mgW,h]) rfl rfl) fun c2=>allEq<| af (fun c3=>allEq<| af (fun c4=>allEq<| ao h (by(have d0:(va).tmod 4096=va % 4096:=Int.tmod_eq_emod_of_nonneg NK.1);simp only [d0]at c2;(have h:cI va=0:=by grind [cI]);(have h9:va % 4096=0∧va<1073741824:=by grind [cI]);(have e0:u32.wrap (va+1)=va+1:=bj (by omega));(have e1:u32.wrap (va+1+2)=va+1+2:=bj (by omega));(have e2:u32.wrap (va+1+2+4)=va+1+2+4:=bj (by omega));(have e3:u32.wrap (va+1+4)=va+1+4:=bj (by omega));simp only [e0,e1,e2,e3];simp [mgW,h,c3,c4]) rfl rfl) fun c4=>ao h (by(have d0:(va).tmod 4096=va % 4096:=Int.tmod_eq_emod_of_nonneg NK.1);simp only [d0]at c2;(have h:cI va=0:=by grind [cI]);(have h9:va % 4096=0∧va<1073741824:=by grind [cI]);(have e0:u32.wrap (va+1)=va+1:=bj (by omega));(have e1:u32.wrap (va+1+2)=va+1+2:=bj (by omega));(have e2:u32.wrap (va+1+2+4)=va+1+2+4:=bj (by omega));(have e3:u32.wrap (va+1+4)=va+1+4:=bj (by omega));simp only [e0,e1,e2,e3];simp [mgW,h,c3,c4]) rfl rfl) fun c3=>af (fun c5=>allEq<| ao h (by(have d0:(va).tmod 4096=va % 4096:=Int.tmod_eq_emod_of_nonneg NK.1);simp only [d0]at c2;(have h:cI va=0:=by grind [cI]);(have h9:va % 4096=0∧va<1073741824:=by grind [cI]);(have e0:u32.wrap (va+1)=va+1:=bj (by omega));(have e1:u32.wrap (va+1+2)=va+1+2:=bj (by omega));(have e2:u32.wrap (va+1+2+4)=va+1+2+4:=bj (by omega));(have e3:u32.wrap (va+1+4)=va+1+4:=bj (by omega));simp only [e0,e1,e2,e3];simp [mgW,h,c3,c5]) rfl rfl) fun c5=>ao h (by(have d0:(va).tmod 4096=va % 4096:=Int.tmod_eq_emod_of_nonneg NK.1);simp only [d0]at c2;(have h:cI va=0:=by grind [cI]);(have h9:va % 4096=0∧va<1073741824:=by grind [cI]);(have e0:u32.wrap (va+1)=va+1:=bj (by omega));(have e1:u32.wrap (va+1+2)=va+1+2:=bj (by omega));(have e2:u32.wrap (va+1+2+4)=va+1+2+4:=bj (by omega));(have e3:u32.wrap (va+1+4)=va+1+4:=bj (by omega));simp only [e0,e1,e2,e3];simp [mgW,h,c3,c5]) rfl rfl)
def fN:Ctr Un:=⟨[.one (.int .u32)],[],[],[],fun v K=>(0≤(v:Int)∧(v:Int)<4294967296)∧K ⟨(.tuple #[(.agg #[(.int .u32 (dt v)),(.bool (paW v)),(.bool (paX v))]),(.int .i64 (lu v))]),(some (.t [none,none])),[],[],[]⟩⟩
def B6(v:Int)(Q:Ou Un→Prop):Prop:=
 ∀(gv:Nat),
 ∀(NB:Nat),
 (0≤(u32.wrap (v - (v.tmod 4096)))∧(u32.wrap (v - (v.tmod 4096)))<4294967296)∧
 ∃J:Bool→Prop,(
  split ((cI (u32.wrap (v - (v.tmod 4096)))) !=0) (
   J true) (
   J ((mgW (u32.wrap (v - (v.tmod 4096))) (((u32.wrap (v.tdiv 2)).tmod 2)==1) (((u32.wrap (v.tdiv 4)).tmod 2)==1)) !=v)))∧∀(OW:Nat→Value)(QU:Bool),J QU→
 split QU (
  Q ⟨(.tuple #[(.agg #[(.int .u32 0),(.bool false),(.bool false)]),(.int .i64 142)]),(some (.t [none,none])),[],[],[]⟩) (
  Q ⟨(.tuple #[(.agg #[(.int .u32 (u32.wrap (v - (v.tmod 4096)))),(.bool (((u32.wrap (v.tdiv 2)).tmod 2)==1)),(.bool (((u32.wrap (v.tdiv 4)).tmod 2)==1))]),(.int .i64 0)]),(some (.t [none,none])),[],[],[]⟩)
theorem B7:Vc2 Un prog (aR [(165,j7)]) [] Tryz.f108 (.r' (.r' (.r' (.two (.two (.node [] (some ⟨[(31,(.one .bool))],[],upN 25 7,[]⟩) [] [] .leaf .leaf) .leaf) .leaf)))) [] fN=(∀v,∀Q,(fN.body v Q)→B6 v Q):=by kernel_rfl
theorem sY:LV Un prog 108 fN:=verify Tryz.func108 aa (tb:= [(165,j7)]) ⟨Fg,trivial⟩ (by kernel_rfl) (B7.mpr fun v Q h=>by
 obtain⟨NK,h⟩:=h
 exact fun gv NB=>aj (iU _) fun s1=>cN ((((cI (u32.wrap (v - ((v:Int).tmod 4096)))):Int) !=0) || (((mgW (u32.wrap (v - ((v:Int).tmod 4096))) (((u32.wrap ((v:Int).tdiv 2):Int).tmod 2:Int)==1) (((u32.wrap ((v:Int).tdiv 4):Int).tmod 2:Int)==1)):Int) !=v)) (af (fun c1=>(by grind)) fun c1=>(by grind))<| aZ (fun c2=>ao h (by(have d0:(v).tmod 4096=v % 4096:=Int.tmod_eq_emod_of_nonneg NK.1);(have d1:(v).tdiv 2=v / 2:=Int.tdiv_eq_ediv_of_nonneg NK.1);(have d2:(v).tdiv 4=v / 4:=Int.tdiv_eq_ediv_of_nonneg NK.1);(have w0:u32.wrap (v - v % 4096)=v - v % 4096:=bj (by omega));(have w1:u32.wrap (v / 2)=v / 2:=bj (by omega));(have w2:u32.wrap (v / 4)=v / 4:=bj (by omega));(have d3:(v / 2).tmod 2=(v / 2) % 2:=Int.tmod_eq_emod_of_nonneg (by omega));(have d4:(v / 4).tmod 2=(v / 4) % 2:=Int.tmod_eq_emod_of_nonneg (by omega));(have b2:(v / 2 % 2==1)=decide (v / 2 % 2=1):=by rw [Bool.eq_iff_iff];simp);(have b4:(v / 4 % 2==1)=decide (v / 4 % 2=1):=by rw [Bool.eq_iff_iff];simp);simp only [d0,d1,d2,w0,w1,w2,d3,d4,b2,b4]at c2;(have h:qm v=false:=by grind [qm]);simp [dt,paW,paX,lu,h]) rfl rfl) fun c2=>ao h (by(have d0:(v).tmod 4096=v % 4096:=Int.tmod_eq_emod_of_nonneg NK.1);(have d1:(v).tdiv 2=v / 2:=Int.tdiv_eq_ediv_of_nonneg NK.1);(have d2:(v).tdiv 4=v / 4:=Int.tdiv_eq_ediv_of_nonneg NK.1);(have w0:u32.wrap (v - v % 4096)=v - v % 4096:=bj (by omega));(have w1:u32.wrap (v / 2)=v / 2:=bj (by omega));(have w2:u32.wrap (v / 4)=v / 4:=bj (by omega));(have d3:(v / 2).tmod 2=(v / 2) % 2:=Int.tmod_eq_emod_of_nonneg (by omega));(have d4:(v / 4).tmod 2=(v / 4) % 2:=Int.tmod_eq_emod_of_nonneg (by omega));(have b2:(v / 2 % 2==1)=decide (v / 2 % 2=1):=by rw [Bool.eq_iff_iff];simp);(have b4:(v / 4 % 2==1)=decide (v / 4 % 2=1):=by rw [Bool.eq_iff_iff];simp);simp only [d0,d1,d2,w0,w1,w2,d3,d4,b2,b4]at c2 ⊢;(have h:qm v=true:=by grind [qm]);simp [dt,paW,paX,lu,h]) rfl rfl)
def cG:Ctr Un:=⟨[.one (.obj 0 0),.one (.int .i64)],[],[.ob 3 [(1,1,0)],.ob 2 []],[],fun p r E rm m K=>E.n=m.S∧K ⟨(.tuple #[(.agg #[(.int .i64 (((E.on m).entry p).typ)),(.int .i64 (((E.on m).entry p).owner)),(.int .i64 (((E.on m).entry p).refs)),(.int .i64 (((E.on m).entry p).state)),(.bool (((E.on m).entry p).aV))]),(.int .i64 ((E.on m).aO p))]),(some (.t [none,none])),[],[],[]⟩⟩
def Cd(p:Int)(r:Nat→Nat)(E:Pd)(rm:Nat→Nat)(m:Mem)(Q:Ou Un→Prop):Prop:=
 Pd.Ok E→
 Mem.Wf m→
 ∀(gv:Nat),
 ∃J:Bool→Prop,(
  split (decide (p<0)) (
   J true) (
   J (decide (p≥((Pd.aJ E).length:Int)))))∧∀(Oi:Nat→Value)(OJ:Bool),J OJ→
 split OJ (
  Q ⟨(.tuple #[(.agg #[(.int .i64 0),(.int .i64 0),(.int .i64 0),(.int .i64 0),(.bool false)]),(.int .i64 5)]),(some (.t [none,none])),[],[],[]⟩) (
  (0≤p∧p<((Pd.aJ E).length:Int))∧
  Q ⟨(.tuple #[(.agg #[(.int .i64 (((Pd.aJ E).getD p.toNat Ent.free).typ)),(.int .i64 (((Pd.aJ E).getD p.toNat Ent.free).owner)),(.int .i64 (((Pd.aJ E).getD p.toNat Ent.free).refs)),(.int .i64 (((Pd.aJ E).getD p.toNat Ent.free).state)),(.bool (((Pd.aJ E).getD p.toNat Ent.free).aV))]),(.int .i64 0)]),(some (.t [none,none])),[],[],[]⟩)
theorem Ce:Vc2 Un prog (aR []) [] Tryz.f46 (.r' (.two (.two (.node [] (some ⟨[(16,(.one .bool))],[],upN 6 11,[]⟩) [] [] .leaf .leaf) .leaf) .leaf)) [] cG=(∀p r (E:Pd) rm (m:Mem),∀Q,(cG.body p r E rm m Q)→Cd p r E rm m Q):=by kernel_rfl
section
attribute [local grind=] DB.entry DB.aO DB.of DB.is
theorem jn:LV Un prog 46 cG:=verify Tryz.func46 aa (tb:= []) trivial (by kernel_rfl) (Ce.mpr fun p r E rm m Q h=>by
 obtain⟨NK,h⟩:=h
 exact fun f1 f2 gv=>cN ((decide ((p:Int)<0)) || (decide ((p:Int)≥(((Pd.aJ E).length:Nat):Int)))) (af (fun c1=>(by grind)) fun c1=>(by grind))<| aZ (fun c2=>ao h (congrArg (fun l=>Value.tuple (List.toArray l)) (ab (congrArg (fun l=>Value.agg (List.toArray l)) (ab (aE (by grind)) (ab (aE (by grind)) (ab (aE (by grind)) (ab (aE (by grind)) (ab (eQb (by grind)) rfl)))))) (ab (aE (by grind)) rfl))) rfl rfl) fun c2=>aj (by grind) fun s3=>ao h (congrArg (fun l=>Value.tuple (List.toArray l)) (ab (congrArg (fun l=>Value.agg (List.toArray l)) (ab (aE (by grind)) (ab (aE (by grind)) (ab (aE (by grind)) (ab (aE (by grind)) (ab (eQb (by grind)) rfl)))))) (ab (aE (by grind)) rfl))) rfl rfl)
end
def fO:Ctr Un:=⟨[.one (.obj 0 0)],[],[.ob 3 [(1,1,0)],.ob 2 []],[],fun r E rm m K=>E.n=m.S∧K ⟨(.int .i64 ((E.on m).S:Int)),none,[],[],[]⟩⟩
def B9(r:Nat→Nat)(E:Pd)(rm:Nat→Nat)(m:Mem)(Q:Ou Un→Prop):Prop:=
 Pd.Ok E→
 Mem.Wf m→
 Q ⟨(.int .i64 ((Pd.aJ E).length:Int)),none,[],[],[]⟩
theorem Ca:Vc2 Un prog (aR []) [] Tryz.f157 .leaf [] fO=(∀r (E:Pd) rm (m:Mem),∀Q,(fO.body r E rm m Q)→B9 r E rm m Q):=by kernel_rfl
theorem tf:LV Un prog 157 fO:=verify Tryz.func157 aa (tb:= []) trivial (by kernel_rfl) (Ca.mpr fun r E rm m Q h=>by
 obtain⟨NK,h⟩:=h
 exact fun f1 f2=>eL h (by grind))
def hH:Ctr Un:=⟨[.one (.obj 0 0)],[],[.ob 3 []],[],fun r E K=>K ⟨(.int .i64 E.aF),none,[],[],[]⟩⟩
def zD(r:Nat→Nat)(E:Pd)(Q:Ou Un→Prop):Prop:=
 Pd.Ok E→
 Q ⟨(.int .i64 (Pd.aF E)),none,[],[],[]⟩
theorem zE:Vc2 Un prog (aR []) [] Tryz.f98 .leaf [] hH=(∀r (E:Pd),∀Q,(hH.body r E Q)→zD r E Q):=by kernel_rfl
theorem zC:LV Un prog 98 hH:=verify Tryz.func98 aa (tb:= []) trivial (by kernel_rfl) (zE.mpr fun r E Q h f1=>eL h (by omega))
def cg:Ctr Un:=⟨[.one (.int .i64)],[],[],[],fun p K=>K ⟨(.agg #[(.bool true),(.int .i64 p)]),none,[],[],[]⟩⟩
def zy(p:Int)(Q:Ou Un→Prop):Prop:=
 ∀(gv:Nat),
 Q ⟨(.agg #[(.bool true),(.int .i64 p)]),none,[],[],[]⟩
theorem zz:Vc2 Un prog (aR []) [] Tryz.f162 .leaf [] cg=(∀p,∀Q,(cg.body p Q)→zy p Q):=by kernel_rfl
theorem g9:LV Un prog 162 cg:=verify Tryz.func162 aa (tb:= []) trivial (by kernel_rfl) (zz.mpr fun p Q h gv=>h)
def gu:Ctr Un:=⟨[.one (.obj 0 0),.one (.int .i64),.one (.int .i64),.one (.int .i64)],[],[.ob 3 [(1,1,0)],.ob 2 []],[],fun p t s r E rm m K=>E.n=m.S∧K ⟨(.bool ((E.on m).of p t s)),none,[],[],[]⟩⟩
def Ie(p:Int)(t:Int)(s:Int)(r:Nat→Nat)(E:Pd)(rm:Nat→Nat)(m:Mem)(Q:Ou Un→Prop):Prop:=
 Pd.Ok E→
 Mem.Wf m→
 E.n=m.S∧
 ∀(gv:Nat),
 ∃J:Bool→Prop,(
  split (((E.on m).aO p)==0) (
   split (((E.on m).entry p).typ==t) (
    J (((E.on m).entry p).owner==s)) (
    J false)) (
   J false))∧∀(Oi:Nat→Value)(x8:Bool),J x8→
 Q ⟨(.bool x8),none,[],[],[]⟩
theorem Ig:Vc2 Un prog (aR [(46,cG)]) [] Tryz.f163 (.r' (.r' (.two (.node [] (some ⟨[(8,(.one .bool))],[],[8]++upN 17 14,[]⟩) [] [] .leaf .leaf) .leaf))) [] gu=(∀p t s r (E:Pd) rm (m:Mem),∀Q,(gu.body p t s r E rm m Q)→Ie p t s r E rm m Q):=by kernel_rfl
section
attribute [local grind=] DB.entry DB.aO DB.of DB.is
theorem sZ:LV Un prog 163 gu:=verify Tryz.func163 aa (tb:= [(46,cG)]) ⟨jn,trivial⟩ (by kernel_rfl) (Ig.mpr fun p t s r E rm m Q h=>by
 obtain⟨NK,h⟩:=h
 exact fun f1 f2=>aj ‹_› fun s3 gv=>cN (((((E.on m).aO p):Int)==0) && (((((E.on m).entry p).typ:Int)==t) && ((((E.on m).entry p).owner:Int)==s))) (af (fun c1=>af (fun c2=>(by grind)) fun c2=>(by grind)) fun c1=>(by grind))<| gZ h (by grind))
end
theorem yp {m:Mem}(h:m.Wf)(p o:Int):i64.wrap (m.bD true p o)=m.bD true p o:=aq (by have:=nR h true p o;omega)
def eg:Ctr Un:=⟨[.one (.obj 0 0),.one (.int .i64)],[],[.ob 3 [(1,1,0)],.ob 2 []],[],fun s r E rm m K=>E.n=m.S∧K ⟨(.tuple #[(.int .i64 ((E.on m).tbl s)),(.int .i64 ((E.on m).dG s))]),(some (.t [none,none])),[],[],[]⟩⟩
def B0(s:Int)(r:Nat→Nat)(E:Pd)(rm:Nat→Nat)(m:Mem)(Q:Ou Un→Prop):Prop:=
 Pd.Ok E→
 Mem.Wf m→
 E.n=m.S∧
 ∀(gv:Nat),
 split (((E.on m).aO s) !=0) (
  Q ⟨(.tuple #[(.int .i64 0),(.int .i64 5)]),(some (.t [none,none])),[],[],[]⟩) (
  split (((E.on m).entry s).typ !=1) (
   Q ⟨(.tuple #[(.int .i64 0),(.int .i64 124)]),(some (.t [none,none])),[],[],[]⟩) (
   split (((E.on m).entry s).state==3) (
    Q ⟨(.tuple #[(.int .i64 0),(.int .i64 3)]),(some (.t [none,none])),[],[],[]⟩) (
    ∀t:Int,t=(i64.wrap (m.bD true s 0))→
    E.n=m.S∧
    split (!((E.on m).of t 3 s)) (
     Q ⟨(.tuple #[(.int .i64 0),(.int .i64 124)]),(some (.t [none,none])),[],[],[]⟩) (
     Q ⟨(.tuple #[(.int .i64 t),(.int .i64 0)]),(some (.t [none,none])),[],[],[]⟩))))
theorem B3:Vc2 Un prog (aR [(46,cG),(162,cg),(56,cj),(163,gu)]) [8] Tryz.f106 (.r' (.r' (.r' (.r' (.r' (.two (.node [] none [] [(3,[0])] .leaf .leaf) .leaf)))))) [] eg=(∀s r (E:Pd) rm (m:Mem),∀Q,(eg.body s r E rm m Q)→B0 s r E rm m Q):=by kernel_rfl
section
attribute [local grind=] DB.entry DB.aO DB.of DB.is DB.tbl DB.dG DB.word
theorem nc:LV Un prog 106 eg:=verify Tryz.func106 aa (tb:= [(46,cG),(162,cg),(56,cj),(163,gu)]) ⟨jn,g9,gh,sZ,trivial⟩ (by kernel_rfl) (B3.mpr fun s r E rm m Q h=>by
 obtain⟨NK,h⟩:=h
 exact fun f1 f2=>(by(have UF:=fun(p o:Int)=>yp f2 p o);exact aj ‹_› fun s3 gv=>aB (fun c1=>ao h (congrArg (fun l=>Value.tuple (List.toArray l)) (ab (aE (by grind)) (ab (aE (by grind)) rfl))) rfl rfl) fun c1=>aB (fun c2=>ao h (congrArg (fun l=>Value.tuple (List.toArray l)) (ab (aE (by grind)) (ab (aE (by grind)) rfl))) rfl rfl) fun c2=>aG (fun c3=>ao h (congrArg (fun l=>Value.tuple (List.toArray l)) (ab (aE (by grind)) (ab (aE (by grind)) rfl))) rfl rfl) fun c3=>allEq<| aj ‹_› fun s4=>cD (fun c4=>(by have hwq:=UF s 0;exact ao h (congrArg (fun l=>Value.tuple (List.toArray l)) (ab (aE (by grind)) (ab (aE (by grind)) rfl))) rfl rfl)) fun c4=>(by have hwq:=UF s 0;exact ao h (congrArg (fun l=>Value.tuple (List.toArray l)) (ab (aE (by grind)) (ab (aE (by grind)) rfl))) rfl rfl)))
end
def fB:Ctr Un:=⟨[.one (.obj 0 0),.one (.int .i64),.one (.int .i64),.one (.int .i64)],[],[.ob 3 [(1,1,0)],.ob 2 []],[0,1],fun s i q r E rm m K=>E.n=m.S∧K ⟨(.int .i64 ((E.on m).nb s i q)),none,[.ob 3 (((E.on m).add s i q).pd),.ob 2 (((E.on m).add s i q).mem)],[],[]⟩⟩
def uj(s:Int)(i:Int)(q:Int)(r:Nat→Nat)(E:Pd)(rm:Nat→Nat)(m:Mem)(Q:Ou Un→Prop):Prop:=
 Pd.Ok E→
 Mem.Wf m→
 E.n=m.S∧
 split (((E.on m).dG s) !=0) (
  Q ⟨(.int .i64 ((E.on m).dG s)),none,[.ob 3 E,.ob 2 m],[],[]⟩) (
  ∃J:Bool→Prop,(
   split (decide (i<0)) (
    J true) (
    J (decide (i>255))))∧∀(PO:Nat→Value)(SB:Bool),J SB→
  split SB (
   Q ⟨(.int .i64 4),none,[.ob 3 E,.ob 2 m],[],[]⟩) (
   ∃J1:Bool→Prop,(
    split (decide (q<0)) (
     J1 true) (
     E.n=m.S∧
     J1 (decide (q≥(E.on m).S))))∧∀(Oi:Nat→Value)(P8:Bool),J1 P8→
   split P8 (
    Q ⟨(.int .i64 5),none,[.ob 3 E,.ob 2 m],[],[]⟩) (
    E.n=m.S∧
    split (!((E.on m).of q 4 s)) (
     Q ⟨(.int .i64 124),none,[.ob 3 E,.ob 2 m],[],[]⟩) (
     split ((m.bD true ((E.on m).tbl s) i) !=0) (
      Q ⟨(.int .i64 140),none,[.ob 3 E,.ob 2 m],[],[]⟩) (
      (0≤(cm q)∧(cm q)<4294967296)∧
      ∀(m1:Mem),m1=(m.write true ((E.on m).tbl s) i (cm q))→
      Mem.Wf m1→
      Q ⟨(.int .i64 0),none,[.ob 3 E,.ob 2 m1],[],[]⟩)))))
theorem uk:Vc2 Un prog (aR [(106,eg),(157,fO),(163,gu),(162,cg),(56,cj),(164,fP),(47,bY)]) [] Tryz.f107 (.r' (.r' (.r' (.two (.two (.node [] (some ⟨[(27,(.one .bool))],[],upN 22 6,[]⟩) [] [] .leaf .leaf) .leaf) (.two (.two (.node [] (some ⟨[(35,(.one .bool))],[],upN 28 8,[]⟩) [] [] .leaf .leaf) .leaf) (.r' (.two (.two (.node [] none [] [(3,[0])] .leaf .leaf) .leaf) (.r' (.two (.node [] none [] [(3,[0])] .leaf .leaf) .leaf))))))))) [] fB=(∀s i q r (E:Pd) rm (m:Mem),∀Q,(fB.body s i q r E rm m Q)→uj s i q r E rm m Q):=by kernel_rfl
section
attribute [local grind=] DB.entry DB.aO DB.of DB.is DB.word DB.nb DB.add Pd.jW Mem.bI
theorem ui:LV Un prog 107 fB:=verify Tryz.func107 aa (tb:= [(106,eg),(157,fO),(163,gu),(162,cg),(56,cj),(164,fP),(47,bY)]) ⟨nc,tf,sZ,g9,gh,th,fQ,trivial⟩ (by kernel_rfl) (uk.mpr fun s i q r E rm m Q h=>by
 obtain⟨NK,h⟩:=h
 exact fun f1 f2=>(by(have UF:=fun(p o:Int)=>yp f2 p o);exact aj ‹_› fun s3=>aB (fun c1=>ao h (aE (by grind)) (ab (uO3 (by grind)) (ab (uO2 (by grind)) rfl)) rfl) fun c1=>cN ((decide ((i:Int)<0)) || (decide ((i:Int)>255))) (af (fun c2=>(by grind)) fun c2=>(by grind))<| aZ (fun c3=>ao h (aE (by grind)) (ab (uO3 (by grind)) (ab (uO2 (by grind)) rfl)) rfl) fun c3=>cN ((decide ((q:Int)<0)) || (decide ((q:Int)≥((E.on m).S:Int)))) (af (fun c4=>(by grind)) fun c4=>aj ‹_› fun s4=>(by grind))<| aZ (fun c5=>ao h (aE (by grind)) (ab (uO3 (by grind)) (ab (uO2 (by grind)) rfl)) rfl) fun c5=>aj ‹_› fun s5=>cD (fun c6=>ao h (aE (by grind)) (ab (uO3 (by grind)) (ab (uO2 (by grind)) rfl)) rfl) fun c6=>aB (fun c7=>ao h (aE (by grind)) (ab (uO3 (by grind)) (ab (uO2 (by grind)) rfl)) rfl) fun c7=>aj (mW _) fun s6 m1 N5 f7=>ao h (aE (by grind)) (ab (uO3 (by grind)) (ab (uO2 (by grind)) rfl)) rfl))
end
def fM:Ctr Un:=⟨[.one (.obj 0 0),.one (.int .i64),.one (.int .u32)],[],[.ob 3 [(1,1,0)],.ob 2 []],[],fun s va r E rm m K=>E.n=m.S∧(0≤(va:Int)∧(va:Int)<4294967296)∧K ⟨(.tuple #[(.int .i64 (if(E.on m).dN s va=0 then(E.on m).plP s va else 0)),(.int .i64 (if(E.on m).dN s va=0 then vaJ va else 0)),(.int .i64 ((E.on m).dN s va))]),(some (.t [none,none,none])),[],[],[]⟩⟩
def B4(s:Int)(va:Int)(r:Nat→Nat)(E:Pd)(rm:Nat→Nat)(m:Mem)(Q:Ou Un→Prop):Prop:=
 Pd.Ok E→
 Mem.Wf m→
 E.n=m.S∧
 split (((E.on m).dG s) !=0) (
  Q ⟨(.tuple #[(.int .i64 0),(.int .i64 0),(.int .i64 ((E.on m).dG s))]),(some (.t [none,none,none])),[],[],[]⟩) (
  (0≤va∧va<4294967296)∧
  split ((iB va) !=0) (
   Q ⟨(.tuple #[(.int .i64 0),(.int .i64 0),(.int .i64 91)]),(some (.t [none,none,none])),[],[],[]⟩) (
   (0≤(m.bD true ((E.on m).tbl s) (vaI va))∧(m.bD true ((E.on m).tbl s) (vaI va))<4294967296)∧
   ∃J:Bool→Prop,(
    split ((kZ (m.bD true ((E.on m).tbl s) (vaI va))) !=0) (
     J true) (
     E.n=m.S∧
     J (!((E.on m).of (cl (m.bD true ((E.on m).tbl s) (vaI va))) 4 s))))∧∀(PO:Nat→Value)(VQ:Bool),J VQ→
   split VQ (
    Q ⟨(.tuple #[(.int .i64 0),(.int .i64 0),(.int .i64 141)]),(some (.t [none,none,none])),[],[],[]⟩) (
    Q ⟨(.tuple #[(.int .i64 (cl (m.bD true ((E.on m).tbl s) (vaI va)))),(.int .i64 (vaJ va)),(.int .i64 0)]),(some (.t [none,none,none])),[],[],[]⟩)))
theorem B5:Vc2 Un prog (aR [(106,eg),(187,jq),(162,cg),(56,cj),(188,ez),(163,gu)]) [] Tryz.f169 (.r' (.r' (.r' (.r' (.r' (.two (.node [] none [] [(3,[0])] .leaf .leaf) (.two (.two (.node [] (some ⟨[(53,(.one .bool))],[],upN 45 9,[]⟩) [] [] .leaf .leaf) .leaf) .leaf))))))) [] fM=(∀s va r (E:Pd) rm (m:Mem),∀Q,(fM.body s va r E rm m Q)→B4 s va r E rm m Q):=by kernel_rfl
section
attribute [local grind=] DB.entry DB.aO DB.of DB.is DB.word DB.dN DB.plP DB.bK DB.pF
theorem sX:LV Un prog 169 fM:=verify Tryz.func169 aa (tb:= [(106,eg),(187,jq),(162,cg),(56,cj),(188,ez),(163,gu)]) ⟨nc,Cj,g9,gh,qt,sZ,trivial⟩ (by kernel_rfl) (B5.mpr fun s va r E rm m Q h=>by
 obtain⟨NK,Oj,h⟩:=h
 exact fun f1 f2=>aj ‹_› fun s3=>aB (fun c1=>ao h (congrArg (fun l=>Value.tuple (List.toArray l)) (ab (aE (by grind)) (ab (aE (by grind)) (ab (aE (by grind)) rfl)))) rfl rfl) fun c1=>aj ‹_› fun s4=>aB (fun c2=>ao h (congrArg (fun l=>Value.tuple (List.toArray l)) (ab (aE (by grind)) (ab (aE (by grind)) (ab (aE (by grind)) rfl)))) rfl rfl) fun c2=>aj (nR ‹_› _ _ _) fun s5=>cN ((((kZ (m.bD true ((E.on m).tbl s) (vaI va))):Int) !=0) || (!((E.on m).of (cl (m.bD true ((E.on m).tbl s) (vaI va))) 4 s))) (af (fun c3=>(by grind)) fun c3=>aj ‹_› fun s6=>(by grind))<| aZ (fun c4=>ao h (congrArg (fun l=>Value.tuple (List.toArray l)) (ab (aE (by grind)) (ab (aE (by grind)) (ab (aE (by grind)) rfl)))) rfl rfl) fun c4=>ao h (congrArg (fun l=>Value.tuple (List.toArray l)) (ab (aE (by grind)) (ab (aE (by grind)) (ab (aE (by grind)) rfl)))) rfl rfl)
end
def gG:Ctr Un:=⟨[.one (.obj 0 0),.one (.int .i64),.one (.int .u32)],[],[.ob 3 [(1,1,0)],.ob 2 []],[],fun s va r E rm m K=>E.n=m.S∧(0≤(va:Int)∧(va:Int)<4294967296)∧K ⟨(.int .i64 ((E.on m).bK s va)),none,[],[],[]⟩⟩
def Fj(s:Int)(va:Int)(r:Nat→Nat)(E:Pd)(rm:Nat→Nat)(m:Mem)(Q:Ou Un→Prop):Prop:=
 Pd.Ok E→
 Mem.Wf m→
 E.n=m.S∧
 (0≤va∧va<4294967296)∧
 split (((E.on m).dN s va) !=0) (
  Q ⟨(.int .i64 ((E.on m).dN s va)),none,[],[],[]⟩) (
  split (((m.bD true (if(E.on m).dN s va=0 then(E.on m).plP s va else 0) (if(E.on m).dN s va=0 then vaJ va else 0)):Int) !=0) (
   Q ⟨(.int .i64 140),none,[],[],[]⟩) (
   Q ⟨(.int .i64 0),none,[],[],[]⟩))
theorem Fk:Vc2 Un prog (aR [(169,fM),(162,cg),(56,cj)]) [] Tryz.f166 (.r' (.r' (.r' (.two (.two (.node [] none [] [(3,[0])] .leaf .leaf) .leaf) .leaf)))) [] gG=(∀s va r (E:Pd) rm (m:Mem),∀Q,(gG.body s va r E rm m Q)→Fj s va r E rm m Q):=by kernel_rfl
section
attribute [local grind=] DB.entry DB.aO DB.of DB.is DB.word DB.dN DB.plP DB.bK DB.pF
theorem vB:LV Un prog 166 gG:=verify Tryz.func166 aa (tb:= [(169,fM),(162,cg),(56,cj)]) ⟨sX,g9,gh,trivial⟩ (by kernel_rfl) (Fk.mpr fun s va r E rm m Q h=>by
 obtain⟨NK,Oj,h⟩:=h
 exact fun f1 f2=>aj ‹_› fun s3=>aj ‹_› fun s4=>aB (fun c1=>eL h (by grind)) fun c1=>aB (fun c2=>eL h (by grind)) fun c2=>eL h (by grind))
end
def jm:Ctr Un:=⟨[.one (.obj 0 0),.one (.int .i64),.one (.int .u32),.agg [.bool,.int .i64,.bool,.bool]],[],[.ob 3 [(1,1,0)],.ob 2 []],[0,1],fun s va ma mb mc md r E rm m K=>E.n=m.S∧(0≤(va:Int)∧(va:Int)<4294967296)∧K ⟨(.int .i64 ((E.on m).lq s va (Mp.mk ma mb mc md))),none,[.ob 3 (((E.on m).put s va (Mp.mk ma mb mc md)).pd),.ob 2 (((E.on m).put s va (Mp.mk ma mb mc md)).mem)],[],[]⟩⟩
def Ib(s:Int)(va:Int)(ma:Bool)(mb:Int)(mc:Bool)(md:Bool)(r:Nat→Nat)(E:Pd)(rm:Nat→Nat)(m:Mem)(Q:Ou Un→Prop):Prop:=
 Pd.Ok E→
 Mem.Wf m→
 ∀(gv:Nat),
 E.n=m.S∧
 (0≤va∧va<4294967296)∧
 split (((E.on m).bK s va) !=0) (
  Q ⟨(.int .i64 ((E.on m).bK s va)),none,[.ob 3 E,.ob 2 m],[],[]⟩) (
  split ((Mp.mk ma mb mc md).err !=0) (
   Q ⟨(.int .i64 ((Mp.mk ma mb mc md).err)),none,[.ob 3 E,.ob 2 m],[],[]⟩) (
   E.n=m.S∧
   (0≤va∧va<4294967296)∧
   (0≤((Mp.mk ma mb mc md).word)∧((Mp.mk ma mb mc md).word)<4294967296)∧
   ∀(m1:Mem),m1=(m.write true (if(E.on m).dN s va=0 then(E.on m).plP s va else 0) (if(E.on m).dN s va=0 then vaJ va else 0) ((Mp.mk ma mb mc md).word))→
   Mem.Wf m1→
   Q ⟨(.int .i64 0),none,[.ob 3 E,.ob 2 m1],[],[]⟩))
theorem Ic:Vc2 Un prog (aR [(166,gG),(168,ia),(169,fM),(162,cg),(47,bY)]) [] Tryz.f112 (.r' (.r' (.r' (.r' (.r' (.r' (.two (.node [] none [] [(3,[0])] .leaf .leaf) .leaf))))))) [] jm=(∀s va ma mb mc md r (E:Pd) rm (m:Mem),∀Q,(jm.body s va ma mb mc md r E rm m Q)→Ib s va ma mb mc md r E rm m Q):=by kernel_rfl
section
attribute [local grind=] DB.entry DB.aO DB.of DB.is DB.word DB.dN DB.plP DB.bK DB.pF DB.lq DB.put Pd.jW Mem.bI
theorem zA:LV Un prog 112 jm:=verify Tryz.func112 aa (tb:= [(166,gG),(168,ia),(169,fM),(162,cg),(47,bY)]) ⟨vB,zI,sX,g9,fQ,trivial⟩ (by kernel_rfl) (Ic.mpr fun s va ma mb mc md r E rm m Q h=>by
 obtain⟨NK,Oj,h⟩:=h
 exact fun f1 f2 gv=>aj ‹_› fun s3=>aj ‹_› fun s4=>aB (fun c1=>ao h (aE (by grind)) (ab (uO3 (by grind)) (ab (uO2 (by grind)) rfl)) rfl) fun c1=>aB (fun c2=>ao h (aE (by grind)) (ab (uO3 (by grind)) (ab (uO2 (by grind)) rfl)) rfl) fun c2=>aj ‹_› fun s5=>aj ‹_› fun s6=>aj (wj _) fun s7 m1 N5 f8=>ao h (aE (by grind)) (ab (uO3 (by grind)) (ab (uO2 (by grind)) rfl)) rfl)
end
end
section
set_option maxRecDepth 100000
set_option maxHeartbeats 1000000
attribute [local irreducible] Vc2 VcD
attribute [local grind=] Pd.dQ Pd.cT Pd.kz Pd.nS Pd.bk Pd.jd Pd.fJ Pd.iI Pd.nH Pd.Bn
attribute [local grind .] Pd.Ok.ent
attribute [local grind→] Pd.Ok.er
def jr:Ctr Un:=⟨[.one (.sl 0)],[],[.lst 1 false 29],[],fun A c l K=>fi l∧∀(rN:Nat→Nat)(A1:Option Addr)(c1:Nat),K ⟨(.tuple #[(.agg #[(.int .u32 ((Dg.ae l).st.a)),(.int .u32 ((Dg.ae l).st.b)),(.int .u32 ((Dg.ae l).st.c)),(.int .u32 ((Dg.ae l).st.d)),(.int .u32 ((Dg.ae l).st.e)),(.int .u32 ((Dg.ae l).st.f)),(.int .u32 ((Dg.ae l).st.g)),(.int .u32 ((Dg.ae l).st.h)),(.slice A1 ((Dg.ae l).waits.length) c1),(.int .i64 ((Dg.ae l).n))]),(.int .i64 (Dg.ay l))]),(some (.t [none,none])),[],[(.ob 8 rN (Wt.mk A1 c1 (Dg.ae l).waits))],[]⟩⟩
theorem tz:LV Un prog 160 jr:=by
 show ∀(A:Option Addr)(c:Nat)(l:List U32),∀Q:Ou Un→Prop,(fi l∧∀(rN:Nat→Nat)(A1:Option Addr)(c1:Nat),Q ⟨(.tuple #[(.agg #[(.int .u32 ((Dg.ae l).st.a)),(.int .u32 ((Dg.ae l).st.b)),(.int .u32 ((Dg.ae l).st.c)),(.int .u32 ((Dg.ae l).st.d)),(.int .u32 ((Dg.ae l).st.e)),(.int .u32 ((Dg.ae l).st.f)),(.int .u32 ((Dg.ae l).st.g)),(.int .u32 ((Dg.ae l).st.h)),(.slice A1 ((Dg.ae l).waits.length) c1),(.int .i64 ((Dg.ae l).n))]),(.int .i64 (Dg.ay l))]),(some (.t [none,none])),[],[(.ob 8 rN (Wt.mk A1 c1 (Dg.ae l).waits))],[]⟩)→∀(X:Nat→Nat→Prop)(w:World),Sat (U:=Un) [(.lst 1 false 29 A c l)] X w→aC (U:=Un) [(.lst 1 false 29 A c l)] fr0 []→Calls prog 160 #[(.slice A l.length c)] w (aM (U:=Un) [(.lst 1 false 29 A c l)] [] X w Q)
 intro A c l Q hQ X w hs hl
 obtain⟨hw,hQ⟩:=hQ
 have hr:Rd w (X 0) A l.length c l:=hs.res 0 _ rfl
 refine(Jo hr hw).mono ?_
 rintro e w' ⟨u,rfl,Z',A',N',C',rfl,h2,hz,q⟩
 have hn:=h2.len
 subst hn
 exact aM.rZ (Z:=Z') hs q (show RS (U:=Un) Z' w' (.ob 8 (fun _=>0) (⟨A',C',(Dg.ae l).waits⟩:Wt))from h2) hz (hQ (fun _=>0) A' C') (KnO.tup _ (by simp)) (fun _ _ h=>by cases h)
def ka:Ctr Un:=⟨[.agg [.int .u32,.int .u32,.int .u32,.int .u32,.int .u32,.int .u32,.int .u32,.int .u32,.hdr,.int .i64],.one (.sl 1)],[(0,8),(2,6)],[.ob 8 [],.lst 1 false 29,.ob 6 []],[0],fun da db dc dd de df dg dh A0 n0 c0 dn rw x A c l rk kk K=>(A0=Wt.A x∧n0=(Wt.l x).length∧c0=Wt.c x)∧(Dg.mk (S8.mk da db dc dd de df dg dh) dn (Wt.l x)).Ok∧l.length≤1099511627776∧∀(A1:Option Addr)(c1:Nat),K ⟨(.agg #[(.int .u32 (((Dg.mk (S8.mk da db dc dd de df dg dh) dn (Wt.l x)).add kk l).st.a)),(.int .u32 (((Dg.mk (S8.mk da db dc dd de df dg dh) dn (Wt.l x)).add kk l).st.b)),(.int .u32 (((Dg.mk (S8.mk da db dc dd de df dg dh) dn (Wt.l x)).add kk l).st.c)),(.int .u32 (((Dg.mk (S8.mk da db dc dd de df dg dh) dn (Wt.l x)).add kk l).st.d)),(.int .u32 (((Dg.mk (S8.mk da db dc dd de df dg dh) dn (Wt.l x)).add kk l).st.e)),(.int .u32 (((Dg.mk (S8.mk da db dc dd de df dg dh) dn (Wt.l x)).add kk l).st.f)),(.int .u32 (((Dg.mk (S8.mk da db dc dd de df dg dh) dn (Wt.l x)).add kk l).st.g)),(.int .u32 (((Dg.mk (S8.mk da db dc dd de df dg dh) dn (Wt.l x)).add kk l).st.h)),(.slice A1 (((Dg.mk (S8.mk da db dc dd de df dg dh) dn (Wt.l x)).add kk l).waits.length) c1),(.int .i64 (((Dg.mk (S8.mk da db dc dd de df dg dh) dn (Wt.l x)).add kk l).n))]),none,[.ob 8 (Wt.mk A1 c1 ((Dg.mk (S8.mk da db dc dd de df dg dh) dn (Wt.l x)).add kk l).waits)],[],[]⟩⟩
theorem vH:LV Un prog 161 ka:=by
 show ∀(da:Int)(db:Int)(dc:Int)(dd:Int)(de:Int)(df:Int)(dg:Int)(dh:Int)(A0:Option Addr)(n0:Nat)(c0:Nat)(dn:Int) (rw:Nat→Nat)(x:Wt)(A:Option Addr)(c:Nat)(l:List U32)(rk:Nat→Nat)(kk:List Int),∀Q:Ou Un→Prop,((A0=Wt.A x∧n0=(Wt.l x).length∧c0=Wt.c x)∧(Dg.mk (S8.mk da db dc dd de df dg dh) dn (Wt.l x)).Ok∧l.length≤1099511627776∧∀(A1:Option Addr)(c1:Nat),Q ⟨(.agg #[(.int .u32 (((Dg.mk (S8.mk da db dc dd de df dg dh) dn (Wt.l x)).add kk l).st.a)),(.int .u32 (((Dg.mk (S8.mk da db dc dd de df dg dh) dn (Wt.l x)).add kk l).st.b)),(.int .u32 (((Dg.mk (S8.mk da db dc dd de df dg dh) dn (Wt.l x)).add kk l).st.c)),(.int .u32 (((Dg.mk (S8.mk da db dc dd de df dg dh) dn (Wt.l x)).add kk l).st.d)),(.int .u32 (((Dg.mk (S8.mk da db dc dd de df dg dh) dn (Wt.l x)).add kk l).st.e)),(.int .u32 (((Dg.mk (S8.mk da db dc dd de df dg dh) dn (Wt.l x)).add kk l).st.f)),(.int .u32 (((Dg.mk (S8.mk da db dc dd de df dg dh) dn (Wt.l x)).add kk l).st.g)),(.int .u32 (((Dg.mk (S8.mk da db dc dd de df dg dh) dn (Wt.l x)).add kk l).st.h)),(.slice A1 (((Dg.mk (S8.mk da db dc dd de df dg dh) dn (Wt.l x)).add kk l).waits.length) c1),(.int .i64 (((Dg.mk (S8.mk da db dc dd de df dg dh) dn (Wt.l x)).add kk l).n))]),none,[.ob 8 (Wt.mk A1 c1 ((Dg.mk (S8.mk da db dc dd de df dg dh) dn (Wt.l x)).add kk l).waits)],[],[]⟩)→∀(X:Nat→Nat→Prop)(w:World),Sat (U:=Un) [(.ob 8 rw x),(.lst 1 false 29 A c l),(.ob 6 rk kk)] X w→aC (U:=Un) [(.ob 8 rw x),(.lst 1 false 29 A c l),(.ob 6 rk kk)] fr0 []→Calls prog 161 #[(.agg #[(.int .u32 da),(.int .u32 db),(.int .u32 dc),(.int .u32 dd),(.int .u32 de),(.int .u32 df),(.int .u32 dg),(.int .u32 dh),(.slice A0 n0 c0),(.int .i64 dn)]),(.slice A l.length c)] w (aM (U:=Un) [(.ob 8 rw x),(.lst 1 false 29 A c l),(.ob 6 rk kk)] [0] X w Q)
 intro da db dc dd de df dg dh A0 n0 c0 dn rw x A c l rk kk Q hQ X w hs hl
 obtain⟨⟨rfl,rfl,rfl⟩,OZ,hlen,hQ⟩:=hQ
 have hO:Rd w (X 0) x.A x.l.length x.c x.l:=hs.res 0 _ rfl
 have hr:Rd w (X 1) A l.length c l:=hs.res 1 _ rfl
 obtain⟨hX2,hK⟩:=(hs.res 2 _ rfl:bJ 6 rk kk (X 2) w)
 refine(Ll hO hr hK da db dc dd de df dg dh dn OZ hlen).mono ?_
 rintro e w' ⟨u,rfl,Z',A',N',C',rfl,QK,hz,_,q⟩
 have Rj:=QK.len
 subst Rj
 exact aM.first (Z:=Z') hs (q.mono fun k hk=>hk.elim) (show bJ 8 rw (⟨A',C',_⟩:Wt) Z' w' from QK) hz (hQ A' C') trivial
def ng:Ctr Un:=⟨[.agg [.int .u32,.int .u32,.int .u32,.int .u32,.int .u32,.int .u32,.int .u32,.int .u32,.hdr,.int .i64]],[(0,8)],[.ob 8 []],[],fun da db dc dd de df dg dh A0 n0 c0 dn rw x K=>(A0=Wt.A x∧n0=(Wt.l x).length∧c0=Wt.c x)∧(Dg.mk (S8.mk da db dc dd de df dg dh) dn (Wt.l x)).Ok∧K ⟨(.agg ⟨Dg.sv (Dg.mk (S8.mk da db dc dd de df dg dh) dn (Wt.l x))⟩),none,[],[],[]⟩⟩
theorem Cu:LV Un prog 158 ng:=by
 show ∀(da:Int)(db:Int)(dc:Int)(dd:Int)(de:Int)(df:Int)(dg:Int)(dh:Int)(A0:Option Addr)(n0:Nat)(c0:Nat)(dn:Int) (rw:Nat→Nat)(x:Wt),∀Q:Ou Un→Prop,((A0=Wt.A x∧n0=(Wt.l x).length∧c0=Wt.c x)∧(Dg.mk (S8.mk da db dc dd de df dg dh) dn (Wt.l x)).Ok∧Q ⟨(.agg ⟨Dg.sv (Dg.mk (S8.mk da db dc dd de df dg dh) dn (Wt.l x))⟩),none,[],[],[]⟩)→∀(X:Nat→Nat→Prop)(w:World),Sat (U:=Un) [(.ob 8 rw x)] X w→aC (U:=Un) [(.ob 8 rw x)] fr0 []→Calls prog 158 #[(.agg #[(.int .u32 da),(.int .u32 db),(.int .u32 dc),(.int .u32 dd),(.int .u32 de),(.int .u32 df),(.int .u32 dg),(.int .u32 dh),(.slice A0 n0 c0),(.int .i64 dn)])] w (aM (U:=Un) [(.ob 8 rw x)] [] X w Q)
 intro da db dc dd de df dg dh A0 n0 c0 dn rw x Q hQ X w hs hl
 obtain⟨⟨rfl,rfl,rfl⟩,OZ,hQ⟩:=hQ
 have hO:Rd w (X 0) x.A x.l.length x.c x.l:=hs.res 0 _ rfl
 refine(Dc hO da db dc dd de df dg dh dn OZ).mono ?_
 rintro e w' ⟨u,rfl,rfl,q⟩
 rw [rI (by rw [Dg.ek OZ])]
 exact aM.pu hs q hQ trivial
def nh:Ctr Un:=⟨[.agg [.int .u32,.int .u32,.int .u32,.int .u32,.int .u32,.int .u32,.int .u32,.int .u32,.nsl,.int .i64]],[],[],[],fun da db dc dd de df dg dh dn K=>(Dg.mk (S8.mk da db dc dd de df dg dh) dn []).Ok∧K ⟨(.agg ⟨Dg.sv (Dg.mk (S8.mk da db dc dd de df dg dh) dn [])⟩),none,[],[],[]⟩⟩
theorem Cv:LV Un prog 158 nh:=by
 show ∀(da:Int)(db:Int)(dc:Int)(dd:Int)(de:Int)(df:Int)(dg:Int)(dh:Int)(dn:Int),∀Q:Ou Un→Prop,((Dg.mk (S8.mk da db dc dd de df dg dh) dn []).Ok∧Q ⟨(.agg ⟨Dg.sv (Dg.mk (S8.mk da db dc dd de df dg dh) dn [])⟩),none,[],[],[]⟩)→∀(X:Nat→Nat→Prop)(w:World),Sat (U:=Un) [] X w→aC (U:=Un) [] fr0 []→Calls prog 158 #[(.agg #[(.int .u32 da),(.int .u32 db),(.int .u32 dc),(.int .u32 dd),(.int .u32 de),(.int .u32 df),(.int .u32 dg),(.int .u32 dh),(.slice none 0 0),(.int .i64 dn)])] w (aM (U:=Un) [] [] X w Q)
 intro da db dc dd de df dg dh dn Q hQ X w hs hl
 obtain⟨OZ,hQ⟩:=hQ
 refine(Dc (Rd.nil (c:=0)) da db dc dd de df dg dh dn OZ).mono ?_
 rintro e w' ⟨u,rfl,rfl,q⟩
 rw [rI (by rw [Dg.ek OZ])]
 exact aM.pu hs q hQ trivial
def bG:Ctr Un:=⟨[.one (.int .i64)],[],[],[],fun p K=>K ⟨(.agg #[(.bool true),(.int .i64 p)]),none,[],[],[]⟩⟩
def zw(p:Int)(Q:Ou Un→Prop):Prop:=
 ∀(gv:Nat),
 Q ⟨(.agg #[(.bool true),(.int .i64 p)]),none,[],[],[]⟩
theorem zx:Vc2 Un prog (aR []) [] Tryz.f104 .leaf [] bG=(∀p,∀Q,(bG.body p Q)→zw p Q):=by kernel_rfl
theorem eR:LV Un prog 104 bG:=verify Tryz.func104 aa (tb:= []) trivial (by kernel_rfl) (zx.mpr fun p Q h gv=>h)
def j6:Ctr Un:=⟨[.one (.obj 0 0),.one (.int .u32),.agg [.int .u32,.int .u32,.int .u32,.int .u32,.int .u32,.int .u32,.int .u32,.int .u32,.nsl,.int .i64]],[],[.ob 3 [(1,1,0)],.ob 2 []],[1],fun s da db dc dd de df dg dh dn r E rm m K=>E.n=m.S∧(0≤(s:Int)∧(s:Int)<4294967296)∧(Dg.mk (S8.mk da db dc dd de df dg dh) dn []).Ok∧K ⟨(.tuple #[]),(some (.t [])),[.ob 2 (m.wrs s 11 (Dg.mk (S8.mk da db dc dd de df dg dh) dn []).save)],[],[]⟩⟩
def Fe(s:Int)(da:Int)(db:Int)(dc:Int)(dd:Int)(de:Int)(df:Int)(dg:Int)(dh:Int)(dn:Int)(r:Nat→Nat)(E:Pd)(rm:Nat→Nat)(m:Mem)(Q:Ou Un→Prop):Prop:=
 Pd.Ok E→
 Mem.Wf m→
 ∀(gv:Nat),
 (Dg.mk (S8.mk da db dc dd de df dg dh) dn []).Ok∧
 ∀(NB:Nat),
 ∀(s1:List U32),s1=(W26.n (W26.mk []))→
 (s1.length=26)∧
 ∀(s2:List U32),s2=(Dg.svL (Dg.mk (S8.mk da db dc dd de df dg dh) dn []))→
 ∀i:Int,i=0→
 ∃I:Nat→Int→Mem→Prop,(∃m1,I m1 i m)∧∀(m1:Nat)(OW:Nat→Value)(i1:Int)(Ov:Mem),I m1 i1 Ov→
 Mem.Wf Ov→
 split (decide (i1<26)) (
  ((0≤i1∧i1<(s2.length:Int))∧i1<(26:Int))∧
  (0≤((s2.getD i1.toNat (U32.mk 0)).v)∧((s2.getD i1.toNat (U32.mk 0)).v)<4294967296)∧
  ∀(m3:Mem),m3=(Ov.write true (i64.wrap s) (i64.wrap (11+i1)) ((s2.getD i1.toNat (U32.mk 0)).v))→
  Mem.Wf m3→
  ∀i2:Int,i2=(i64.wrap (i1+1))→
  ∃m2,m2<m1∧I m2 i2 m3) (
  Q ⟨(.tuple #[]),(some (.t [])),[.ob 2 Ov],[],[]⟩)
theorem Ff:Vc2 Un prog (aR [(158,nh),(104,bG),(47,bY)]) [7] Tryz.f100 (.r' (.r' (.r' (.two (.node [] (some ⟨[(7,(.one (.int .i64)))],[],[7]++upN 10 17,[(1,(.ob 2))]⟩) [] [] (.r' (.two (.two (.node [] none [] [(3,[0]),(11,[3])] .leaf .leaf) .leaf) .leaf)) .leaf) .leaf)))) [] j6=(∀s da db dc dd de df dg dh dn r (E:Pd) rm (m:Mem),∀Q,(j6.body s da db dc dd de df dg dh dn r E rm m Q)→Fe s da db dc dd de df dg dh dn r E rm m Q):=by kernel_rfl
theorem Fc:LV Un prog 100 j6:=verify Tryz.func100 aa (tb:= [(158,nh),(104,bG),(47,bY)]) ⟨Cv,eR,fQ,trivial⟩ (by kernel_rfl) (Ff.mpr fun s da db dc dd de df dg dh dn r E rm m Q h=>by
 obtain⟨NK,Oj,Om,h⟩:=h
 exact fun f1 f2=>(by(have QA:i64.wrap s=s:=aq (by omega));rw [QA];exact fun gv=>aj ‹_› fun e3 NB s1 Pt=>aj (by subst Pt;rfl) fun e4 s2 OE=>allEq<| ⟨fun m1 i1 Ov=>(m1=(26 - i1).toNat)∧(0≤i1∧i1≤26)∧(Ov=m.wrs s 11 ((Dg.mk (S8.mk da db dc dd de df dg dh) dn []).save.take i1.toNat)),⟨_,rfl,(by omega),(by subst_vars;rfl)⟩,fun m1 _ i1 Ov ⟨hm,h1,h2⟩=>fun f5=>ar (fun c1=>aj (by(have Rj:s2.length=26:=(by subst OE;rfl));omega) fun e6=>aj (by rw [OE,Dg.qC Om];exact Dg.yc Om (by omega)) fun e7 m3 Ol f8=>allEq<| ⟨_,(by rw [aq (by omega)];omega),rfl,(by rw [aq (by omega)];omega),(by rw [Mem.nt (Dg.ek Om) (by omega),← h2,← Dg.qC Om,← OE];assumption)⟩) fun c1=>ao h rfl (ab (uO2 (by rw [h2,List.take_of_length_le];rw [Dg.ek Om];omega)) rfl) rfl⟩))
def gF:Ctr Un:=⟨[.one (.obj 0 0),.one (.int .u32),.agg [.int .u32,.int .u32,.int .u32,.int .u32,.int .u32,.int .u32,.int .u32,.int .u32,.hdr,.int .i64]],[(2,8)],[.ob 3 [(1,1,0)],.ob 2 [],.ob 8 []],[1],fun s da db dc dd de df dg dh A0 n0 c0 dn r E rm m rw x K=>E.n=m.S∧(0≤(s:Int)∧(s:Int)<4294967296)∧(A0=Wt.A x∧n0=(Wt.l x).length∧c0=Wt.c x)∧(Dg.mk (S8.mk da db dc dd de df dg dh) dn (Wt.l x)).Ok∧K ⟨(.tuple #[]),(some (.t [])),[.ob 2 (m.wrs s 11 (Dg.mk (S8.mk da db dc dd de df dg dh) dn (Wt.l x)).save)],[],[]⟩⟩
def Fa(s:Int)(da:Int)(db:Int)(dc:Int)(dd:Int)(de:Int)(df:Int)(dg:Int)(dh:Int)(A0:Option Addr)(n0:Nat)(c0:Nat)(dn:Int)(r:Nat→Nat)(E:Pd)(rm:Nat→Nat)(m:Mem) (rw:Nat→Nat)(x:Wt)(Q:Ou Un→Prop):Prop:=
 Pd.Ok E→
 Mem.Wf m→
 ∀(gv:Nat),
 (A0=Wt.A x∧n0=(Wt.l x).length∧c0=Wt.c x)∧
 (Dg.mk (S8.mk da db dc dd de df dg dh) dn (Wt.l x)).Ok∧
 ∀(NB:Nat),
 ∀(s1:List U32),s1=(W26.n (W26.mk []))→
 (s1.length=26)∧
 ∀(s2:List U32),s2=(Dg.svL (Dg.mk (S8.mk da db dc dd de df dg dh) dn (Wt.l x)))→
 ∀i:Int,i=0→
 ∃I:Nat→Int→Mem→Prop,(∃m1,I m1 i m)∧∀(m1:Nat)(OW:Nat→Value)(i1:Int)(Ov:Mem),I m1 i1 Ov→
 Mem.Wf Ov→
 split (decide (i1<26)) (
  ((0≤i1∧i1<(s2.length:Int))∧i1<(26:Int))∧
  (0≤((s2.getD i1.toNat (U32.mk 0)).v)∧((s2.getD i1.toNat (U32.mk 0)).v)<4294967296)∧
  ∀(m3:Mem),m3=(Ov.write true (i64.wrap s) (i64.wrap (11+i1)) ((s2.getD i1.toNat (U32.mk 0)).v))→
  Mem.Wf m3→
  ∀i2:Int,i2=(i64.wrap (i1+1))→
  ∃m2,m2<m1∧I m2 i2 m3) (
  Q ⟨(.tuple #[]),(some (.t [])),[.ob 2 Ov],[],[]⟩)
theorem Fb:Vc2 Un prog (aR [(158,ng),(104,bG),(47,bY)]) [7] Tryz.f100 (.r' (.r' (.r' (.two (.node [] (some ⟨[(7,(.one (.int .i64)))],[],[7]++upN 10 17,[(1,(.ob 2))]⟩) [] [] (.r' (.two (.two (.node [] none [] [(3,[0]),(11,[4])] .leaf .leaf) .leaf) .leaf)) .leaf) .leaf)))) [] gF=(∀s da db dc dd de df dg dh A0 n0 c0 dn r (E:Pd) rm (m:Mem) rw (x:Wt),∀Q,(gF.body s da db dc dd de df dg dh A0 n0 c0 dn r E rm m rw x Q)→Fa s da db dc dd de df dg dh A0 n0 c0 dn r E rm m rw x Q):=by kernel_rfl
theorem vA:LV Un prog 100 gF:=verify Tryz.func100 aa (tb:= [(158,ng),(104,bG),(47,bY)]) ⟨Cu,eR,fQ,trivial⟩ (by kernel_rfl) (Fb.mpr fun s da db dc dd de df dg dh A0 n0 c0 dn r E rm m rw x Q h=>by
 obtain⟨NK,Oj,Om,Rh,h⟩:=h
 exact fun f1 f2=>(by(have QA:i64.wrap s=s:=aq (by omega));rw [QA];exact fun gv=>aj ‹_› fun e3=>aj ‹_› fun e4 NB s1 Pt=>aj (by subst Pt;rfl) fun e5 s2 OE=>allEq<| ⟨fun m1 i1 Ov=>(m1=(26 - i1).toNat)∧(0≤i1∧i1≤26)∧(Ov=m.wrs s 11 ((Dg.mk (S8.mk da db dc dd de df dg dh) dn (Wt.l x)).save.take i1.toNat)),⟨_,rfl,(by omega),(by subst_vars;rfl)⟩,fun m1 _ i1 Ov ⟨hm,h1,h2⟩=>fun f6=>ar (fun c1=>aj (by(have Rj:s2.length=26:=(by subst OE;rfl));omega) fun e7=>aj (by rw [OE,Dg.qC Rh];exact Dg.yc Rh (by omega)) fun e8 m3 Ol f9=>allEq<| ⟨_,(by rw [aq (by omega)];omega),rfl,(by rw [aq (by omega)];omega),(by rw [Mem.nt (Dg.ek Rh) (by omega),← h2,← Dg.qC Rh,← OE];assumption)⟩) fun c1=>ao h rfl (ab (uO2 (by rw [h2,List.take_of_length_le];rw [Dg.ek Rh];omega)) rfl) rfl⟩))
def cu:Ctr Un:=⟨[.one (.obj 0 0),.one (.int .u32),.one (.int .i64),.one (.int .u32),.one (.nsl)],[(2,6)],[.ob 3 [(1,1,0)],.ob 2 [],.ob 6 []],[1],fun s k a r E rm m rk kk K=>E.n=m.S∧(0≤(s:Int)∧(s:Int)<4294967296)∧(0≤(a:Int)∧(a:Int)<4294967296)∧((k:Int)=1∨(k:Int)=2∨(k:Int)=4)∧Dg.ay (m.dgW s)=0∧K ⟨(.tuple #[]),(some (.t [])),[.ob 2 (m.msd kk s k a [])],[],[]⟩⟩
def sG(s:Int)(k:Int)(a:Int)(r:Nat→Nat)(E:Pd)(rm:Nat→Nat)(m:Mem)(rk:Nat→Nat)(kk:List Int)(Q:Ou Un→Prop):Prop:=
 Pd.Ok E→
 Mem.Wf m→
 ∀i:Int,i=0→
 ∃I:Nat→Int→Option Addr→Nat→List U32→Prop,(∃m1,I m1 i none 0 ([]:List U32))∧∀(m1:Nat)(PO:Nat→Value)(i1:Int)(A3:Option Addr)(c3:Nat)(l3:List U32),I m1 i1 A3 c3 l3→
 split (decide (i1<26)) (
  ∀(NB:Nat),
  ∀(l:List U32),l=([U32.mk (m.bD true (i64.wrap s) (i64.wrap (11+i1)))]:List U32)→
  ((l3.length+l.length)*4≤140737488355328)∧
  ∀(A:Option Addr)(c:Nat),
  ∀(l1:List U32),l1=(l3++l)→
  ∀i2:Int,i2=(i64.wrap (i1+1))→
  ∃m2,m2<m1∧I m2 i2 A c l1) (
  fi l3∧
  ∀(rN:Nat→Nat)(A1:Option Addr)(c1:Nat),
  ∀(s1:Wt),s1=(Wt.mk A1 c1 (Dg.ae l3).waits)→
  ∀(NB:Nat),
  ∀(NZ:Nat),
  ∀(l:List U32),l=([U32.mk (u32.wrap k),U32.mk a]:List U32)→
  ((l.length+([]:List U32).length)*4≤140737488355328)∧
  ∀(A:Option Addr)(c:Nat),
  ∀(l1:List U32),l1=(l++([]:List U32))→
  (A1=Wt.A s1∧((Dg.ae l3).waits.length)=(Wt.l s1).length∧c1=Wt.c s1)∧
  (Dg.mk (S8.mk ((Dg.ae l3).st.a) ((Dg.ae l3).st.b) ((Dg.ae l3).st.c) ((Dg.ae l3).st.d) ((Dg.ae l3).st.e) ((Dg.ae l3).st.f) ((Dg.ae l3).st.g) ((Dg.ae l3).st.h)) ((Dg.ae l3).n) (Wt.l s1)).Ok∧
  l1.length≤1099511627776∧
  ∀(XF:Option Addr)(RV:Nat),
  ∀(s2:Wt),s2=(Wt.mk XF RV ((Dg.mk (S8.mk ((Dg.ae l3).st.a) ((Dg.ae l3).st.b) ((Dg.ae l3).st.c) ((Dg.ae l3).st.d) ((Dg.ae l3).st.e) ((Dg.ae l3).st.f) ((Dg.ae l3).st.g) ((Dg.ae l3).st.h)) ((Dg.ae l3).n) (Wt.l s1)).add kk l1).waits)→
  E.n=m.S∧
  (0≤s∧s<4294967296)∧
  (XF=Wt.A s2∧(((Dg.mk (S8.mk ((Dg.ae l3).st.a) ((Dg.ae l3).st.b) ((Dg.ae l3).st.c) ((Dg.ae l3).st.d) ((Dg.ae l3).st.e) ((Dg.ae l3).st.f) ((Dg.ae l3).st.g) ((Dg.ae l3).st.h)) ((Dg.ae l3).n) (Wt.l s1)).add kk l1).waits.length)=(Wt.l s2).length∧RV=Wt.c s2)∧
  (Dg.mk (S8.mk (((Dg.mk (S8.mk ((Dg.ae l3).st.a) ((Dg.ae l3).st.b) ((Dg.ae l3).st.c) ((Dg.ae l3).st.d) ((Dg.ae l3).st.e) ((Dg.ae l3).st.f) ((Dg.ae l3).st.g) ((Dg.ae l3).st.h)) ((Dg.ae l3).n) (Wt.l s1)).add kk l1).st.a) (((Dg.mk (S8.mk ((Dg.ae l3).st.a) ((Dg.ae l3).st.b) ((Dg.ae l3).st.c) ((Dg.ae l3).st.d) ((Dg.ae l3).st.e) ((Dg.ae l3).st.f) ((Dg.ae l3).st.g) ((Dg.ae l3).st.h)) ((Dg.ae l3).n) (Wt.l s1)).add kk l1).st.b) (((Dg.mk (S8.mk ((Dg.ae l3).st.a) ((Dg.ae l3).st.b) ((Dg.ae l3).st.c) ((Dg.ae l3).st.d) ((Dg.ae l3).st.e) ((Dg.ae l3).st.f) ((Dg.ae l3).st.g) ((Dg.ae l3).st.h)) ((Dg.ae l3).n) (Wt.l s1)).add kk l1).st.c) (((Dg.mk (S8.mk ((Dg.ae l3).st.a) ((Dg.ae l3).st.b) ((Dg.ae l3).st.c) ((Dg.ae l3).st.d) ((Dg.ae l3).st.e) ((Dg.ae l3).st.f) ((Dg.ae l3).st.g) ((Dg.ae l3).st.h)) ((Dg.ae l3).n) (Wt.l s1)).add kk l1).st.d) (((Dg.mk (S8.mk ((Dg.ae l3).st.a) ((Dg.ae l3).st.b) ((Dg.ae l3).st.c) ((Dg.ae l3).st.d) ((Dg.ae l3).st.e) ((Dg.ae l3).st.f) ((Dg.ae l3).st.g) ((Dg.ae l3).st.h)) ((Dg.ae l3).n) (Wt.l s1)).add kk l1).st.e) (((Dg.mk (S8.mk ((Dg.ae l3).st.a) ((Dg.ae l3).st.b) ((Dg.ae l3).st.c) ((Dg.ae l3).st.d) ((Dg.ae l3).st.e) ((Dg.ae l3).st.f) ((Dg.ae l3).st.g) ((Dg.ae l3).st.h)) ((Dg.ae l3).n) (Wt.l s1)).add kk l1).st.f) (((Dg.mk (S8.mk ((Dg.ae l3).st.a) ((Dg.ae l3).st.b) ((Dg.ae l3).st.c) ((Dg.ae l3).st.d) ((Dg.ae l3).st.e) ((Dg.ae l3).st.f) ((Dg.ae l3).st.g) ((Dg.ae l3).st.h)) ((Dg.ae l3).n) (Wt.l s1)).add kk l1).st.g) (((Dg.mk (S8.mk ((Dg.ae l3).st.a) ((Dg.ae l3).st.b) ((Dg.ae l3).st.c) ((Dg.ae l3).st.d) ((Dg.ae l3).st.e) ((Dg.ae l3).st.f) ((Dg.ae l3).st.g) ((Dg.ae l3).st.h)) ((Dg.ae l3).n) (Wt.l s1)).add kk l1).st.h)) (((Dg.mk (S8.mk ((Dg.ae l3).st.a) ((Dg.ae l3).st.b) ((Dg.ae l3).st.c) ((Dg.ae l3).st.d) ((Dg.ae l3).st.e) ((Dg.ae l3).st.f) ((Dg.ae l3).st.g) ((Dg.ae l3).st.h)) ((Dg.ae l3).n) (Wt.l s1)).add kk l1).n) (Wt.l s2)).Ok∧
  ∀(m3:Mem),m3=(m.wrs s 11 (Dg.mk (S8.mk (((Dg.mk (S8.mk ((Dg.ae l3).st.a) ((Dg.ae l3).st.b) ((Dg.ae l3).st.c) ((Dg.ae l3).st.d) ((Dg.ae l3).st.e) ((Dg.ae l3).st.f) ((Dg.ae l3).st.g) ((Dg.ae l3).st.h)) ((Dg.ae l3).n) (Wt.l s1)).add kk l1).st.a) (((Dg.mk (S8.mk ((Dg.ae l3).st.a) ((Dg.ae l3).st.b) ((Dg.ae l3).st.c) ((Dg.ae l3).st.d) ((Dg.ae l3).st.e) ((Dg.ae l3).st.f) ((Dg.ae l3).st.g) ((Dg.ae l3).st.h)) ((Dg.ae l3).n) (Wt.l s1)).add kk l1).st.b) (((Dg.mk (S8.mk ((Dg.ae l3).st.a) ((Dg.ae l3).st.b) ((Dg.ae l3).st.c) ((Dg.ae l3).st.d) ((Dg.ae l3).st.e) ((Dg.ae l3).st.f) ((Dg.ae l3).st.g) ((Dg.ae l3).st.h)) ((Dg.ae l3).n) (Wt.l s1)).add kk l1).st.c) (((Dg.mk (S8.mk ((Dg.ae l3).st.a) ((Dg.ae l3).st.b) ((Dg.ae l3).st.c) ((Dg.ae l3).st.d) ((Dg.ae l3).st.e) ((Dg.ae l3).st.f) ((Dg.ae l3).st.g) ((Dg.ae l3).st.h)) ((Dg.ae l3).n) (Wt.l s1)).add kk l1).st.d) (((Dg.mk (S8.mk ((Dg.ae l3).st.a) ((Dg.ae l3).st.b) ((Dg.ae l3).st.c) ((Dg.ae l3).st.d) ((Dg.ae l3).st.e) ((Dg.ae l3).st.f) ((Dg.ae l3).st.g) ((Dg.ae l3).st.h)) ((Dg.ae l3).n) (Wt.l s1)).add kk l1).st.e) (((Dg.mk (S8.mk ((Dg.ae l3).st.a) ((Dg.ae l3).st.b) ((Dg.ae l3).st.c) ((Dg.ae l3).st.d) ((Dg.ae l3).st.e) ((Dg.ae l3).st.f) ((Dg.ae l3).st.g) ((Dg.ae l3).st.h)) ((Dg.ae l3).n) (Wt.l s1)).add kk l1).st.f) (((Dg.mk (S8.mk ((Dg.ae l3).st.a) ((Dg.ae l3).st.b) ((Dg.ae l3).st.c) ((Dg.ae l3).st.d) ((Dg.ae l3).st.e) ((Dg.ae l3).st.f) ((Dg.ae l3).st.g) ((Dg.ae l3).st.h)) ((Dg.ae l3).n) (Wt.l s1)).add kk l1).st.g) (((Dg.mk (S8.mk ((Dg.ae l3).st.a) ((Dg.ae l3).st.b) ((Dg.ae l3).st.c) ((Dg.ae l3).st.d) ((Dg.ae l3).st.e) ((Dg.ae l3).st.f) ((Dg.ae l3).st.g) ((Dg.ae l3).st.h)) ((Dg.ae l3).n) (Wt.l s1)).add kk l1).st.h)) (((Dg.mk (S8.mk ((Dg.ae l3).st.a) ((Dg.ae l3).st.b) ((Dg.ae l3).st.c) ((Dg.ae l3).st.d) ((Dg.ae l3).st.e) ((Dg.ae l3).st.f) ((Dg.ae l3).st.g) ((Dg.ae l3).st.h)) ((Dg.ae l3).n) (Wt.l s1)).add kk l1).n) (Wt.l s2)).save)→
  Mem.Wf m3→
  Q ⟨(.tuple #[]),(some (.t [])),[.ob 2 m3],[],[]⟩)
theorem sH:Vc2 Un prog (aR [(104,bG),(56,cj),(160,jr),(161,ka),(100,gF)]) [10,11,14] Tryz.f105 (.r' (.two (.r' (.two (.node [(.s 10,1,29)] (some ⟨[(11,(.one (.int .i64)))],[(10,(.p (.sl 3 0)))],[10,11]++upN 15 17,[(3,(.lst 1))]⟩) [] [] (.r' (.two (.two (.node [] none [] [(4,[0])] .leaf .leaf) .leaf) .leaf)) .leaf) .leaf)) .leaf)) [] cu=(∀s k a r (E:Pd) rm (m:Mem) rk (kk:List Int),∀Q,(cu.body s k a r E rm m rk kk Q)→sG s k a r E rm m rk kk Q):=by kernel_rfl
theorem jl:LV Un prog 105 cu:=verify Tryz.func105 aa (tb:= [(104,bG),(56,cj),(160,jr),(161,ka),(100,gF)]) ⟨eR,gh,tz,vH,vA,trivial⟩ (by kernel_rfl) (sH.mpr fun s k a r E rm m rk kk Q h=>by
 obtain⟨NK,Oj,Om,Rh,Qs,h⟩:=h
 exact fun f1 f2=>(by(have QA:i64.wrap s=s:=aq (by omega));rw [QA];exact allEq<| ⟨fun m1 i1 A3 c3 l3=>(m1=(26 - i1).toNat)∧(0≤i1∧i1≤26)∧(l3=(m.dgW s).take i1.toNat),⟨_,rfl,(by omega),(by subst_vars;rfl)⟩,fun m1 _ i1 A3 c3 l3 ⟨hm,h1,h3⟩=>ar (fun c1 NB l Rl=>aj (by(have h9:l3.length≤26:=by rw [h3,List.length_take,Mem.dZ];omega);rw [Rl];simp;omega) fun e3 A c l1 PF=>allEq<| ⟨_,(by rw [aq (by omega)];omega),rfl,(by rw [aq (by omega)];omega),(by rw [PF,Rl];exact Mem.yR (by omega) h3)⟩) fun c1=>(by(have h4:l3=m.dgW s:=by rw [h3,List.take_of_length_le (by rw [Mem.dZ];omega)]);(have hL:Dg.ae l3=Dg.load (m.dgW s):=by rw [h4];exact Dg.bQ Qs);have F0:=Dg.fe (Mem.iM f2 s) Qs;(have F1:=Dg.lI (K:=kk) (l:=opW k a []) F0 (rT (k:=k) (a:=a) Om (by omega) (fun x hx=>absurd hx (by simp))));(have hk:u32.wrap k=k:=bj (by omega));exact aj (by rw [h4];exact Mem.iM f2 s) fun e4 rN A1 c1 s1 Pt NB NZ l Rl=>aj (by rw [Rl];simp;try omega) fun e5 A c l1 PF=>aj (by subst_vars;exact⟨rfl,rfl,rfl⟩) fun e6=>aj (by rw [Pt];show(Dg.ae l3).Ok;rw [hL];exact F0.1) fun e7=>aj (by rw [PF,Rl];simp;try omega) fun e8 XF RV s2 OE=>aj ‹_› fun e9=>aj ‹_› fun e10=>aj (by subst_vars;exact⟨rfl,rfl,rfl⟩) fun e11=>aj (by rw [OE,Pt,PF,Rl,hk];show((Dg.ae l3).add kk (opW k a [])).Ok;rw [hL];exact F1.1) fun e12 m3 Ol f13=>ao h rfl (ab (uO2 (by rw [Ol,OE,Pt,PF,Rl,hk];unfold Mem.msd;rw [if_pos Qs,← hL];rfl)) rfl) rfl)⟩))
def gr:Ctr Un:=⟨[.one (.obj 0 0),.one (.int .u32),.one (.int .i64),.one (.int .u32),.one (.sl 2)],[(3,6)],[.ob 3 [(1,1,0)],.ob 2 [],.lst 1 false 29,.ob 6 []],[1],fun s k a r E rm m A0 c0 l rk kk K=>E.n=m.S∧(0≤(s:Int)∧(s:Int)<4294967296)∧(0≤(a:Int)∧(a:Int)<4294967296)∧(k:Int)=3∧l.length=1024∧fi l∧Dg.ay (m.dgW s)=0∧K ⟨(.tuple #[]),(some (.t [])),[.ob 2 (m.msd kk s k a l)],[],[]⟩⟩
def sK(s:Int)(k:Int)(a:Int)(r:Nat→Nat)(E:Pd)(rm:Nat→Nat)(m:Mem)(A0:Option Addr)(c0:Nat)(l:List U32)(rk:Nat→Nat)(kk:List Int)(Q:Ou Un→Prop):Prop:=
 Pd.Ok E→
 Mem.Wf m→
 ∀i:Int,i=0→
 ∃I:Nat→Int→Option Addr→Nat→List U32→Prop,(∃m1,I m1 i none 0 ([]:List U32))∧∀(m1:Nat)(PO:Nat→Value)(i1:Int)(A4:Option Addr)(c4:Nat)(l4:List U32),I m1 i1 A4 c4 l4→
 split (decide (i1<26)) (
  ∀(NB:Nat),
  ∀(l1:List U32),l1=([U32.mk (m.bD true (i64.wrap s) (i64.wrap (11+i1)))]:List U32)→
  ((l4.length+l1.length)*4≤140737488355328)∧
  ∀(A:Option Addr)(c:Nat),
  ∀(l2:List U32),l2=(l4++l1)→
  ∀i2:Int,i2=(i64.wrap (i1+1))→
  ∃m2,m2<m1∧I m2 i2 A c l2) (
  fi l4∧
  ∀(rN:Nat→Nat)(A1:Option Addr)(c1:Nat),
  ∀(s1:Wt),s1=(Wt.mk A1 c1 (Dg.ae l4).waits)→
  ∀(NB:Nat),
  ∀(NZ:Nat),
  ∀(l1:List U32),l1=([U32.mk (u32.wrap k),U32.mk a]:List U32)→
  ((l1.length+l.length)*4≤140737488355328)∧
  ∀(A:Option Addr)(c:Nat),
  ∀(l2:List U32),l2=(l1++l)→
  (A1=Wt.A s1∧((Dg.ae l4).waits.length)=(Wt.l s1).length∧c1=Wt.c s1)∧
  (Dg.mk (S8.mk ((Dg.ae l4).st.a) ((Dg.ae l4).st.b) ((Dg.ae l4).st.c) ((Dg.ae l4).st.d) ((Dg.ae l4).st.e) ((Dg.ae l4).st.f) ((Dg.ae l4).st.g) ((Dg.ae l4).st.h)) ((Dg.ae l4).n) (Wt.l s1)).Ok∧
  l2.length≤1099511627776∧
  ∀(XF:Option Addr)(RV:Nat),
  ∀(s2:Wt),s2=(Wt.mk XF RV ((Dg.mk (S8.mk ((Dg.ae l4).st.a) ((Dg.ae l4).st.b) ((Dg.ae l4).st.c) ((Dg.ae l4).st.d) ((Dg.ae l4).st.e) ((Dg.ae l4).st.f) ((Dg.ae l4).st.g) ((Dg.ae l4).st.h)) ((Dg.ae l4).n) (Wt.l s1)).add kk l2).waits)→
  E.n=m.S∧
  (0≤s∧s<4294967296)∧
  (XF=Wt.A s2∧(((Dg.mk (S8.mk ((Dg.ae l4).st.a) ((Dg.ae l4).st.b) ((Dg.ae l4).st.c) ((Dg.ae l4).st.d) ((Dg.ae l4).st.e) ((Dg.ae l4).st.f) ((Dg.ae l4).st.g) ((Dg.ae l4).st.h)) ((Dg.ae l4).n) (Wt.l s1)).add kk l2).waits.length)=(Wt.l s2).length∧RV=Wt.c s2)∧
  (Dg.mk (S8.mk (((Dg.mk (S8.mk ((Dg.ae l4).st.a) ((Dg.ae l4).st.b) ((Dg.ae l4).st.c) ((Dg.ae l4).st.d) ((Dg.ae l4).st.e) ((Dg.ae l4).st.f) ((Dg.ae l4).st.g) ((Dg.ae l4).st.h)) ((Dg.ae l4).n) (Wt.l s1)).add kk l2).st.a) (((Dg.mk (S8.mk ((Dg.ae l4).st.a) ((Dg.ae l4).st.b) ((Dg.ae l4).st.c) ((Dg.ae l4).st.d) ((Dg.ae l4).st.e) ((Dg.ae l4).st.f) ((Dg.ae l4).st.g) ((Dg.ae l4).st.h)) ((Dg.ae l4).n) (Wt.l s1)).add kk l2).st.b) (((Dg.mk (S8.mk ((Dg.ae l4).st.a) ((Dg.ae l4).st.b) ((Dg.ae l4).st.c) ((Dg.ae l4).st.d) ((Dg.ae l4).st.e) ((Dg.ae l4).st.f) ((Dg.ae l4).st.g) ((Dg.ae l4).st.h)) ((Dg.ae l4).n) (Wt.l s1)).add kk l2).st.c) (((Dg.mk (S8.mk ((Dg.ae l4).st.a) ((Dg.ae l4).st.b) ((Dg.ae l4).st.c) ((Dg.ae l4).st.d) ((Dg.ae l4).st.e) ((Dg.ae l4).st.f) ((Dg.ae l4).st.g) ((Dg.ae l4).st.h)) ((Dg.ae l4).n) (Wt.l s1)).add kk l2).st.d) (((Dg.mk (S8.mk ((Dg.ae l4).st.a) ((Dg.ae l4).st.b) ((Dg.ae l4).st.c) ((Dg.ae l4).st.d) ((Dg.ae l4).st.e) ((Dg.ae l4).st.f) ((Dg.ae l4).st.g) ((Dg.ae l4).st.h)) ((Dg.ae l4).n) (Wt.l s1)).add kk l2).st.e) (((Dg.mk (S8.mk ((Dg.ae l4).st.a) ((Dg.ae l4).st.b) ((Dg.ae l4).st.c) ((Dg.ae l4).st.d) ((Dg.ae l4).st.e) ((Dg.ae l4).st.f) ((Dg.ae l4).st.g) ((Dg.ae l4).st.h)) ((Dg.ae l4).n) (Wt.l s1)).add kk l2).st.f) (((Dg.mk (S8.mk ((Dg.ae l4).st.a) ((Dg.ae l4).st.b) ((Dg.ae l4).st.c) ((Dg.ae l4).st.d) ((Dg.ae l4).st.e) ((Dg.ae l4).st.f) ((Dg.ae l4).st.g) ((Dg.ae l4).st.h)) ((Dg.ae l4).n) (Wt.l s1)).add kk l2).st.g) (((Dg.mk (S8.mk ((Dg.ae l4).st.a) ((Dg.ae l4).st.b) ((Dg.ae l4).st.c) ((Dg.ae l4).st.d) ((Dg.ae l4).st.e) ((Dg.ae l4).st.f) ((Dg.ae l4).st.g) ((Dg.ae l4).st.h)) ((Dg.ae l4).n) (Wt.l s1)).add kk l2).st.h)) (((Dg.mk (S8.mk ((Dg.ae l4).st.a) ((Dg.ae l4).st.b) ((Dg.ae l4).st.c) ((Dg.ae l4).st.d) ((Dg.ae l4).st.e) ((Dg.ae l4).st.f) ((Dg.ae l4).st.g) ((Dg.ae l4).st.h)) ((Dg.ae l4).n) (Wt.l s1)).add kk l2).n) (Wt.l s2)).Ok∧
  ∀(m3:Mem),m3=(m.wrs s 11 (Dg.mk (S8.mk (((Dg.mk (S8.mk ((Dg.ae l4).st.a) ((Dg.ae l4).st.b) ((Dg.ae l4).st.c) ((Dg.ae l4).st.d) ((Dg.ae l4).st.e) ((Dg.ae l4).st.f) ((Dg.ae l4).st.g) ((Dg.ae l4).st.h)) ((Dg.ae l4).n) (Wt.l s1)).add kk l2).st.a) (((Dg.mk (S8.mk ((Dg.ae l4).st.a) ((Dg.ae l4).st.b) ((Dg.ae l4).st.c) ((Dg.ae l4).st.d) ((Dg.ae l4).st.e) ((Dg.ae l4).st.f) ((Dg.ae l4).st.g) ((Dg.ae l4).st.h)) ((Dg.ae l4).n) (Wt.l s1)).add kk l2).st.b) (((Dg.mk (S8.mk ((Dg.ae l4).st.a) ((Dg.ae l4).st.b) ((Dg.ae l4).st.c) ((Dg.ae l4).st.d) ((Dg.ae l4).st.e) ((Dg.ae l4).st.f) ((Dg.ae l4).st.g) ((Dg.ae l4).st.h)) ((Dg.ae l4).n) (Wt.l s1)).add kk l2).st.c) (((Dg.mk (S8.mk ((Dg.ae l4).st.a) ((Dg.ae l4).st.b) ((Dg.ae l4).st.c) ((Dg.ae l4).st.d) ((Dg.ae l4).st.e) ((Dg.ae l4).st.f) ((Dg.ae l4).st.g) ((Dg.ae l4).st.h)) ((Dg.ae l4).n) (Wt.l s1)).add kk l2).st.d) (((Dg.mk (S8.mk ((Dg.ae l4).st.a) ((Dg.ae l4).st.b) ((Dg.ae l4).st.c) ((Dg.ae l4).st.d) ((Dg.ae l4).st.e) ((Dg.ae l4).st.f) ((Dg.ae l4).st.g) ((Dg.ae l4).st.h)) ((Dg.ae l4).n) (Wt.l s1)).add kk l2).st.e) (((Dg.mk (S8.mk ((Dg.ae l4).st.a) ((Dg.ae l4).st.b) ((Dg.ae l4).st.c) ((Dg.ae l4).st.d) ((Dg.ae l4).st.e) ((Dg.ae l4).st.f) ((Dg.ae l4).st.g) ((Dg.ae l4).st.h)) ((Dg.ae l4).n) (Wt.l s1)).add kk l2).st.f) (((Dg.mk (S8.mk ((Dg.ae l4).st.a) ((Dg.ae l4).st.b) ((Dg.ae l4).st.c) ((Dg.ae l4).st.d) ((Dg.ae l4).st.e) ((Dg.ae l4).st.f) ((Dg.ae l4).st.g) ((Dg.ae l4).st.h)) ((Dg.ae l4).n) (Wt.l s1)).add kk l2).st.g) (((Dg.mk (S8.mk ((Dg.ae l4).st.a) ((Dg.ae l4).st.b) ((Dg.ae l4).st.c) ((Dg.ae l4).st.d) ((Dg.ae l4).st.e) ((Dg.ae l4).st.f) ((Dg.ae l4).st.g) ((Dg.ae l4).st.h)) ((Dg.ae l4).n) (Wt.l s1)).add kk l2).st.h)) (((Dg.mk (S8.mk ((Dg.ae l4).st.a) ((Dg.ae l4).st.b) ((Dg.ae l4).st.c) ((Dg.ae l4).st.d) ((Dg.ae l4).st.e) ((Dg.ae l4).st.f) ((Dg.ae l4).st.g) ((Dg.ae l4).st.h)) ((Dg.ae l4).n) (Wt.l s1)).add kk l2).n) (Wt.l s2)).save)→
  Mem.Wf m3→
  Q ⟨(.tuple #[]),(some (.t [])),[.ob 2 m3],[],[]⟩)
theorem sL:Vc2 Un prog (aR [(104,bG),(56,cj),(160,jr),(161,ka),(100,gF)]) [10,11,14] Tryz.f105 (.r' (.two (.r' (.two (.node [(.s 10,1,29)] (some ⟨[(11,(.one (.int .i64)))],[(10,(.p (.sl 4 0)))],[10,11]++upN 15 17,[(4,(.lst 1))]⟩) [] [] (.r' (.two (.two (.node [] none [] [(4,[0])] .leaf .leaf) .leaf) .leaf)) .leaf) .leaf)) .leaf)) [] gr=(∀s k a r (E:Pd) rm (m:Mem) A0 c0 (l:List U32) rk (kk:List Int),∀Q,(E.n=m.S∧(0≤(s:Int)∧(s:Int)<4294967296)∧(0≤(a:Int)∧(a:Int)<4294967296)∧(k:Int)=3∧l.length=1024∧fi l∧Dg.ay (m.dgW s)=0∧Q ⟨(.tuple #[]),(some (.t [])),[.ob 2 (m.msd kk s k a l)],[],[]⟩)→sK s k a r E rm m A0 c0 l rk kk Q):=by kernel_rfl
theorem sI:LV Un prog 105 gr:=verify Tryz.func105 aa (tb:= [(104,bG),(56,cj),(160,jr),(161,ka),(100,gF)]) ⟨eR,gh,tz,vH,vA,trivial⟩ (by kernel_rfl) (sL.mpr fun s k a r E rm m A0 c0 l rk kk Q h=>by
 obtain⟨NK,Oj,Om,Rh,Qs,hp5,hp6,h⟩:=h
 exact fun f1 f2=>(by(have QA:i64.wrap s=s:=aq (by omega));rw [QA];exact allEq<| ⟨fun m1 i1 A4 c4 l4=>(m1=(26 - i1).toNat)∧(0≤i1∧i1≤26)∧(l4=(m.dgW s).take i1.toNat),⟨_,rfl,(by omega),(by subst_vars;rfl)⟩,fun m1 _ i1 A4 c4 l4 ⟨hm,h1,h3⟩=>ar (fun c1 NB l1 PF=>aj (by(have h9:l4.length≤26:=by rw [h3,List.length_take,Mem.dZ];omega);rw [PF];simp;omega) fun e3 A c l2 Pe=>allEq<| ⟨_,(by rw [aq (by omega)];omega),rfl,(by rw [aq (by omega)];omega),(by rw [Pe,PF];exact Mem.yR (by omega) h3)⟩) fun c1=>(by(have h4:l4=m.dgW s:=by rw [h3,List.take_of_length_le (by rw [Mem.dZ];omega)]);(have hL:Dg.ae l4=Dg.load (m.dgW s):=by rw [h4];exact Dg.bQ hp6);have F0:=Dg.fe (Mem.iM f2 s) hp6;(have F1:=Dg.lI (K:=kk) (l:=opW k a l) F0 (rT (k:=k) (a:=a) Om (by omega) hp5));(have hk:u32.wrap k=k:=bj (by omega));exact aj (by rw [h4];exact Mem.iM f2 s) fun e4 rN A1 c1 s1 Pt NB NZ l1 PF=>aj (by rw [PF];simp;try omega) fun e5 A c l2 Pe=>aj (by subst_vars;exact⟨rfl,rfl,rfl⟩) fun e6=>aj (by rw [Pt];show(Dg.ae l4).Ok;rw [hL];exact F0.1) fun e7=>aj (by rw [Pe,PF];simp;try omega) fun e8 XF RV s2 OE=>aj ‹_› fun e9=>aj ‹_› fun e10=>aj (by subst_vars;exact⟨rfl,rfl,rfl⟩) fun e11=>aj (by rw [OE,Pt,Pe,PF,hk];show((Dg.ae l4).add kk (opW k a l)).Ok;rw [hL];exact F1.1) fun e12 m3 Ol f13=>ao h rfl (ab (uO2 (by rw [Ol,OE,Pt,Pe,PF,hk];unfold Mem.msd;rw [if_pos hp6,← hL];rfl)) rfl) rfl)⟩))
def dm:Ctr Un:=⟨[.one (.obj 0 0),.one (.int .u32)],[],[.ob 3 [(1,1,0)],.ob 2 []],[],fun n r E rm m K=>E.n=m.S∧(0≤(n:Int)∧(n:Int)<4294967296)∧K ⟨(.bool (decide ((E.on m).bo n≠0))),none,[],[],[]⟩⟩
def E8(n:Int)(r:Nat→Nat)(E:Pd)(rm:Nat→Nat)(m:Mem)(Q:Ou Un→Prop):Prop:=
 Pd.Ok E→
 Mem.Wf m→
 E.n=m.S∧
 Q ⟨(.bool (decide ((i64.wrap n)≥(E.on m).S))),none,[],[],[]⟩
theorem E9:Vc2 Un prog (aR [(157,fO)]) [] Tryz.f96 .leaf [] dm=(∀n r (E:Pd) rm (m:Mem),∀Q,(dm.body n r E rm m Q)→E8 n r E rm m Q):=by kernel_rfl
section
attribute [local grind=] DB.bo
theorem j5:LV Un prog 96 dm:=verify Tryz.func96 aa (tb:= [(157,fO)]) ⟨tf,trivial⟩ (by kernel_rfl) (E9.mpr fun n r E rm m Q h=>by
 obtain⟨NK,Oj,h⟩:=h
 exact fun f1 f2=>(by(have RZ:i64.wrap n=n:=aq (by omega));rw [RZ];exact aj ‹_› fun s3=>gZ h (by grind)))
end
def dS:Ctr Un:=⟨[.one (.obj 0 0),.one (.int .u32)],[],[.ob 3 [(1,1,0)],.ob 2 []],[],fun n r E rm m K=>E.n=m.S∧(0≤(n:Int)∧(n:Int)<4294967296)∧K ⟨(.bool (decide ((E.on m).bz n≠0))),none,[],[],[]⟩⟩
def E0(n:Int)(r:Nat→Nat)(E:Pd)(rm:Nat→Nat)(m:Mem)(Q:Ou Un→Prop):Prop:=
 Pd.Ok E→
 Mem.Wf m→
 E.n=m.S∧
 ∀(gv:Nat),
 Q ⟨(.bool (((E.on m).entry (i64.wrap n)).typ !=0)),none,[],[],[]⟩
theorem E5:Vc2 Un prog (aR [(46,cG)]) [] Tryz.f97 .leaf [] dS=(∀n r (E:Pd) rm (m:Mem),∀Q,(dS.body n r E rm m Q)→E0 n r E rm m Q):=by kernel_rfl
section
attribute [local grind=] DB.bz
theorem mw:LV Un prog 97 dS:=verify Tryz.func97 aa (tb:= [(46,cG)]) ⟨jn,trivial⟩ (by kernel_rfl) (E5.mpr fun n r E rm m Q h=>by
 obtain⟨NK,Oj,h⟩:=h
 exact fun f1 f2=>(by(have RZ:i64.wrap n=n:=aq (by omega));rw [RZ];exact aj ‹_› fun s3 gv=>gZ h (by grind)))
end
def bW:Ctr Un:=⟨[.one (.obj 0 0),.one (.int .u32)],[],[.ob 3 [(1,1,0)],.ob 2 []],[],fun s r E rm m K=>E.n=m.S∧(0≤(s:Int)∧(s:Int)<4294967296)∧K ⟨(.int .i64 ((E.on m).aW s)),none,[],[],[]⟩⟩
def ug(s:Int)(r:Nat→Nat)(E:Pd)(rm:Nat→Nat)(m:Mem)(Q:Ou Un→Prop):Prop:=
 Pd.Ok E→
 Mem.Wf m→
 E.n=m.S∧
 (0≤s∧s<4294967296)∧
 split (decide ((E.on m).bo s≠0)) (
  Q ⟨(.int .i64 1),none,[],[],[]⟩) (
  E.n=m.S∧
  ∀(gv:Nat),
  split (((E.on m).entry (i64.wrap s)).typ !=1) (
   Q ⟨(.int .i64 3),none,[],[],[]⟩) (
   split (((E.on m).entry (i64.wrap s)).state !=1) (
    Q ⟨(.int .i64 4),none,[],[],[]⟩) (
    Q ⟨(.int .i64 0),none,[],[],[]⟩)))
theorem uh:Vc2 Un prog (aR [(96,dm),(46,cG)]) [] Tryz.f102 .leaf [] bW=(∀s r (E:Pd) rm (m:Mem),∀Q,(bW.body s r E rm m Q)→ug s r E rm m Q):=by kernel_rfl
section
attribute [local grind=] DB.aW DB.bo DB.entry
theorem gS:LV Un prog 102 bW:=verify Tryz.func102 aa (tb:= [(96,dm),(46,cG)]) ⟨j5,jn,trivial⟩ (by kernel_rfl) (uh.mpr fun s r E rm m Q h=>by
 obtain⟨NK,Oj,h⟩:=h
 exact fun f1 f2=>(by(have QA:i64.wrap s=s:=aq (by omega));rw [QA];exact aj ‹_› fun s3=>aj ‹_› fun s4=>ar (fun c1=>eL h (by grind)) fun c1=>aj ‹_› fun s5 gv=>aB (fun c2=>eL h (by grind)) fun c2=>aB (fun c3=>eL h (by grind)) fun c3=>eL h (by grind)))
end
def gE:Ctr Un:=⟨[.one (.obj 0 0),.one (.int .u32),.one (.int .u32)],[],[.ob 3 [(1,1,0)],.ob 2 []],[],fun s va r E rm m K=>E.n=m.S∧(0≤(s:Int)∧(s:Int)<4294967296)∧(0≤(va:Int)∧(va:Int)<4294967296)∧K ⟨(.int .i64 ((E.on m).eH s va)),none,[],[],[]⟩⟩
def E6(s:Int)(va:Int)(r:Nat→Nat)(E:Pd)(rm:Nat→Nat)(m:Mem)(Q:Ou Un→Prop):Prop:=
 Pd.Ok E→
 Mem.Wf m→
 E.n=m.S∧
 (0≤va∧va<4294967296)∧
 split (((E.on m).bK (i64.wrap s) va)==140) (
  Q ⟨(.int .i64 7),none,[],[],[]⟩) (
  split (((E.on m).bK (i64.wrap s) va) !=0) (
   Q ⟨(.int .i64 21),none,[],[],[]⟩) (
   Q ⟨(.int .i64 0),none,[],[],[]⟩))
theorem E7:Vc2 Un prog (aR [(166,gG)]) [] Tryz.f110 .leaf [] gE=(∀s va r (E:Pd) rm (m:Mem),∀Q,(gE.body s va r E rm m Q)→E6 s va r E rm m Q):=by kernel_rfl
section
attribute [local grind=] DB.eH
theorem vz:LV Un prog 110 gE:=verify Tryz.func110 aa (tb:= [(166,gG)]) ⟨vB,trivial⟩ (by kernel_rfl) (E7.mpr fun s va r E rm m Q h=>by
 obtain⟨NK,Oj,Om,h⟩:=h
 exact fun f1 f2=>(by(have QA:i64.wrap s=s:=aq (by omega));rw [QA];exact aj ‹_› fun s3=>aj ‹_› fun s4=>aG (fun c1=>eL h (by grind)) fun c1=>aB (fun c2=>eL h (by grind)) fun c2=>eL h (by grind)))
end
def eT:Ctr Un:=⟨[.one (.obj 0 0),.one (.int .u32),.one (.int .u32)],[(2,6)],[.ob 3 [(1,1,0)],.ob 2 [],.ob 6 []],[0,1],fun s q r E rm m rk kk K=>E.n=m.S∧(0≤(s:Int)∧(s:Int)<4294967296)∧(0≤(q:Int)∧(q:Int)<4294967296)∧K ⟨(.int .i64 ((E.on m).cU s q)),none,[.ob 3 (((E.on m).bt s q).pd),.ob 2 (((E.on m).bt s q).mem)],[],[]⟩⟩
def sQ(s:Int)(q:Int)(r:Nat→Nat)(E:Pd)(rm:Nat→Nat)(m:Mem)(rk:Nat→Nat)(kk:List Int)(Q:Ou Un→Prop):Prop:=
 Pd.Ok E→
 Mem.Wf m→
 ∃J:Bool→Prop,(
  E.n=m.S∧
  (0≤s∧s<4294967296)∧
  split (decide ((E.on m).bo s≠0)) (
   J true) (
   E.n=m.S∧
   (0≤q∧q<4294967296)∧
   J (decide ((E.on m).bo q≠0))))∧∀(PO:Nat→Value)(P6:Bool),J P6→
 split P6 (
  Q ⟨(.int .i64 1),none,[.ob 3 E,.ob 2 m],[],[]⟩) (
  split (s==q) (
   Q ⟨(.int .i64 16),none,[.ob 3 E,.ob 2 m],[],[]⟩) (
   ∃J1:Bool→Prop,(
    E.n=m.S∧
    (0≤s∧s<4294967296)∧
    split (decide ((E.on m).bz s≠0)) (
     J1 true) (
     E.n=m.S∧
     (0≤q∧q<4294967296)∧
     J1 (decide ((E.on m).bz q≠0))))∧∀(Oi:Nat→Value)(PJ:Bool),J1 PJ→
   split PJ (
    Q ⟨(.int .i64 2),none,[.ob 3 E,.ob 2 m],[],[]⟩) (
    split (decide (E.aF≥64)) (
     Q ⟨(.int .i64 24),none,[.ob 3 E,.ob 2 m],[],[]⟩) (
     E.n=m.S∧
     ∀(E1:Pd),E1=((E.on m).aS (i64.wrap s) (i64.wrap q)).pd→
     Pd.Ok E1→
     ∀(m1:Mem),m1=((E.on m).aS (i64.wrap s) (i64.wrap q)).mem→
     Mem.Wf m1→
     E1.n=m1.S∧
     (0≤s∧s<4294967296)∧
     (Dg.mk (S8.mk S8.first.a S8.first.b S8.first.c S8.first.d S8.first.e S8.first.f S8.first.g S8.first.h) 0 []).Ok∧
     ∀(m2:Mem),m2=(m1.wrs s 11 (Dg.mk (S8.mk S8.first.a S8.first.b S8.first.c S8.first.d S8.first.e S8.first.f S8.first.g S8.first.h) 0 []).save)→
     Mem.Wf m2→
     Q ⟨(.int .i64 0),none,[.ob 3 E1,.ob 2 m2],[],[]⟩))))
theorem sS:Vc2 Un prog (aR [(96,dm),(97,dS),(98,hH),(99,eV),(101,tw),(100,j6)]) [] Tryz.f37 (.r' (.two (.two (.node [] (some ⟨[(14,(.one .bool))],[],upN 7 8,[]⟩) [] [] .leaf .leaf) .leaf) (.r' (.two (.two (.node [] (some ⟨[(25,(.one .bool))],[],upN 18 8,[]⟩) [] [] .leaf .leaf) .leaf) .leaf)))) [] eT=(∀s q r (E:Pd) rm (m:Mem) rk (kk:List Int),∀Q,(eT.body s q r E rm m rk kk Q)→sQ s q r E rm m rk kk Q):=by kernel_rfl
section
attribute [local grind=] DB.cU Pd.u5 DB.bo DB.bz
theorem sP:LV Un prog 37 eT:=verify Tryz.func37 aa (tb:= [(96,dm),(97,dS),(98,hH),(99,eV),(101,tw),(100,j6)]) ⟨j5,mw,zC,tc,Ik,Fc,trivial⟩ (by kernel_rfl) (sS.mpr fun s q r E rm m rk kk Q h=>by
 obtain⟨NK,Oj,Om,h⟩:=h
 exact fun f1 f2=>(by(have QA:i64.wrap s=s:=aq (by omega));(have hwq:i64.wrap q=q:=aq (by omega));rw [QA,hwq];exact cN ((decide ((E.on m).bo s≠0)) || (decide ((E.on m).bo q≠0))) (aj ‹_› fun s3=>aj ‹_› fun s4=>af (fun c1=>(by grind)) fun c1=>aj ‹_› fun s5=>aj ‹_› fun s6=>(by grind))<| aZ (fun c2=>ao h (aE (by grind)) (ab (uO3 (by(rw [DB.bt,if_neg (by grind)];exact Pd.bk _ _ NK))) (ab (uO2 (by(rw [DB.bt,if_neg (by grind)];(subst_vars;rfl)))) rfl)) rfl) fun c2=>aG (fun c3=>ao h (aE (by grind)) (ab (uO3 (by(rw [DB.bt,if_neg (by grind)];exact Pd.bk _ _ NK))) (ab (uO2 (by(rw [DB.bt,if_neg (by grind)];(subst_vars;rfl)))) rfl)) rfl) fun c3=>cN ((decide ((E.on m).bz s≠0)) || (decide ((E.on m).bz q≠0))) (aj ‹_› fun s7=>aj ‹_› fun s8=>af (fun c4=>(by grind)) fun c4=>aj ‹_› fun s9=>aj ‹_› fun Td=>(by grind))<| aZ (fun c5=>ao h (aE (by grind)) (ab (uO3 (by(rw [DB.bt,if_neg (by grind)];exact Pd.bk _ _ NK))) (ab (uO2 (by(rw [DB.bt,if_neg (by grind)];(subst_vars;rfl)))) rfl)) rfl) fun c5=>ar (fun c6=>ao h (aE (by grind)) (ab (uO3 (by(rw [DB.bt,if_neg (by grind)];exact Pd.bk _ _ NK))) (ab (uO2 (by(rw [DB.bt,if_neg (by grind)];(subst_vars;rfl)))) rfl)) rfl) fun c6=>aj ‹_› fun Ov E1 Oc f12 m1 N5 f13=>aj (by(subst_vars;rfl)) fun XJ=>aj ‹_› fun UA=>aj (Dg.kA) fun VA m2 Pc f17=>ao h (aE (by grind)) (ab (uO3 (by(rw [DB.bt,if_pos (by grind)];subst_vars;exact DB.ep (by simp only [Mem.iD,Mem.bI,Mem.fz])))) (ab (uO2 (by(rw [DB.bt,if_pos (by grind)];subst_vars;rfl))) rfl)) rfl))
end
def eu:Ctr Un:=⟨[.one (.obj 0 0),.one (.int .u32),.one (.int .u32),.one (.int .u32)],[(2,6)],[.ob 3 [(1,1,0)],.ob 2 [],.ob 6 []],[0,1],fun s p b r E rm m rk kk K=>E.n=m.S∧(0≤(s:Int)∧(s:Int)<4294967296)∧(0≤(p:Int)∧(p:Int)<4294967296)∧(0≤(b:Int)∧(b:Int)<4294967296)∧(((E.on m).aW s=0→Dg.ay (m.dgW s)=0))∧K ⟨(.int .i64 ((E.on m).bS s p)),none,[.ob 3 ((DB.bg kk (E.on m) s p b).pd),.ob 2 ((DB.bg kk (E.on m) s p b).mem)],[],[]⟩⟩
def qq(s:Int)(p:Int)(b:Int)(r:Nat→Nat)(E:Pd)(rm:Nat→Nat)(m:Mem)(rk:Nat→Nat)(kk:List Int)(Q:Ou Un→Prop):Prop:=
 Pd.Ok E→
 Mem.Wf m→
 E.n=m.S∧
 (0≤s∧s<4294967296)∧
 ∀P7:Bool,P7=((((E.on m).aW s):Int) !=0)→
 split P7 (
  Q ⟨(.int .i64 ((E.on m).aW s)),none,[.ob 3 E,.ob 2 m],[],[]⟩) (
  E.n=m.S∧
  (0≤p∧p<4294967296)∧
  split (decide ((E.on m).bo p≠0)) (
   Q ⟨(.int .i64 1),none,[.ob 3 E,.ob 2 m],[],[]⟩) (
   E.n=m.S∧
   (0≤p∧p<4294967296)∧
   split (decide ((E.on m).bz p≠0)) (
    Q ⟨(.int .i64 2),none,[.ob 3 E,.ob 2 m],[],[]⟩) (
    E.n=m.S∧
    ∀(E1:Pd),E1=((E.on m).take (i64.wrap p) 2 (i64.wrap s)).pd→
    Pd.Ok E1→
    ∀(m1:Mem),m1=((E.on m).take (i64.wrap p) 2 (i64.wrap s)).mem→
    Mem.Wf m1→
    (0≤b∧b<4294967296)∧
    ∀(m2:Mem),m2=(m1.write true (i64.wrap p) 0 b)→
    Mem.Wf m2→
    E1.n=m2.S∧
    (0≤s∧s<4294967296)∧
    (0≤b∧b<4294967296)∧
    ((1:Int)=1∨(1:Int)=2∨(1:Int)=4)∧
    Dg.ay (m2.dgW s)=0∧
    ∀(m3:Mem),m3=(m2.msd kk s 1 b [])→
    Mem.Wf m3→
    Q ⟨(.int .i64 0),none,[.ob 3 E1,.ob 2 m3],[],[]⟩)))
theorem qs:Vc2 Un prog (aR [(102,bW),(96,dm),(97,dS),(103,fj),(104,bG),(47,bY),(105,cu)]) [13] Tryz.f38 (.r' (.r' (.r' (.r' (.two (.node [] none [] [(3,[0])] .leaf .leaf) .leaf))))) [] eu=(∀s p b r (E:Pd) rm (m:Mem) rk (kk:List Int),∀Q,(eu.body s p b r E rm m rk kk Q)→qq s p b r E rm m rk kk Q):=by kernel_rfl
section
attribute [local grind=] DB.bS DB.bo DB.bz
theorem qp:LV Un prog 38 eu:=verify Tryz.func38 aa (tb:= [(102,bW),(96,dm),(97,dS),(103,fj),(104,bG),(47,bY),(105,cu)]) ⟨gS,j5,mw,pj,eR,fQ,jl,trivial⟩ (by kernel_rfl) (qs.mpr fun s p b r E rm m rk kk Q h=>by
 obtain⟨NK,Oj,Om,Rh,Qs,h⟩:=h
 exact fun f1 f2=>(by(have QA:i64.wrap s=s:=aq (by omega));(have hwp:i64.wrap p=p:=aq (by omega));rw [QA,hwp];exact aj ‹_› fun s3=>aj ‹_› fun s4=>allEq<| aB (fun c1=>ao h (aE (by grind)) (ab (uO3 (by(rw [DB.bg,if_neg (by grind)];exact Pd.bk _ _ NK))) (ab (uO2 (by(rw [DB.bg,if_neg (by grind)];(subst_vars;rfl)))) rfl)) rfl) fun c1=>aj ‹_› fun s5=>aj ‹_› fun s6=>ar (fun c2=>ao h (aE (by grind)) (ab (uO3 (by(rw [DB.bg,if_neg (by grind)];exact Pd.bk _ _ NK))) (ab (uO2 (by(rw [DB.bg,if_neg (by grind)];(subst_vars;rfl)))) rfl)) rfl) fun c2=>aj ‹_› fun s7=>aj ‹_› fun s8=>ar (fun c3=>ao h (aE (by grind)) (ab (uO3 (by(rw [DB.bg,if_neg (by grind)];exact Pd.bk _ _ NK))) (ab (uO2 (by(rw [DB.bg,if_neg (by grind)];(subst_vars;rfl)))) rfl)) rfl) fun c3=>aj ‹_› fun s9 E1 Oc f10 m1 N5 f11=>aj ‹_› fun U6 m2 Pc f13=>aj (by(subst_vars;(simp only [Mem.bI,Mem.fz,Mem.iD,Mem.ph];rfl))) fun XJ=>aj ‹_› fun UA=>aj ‹_› fun VA=>aj (by decide) fun U5=>aj (by rw [Pc,N5,DB.BA (d:=E.on m) (by omega) (by omega) (by omega)];exact Qs (by omega)) fun WQ m3 Ol f19=>ao h (aE (by grind)) (ab (uO3 (by(rw [DB.bg,if_pos (by grind)];subst_vars;exact DB.ep (by simp only [Mem.iD,Mem.bI,Mem.fz])))) (ab (uO2 (by(rw [DB.bg,if_pos (by grind)];subst_vars;rfl))) rfl)) rfl))
end
def eS:Ctr Un:=⟨[.one (.obj 0 0),.one (.int .u32),.one (.int .u32),.one (.int .u32)],[(2,6)],[.ob 3 [(1,1,0)],.ob 2 [],.ob 6 []],[0,1],fun s p i r E rm m rk kk K=>E.n=m.S∧(0≤(s:Int)∧(s:Int)<4294967296)∧(0≤(p:Int)∧(p:Int)<4294967296)∧(0≤(i:Int)∧(i:Int)<4294967296)∧(((E.on m).aW s=0→Dg.ay (m.dgW s)=0))∧K ⟨(.int .i64 ((E.on m).eB s p i)),none,[.ob 3 ((DB.bP kk (E.on m) s p i).pd),.ob 2 ((DB.bP kk (E.on m) s p i).mem)],[],[]⟩⟩
def sN(s:Int)(p:Int)(i:Int)(r:Nat→Nat)(E:Pd)(rm:Nat→Nat)(m:Mem)(rk:Nat→Nat)(kk:List Int)(Q:Ou Un→Prop):Prop:=
 Pd.Ok E→
 Mem.Wf m→
 E.n=m.S∧
 (0≤s∧s<4294967296)∧
 ∀PQ:Bool,PQ=((((E.on m).aW s):Int) !=0)→
 split PQ (
  Q ⟨(.int .i64 ((E.on m).aW s)),none,[.ob 3 E,.ob 2 m],[],[]⟩) (
  E.n=m.S∧
  (0≤p∧p<4294967296)∧
  split (decide ((E.on m).bo p≠0)) (
   Q ⟨(.int .i64 1),none,[.ob 3 E,.ob 2 m],[],[]⟩) (
   ∀QP:Bool,QP=(decide ((i:Int)>255))→
   split QP (
    Q ⟨(.int .i64 16),none,[.ob 3 E,.ob 2 m],[],[]⟩) (
    E.n=m.S∧
    (0≤p∧p<4294967296)∧
    split (decide ((E.on m).bz p≠0)) (
     Q ⟨(.int .i64 2),none,[.ob 3 E,.ob 2 m],[],[]⟩) (
     E.n=m.S∧
     split ((m.bD true ((E.on m).tbl (i64.wrap s)) (i64.wrap i)) !=0) (
      Q ⟨(.int .i64 7),none,[.ob 3 E,.ob 2 m],[],[]⟩) (
      E.n=m.S∧
      ∀(E1:Pd),E1=((E.on m).take (i64.wrap p) 4 (i64.wrap s)).pd→
      Pd.Ok E1→
      ∀(m1:Mem),m1=((E.on m).take (i64.wrap p) 4 (i64.wrap s)).mem→
      Mem.Wf m1→
      E1.n=m1.S∧
      ∀(E2:Pd),E2=((E1.on m1).add (i64.wrap s) (i64.wrap i) (i64.wrap p)).pd→
      Pd.Ok E2→
      ∀(m2:Mem),m2=((E1.on m1).add (i64.wrap s) (i64.wrap i) (i64.wrap p)).mem→
      Mem.Wf m2→
      E2.n=m2.S∧
      (0≤s∧s<4294967296)∧
      (0≤i∧i<4294967296)∧
      ((2:Int)=1∨(2:Int)=2∨(2:Int)=4)∧
      Dg.ay (m2.dgW s)=0∧
      ∀(m3:Mem),m3=(m2.msd kk s 2 i [])→
      Mem.Wf m3→
      Q ⟨(.int .i64 0),none,[.ob 3 E2,.ob 2 m3],[],[]⟩)))))
theorem sO:Vc2 Un prog (aR [(102,bW),(96,dm),(97,dS),(106,eg),(104,bG),(56,cj),(103,fj),(107,fB),(105,cu)]) [15,23] Tryz.f39 (.r' (.r' (.r' (.r' (.two (.two (.node [] none [] [(3,[0])] .leaf .leaf) .leaf) .leaf))))) [] eS=(∀s p i r (E:Pd) rm (m:Mem) rk (kk:List Int),∀Q,(eS.body s p i r E rm m rk kk Q)→sN s p i r E rm m rk kk Q):=by kernel_rfl
section
attribute [local grind=] DB.eB DB.word DB.bo DB.bz
theorem sM:LV Un prog 39 eS:=verify Tryz.func39 aa (tb:= [(102,bW),(96,dm),(97,dS),(106,eg),(104,bG),(56,cj),(103,fj),(107,fB),(105,cu)]) ⟨gS,j5,mw,nc,eR,gh,pj,ui,jl,trivial⟩ (by kernel_rfl) (sO.mpr fun s p i r E rm m rk kk Q h=>by
 obtain⟨NK,Oj,Om,Rh,Qs,h⟩:=h
 exact fun f1 f2=>(by(have QA:i64.wrap s=s:=aq (by omega));(have hwp:i64.wrap p=p:=aq (by omega));(have UF:i64.wrap i=i:=aq (by omega));rw [QA,hwp,UF];exact aj ‹_› fun s3=>aj ‹_› fun s4=>allEq<| aB (fun c1=>ao h (aE (by grind)) (ab (uO3 (by(rw [DB.bP,if_neg (by grind)];exact Pd.bk _ _ NK))) (ab (uO2 (by(rw [DB.bP,if_neg (by grind)];(subst_vars;rfl)))) rfl)) rfl) fun c1=>aj ‹_› fun s5=>aj ‹_› fun s6=>ar (fun c2=>ao h (aE (by grind)) (ab (uO3 (by(rw [DB.bP,if_neg (by grind)];exact Pd.bk _ _ NK))) (ab (uO2 (by(rw [DB.bP,if_neg (by grind)];(subst_vars;rfl)))) rfl)) rfl) fun c2=>allEq<| ar (fun c3=>ao h (aE (by grind)) (ab (uO3 (by(rw [DB.bP,if_neg (by grind)];exact Pd.bk _ _ NK))) (ab (uO2 (by(rw [DB.bP,if_neg (by grind)];(subst_vars;rfl)))) rfl)) rfl) fun c3=>aj ‹_› fun s7=>aj ‹_› fun s8=>ar (fun c4=>ao h (aE (by grind)) (ab (uO3 (by(rw [DB.bP,if_neg (by grind)];exact Pd.bk _ _ NK))) (ab (uO2 (by(rw [DB.bP,if_neg (by grind)];(subst_vars;rfl)))) rfl)) rfl) fun c4=>aj ‹_› fun s9=>aB (fun c5=>ao h (aE (by grind)) (ab (uO3 (by(rw [DB.bP,if_neg (by grind)];exact Pd.bk _ _ NK))) (ab (uO2 (by(rw [DB.bP,if_neg (by grind)];(subst_vars;rfl)))) rfl)) rfl) fun c5=>aj ‹_› fun Td E1 Oc f11 m1 N5 f12=>aj (by(subst_vars;rfl)) fun V9 E2 P4 f14 m2 Pc f15=>aj (by(subst_vars;rfl)) fun VA=>aj ‹_› fun U5=>aj ‹_› fun WQ=>aj (by decide) fun s19=>aj (by subst_vars;show Dg.ay ((((E.on m).take p 4 s).add s i p).mem.dgW s)=0;rw [DB.EB (by omega) (by omega) (by omega)];exact Qs (by omega)) fun s20 m3 Ol f21=>ao h (aE (by grind)) (ab (uO3 (by(rw [DB.bP,if_pos (by grind)];subst_vars;exact DB.ep (by simp only [Mem.iD,Mem.bI,Mem.fz])))) (ab (uO2 (by(rw [DB.bP,if_pos (by grind)];subst_vars;rfl))) rfl)) rfl))
end
def fA:Ctr Un:=⟨[.one (.obj 0 0),.one (.int .u32),.one (.int .u32),.one (.int .u32),.one (.int .u32)],[(2,6)],[.ob 3 [(1,1,0)],.ob 2 [],.ob 6 []],[0,1],fun s p v n r E rm m rk kk K=>E.n=m.S∧(0≤(s:Int)∧(s:Int)<4294967296)∧(0≤(p:Int)∧(p:Int)<4294967296)∧(0≤(v:Int)∧(v:Int)<4294967296)∧(0≤(n:Int)∧(n:Int)<4294967296)∧(((E.on m).aW s=0→Dg.ay (m.dgW s)=0))∧K ⟨(.int .i64 ((E.on m).fw s p v n)),none,[.ob 3 ((DB.cB kk (E.on m) s p v n).pd),.ob 2 ((DB.cB kk (E.on m) s p v n).mem)],[],[]⟩⟩
def ud(s:Int)(p:Int)(v:Int)(n:Int)(r:Nat→Nat)(E:Pd)(rm:Nat→Nat)(m:Mem)(rk:Nat→Nat)(kk:List Int)(Q:Ou Un→Prop):Prop:=
 Pd.Ok E→
 Mem.Wf m→
 E.n=m.S∧
 (0≤s∧s<4294967296)∧
 (0≤v∧v<4294967296)∧
 ∀(gv:Nat),
 ∀PJ:Bool,PJ=((((E.on m).aW s):Int) !=0)→
 split PJ (
  Q ⟨(.int .i64 ((E.on m).aW s)),none,[.ob 3 E,.ob 2 m],[],[]⟩) (
  E.n=m.S∧
  (0≤p∧p<4294967296)∧
  split (decide ((E.on m).bo p≠0)) (
   Q ⟨(.int .i64 1),none,[.ob 3 E,.ob 2 m],[],[]⟩) (
   ∀x33:Bool,x33=(((lu v):Int) !=0)→
   split x33 (
    Q ⟨(.int .i64 6),none,[.ob 3 E,.ob 2 m],[],[]⟩) (
    ∀TY:Bool,TY=(decide ((i64.wrap n:Int)≥(m.I:Int)))→
    split TY (
     Q ⟨(.int .i64 17),none,[.ob 3 E,.ob 2 m],[],[]⟩) (
     E.n=m.S∧
     (0≤p∧p<4294967296)∧
     split (decide ((E.on m).bz p≠0)) (
      Q ⟨(.int .i64 2),none,[.ob 3 E,.ob 2 m],[],[]⟩) (
      E.n=m.S∧
      (0≤s∧s<4294967296)∧
      (0≤(dt v)∧(dt v)<4294967296)∧
      split (((E.on m).eH s (dt v)) !=0) (
       Q ⟨(.int .i64 ((E.on m).eH s (dt v))),none,[.ob 3 E,.ob 2 m],[],[]⟩) (
       ∀(NB:Nat),
       E.n=m.S∧
       ∀(E1:Pd),E1=((E.on m).take (i64.wrap p) 5 (i64.wrap s)).pd→
       Pd.Ok E1→
       ∀(m1:Mem),m1=((E.on m).take (i64.wrap p) 5 (i64.wrap s)).mem→
       Mem.Wf m1→
       ∀(m2:Mem),m2=(m1.copy true (i64.wrap p) false (i64.wrap n))→
       Mem.Wf m2→
       E1.n=m2.S∧
       (0≤(dt v)∧(dt v)<4294967296)∧
       ∀(E2:Pd),E2=((E1.on m2).put (i64.wrap s) (dt v) (Mp.mk true (i64.wrap p) (paW v) (paX v))).pd→
       Pd.Ok E2→
       ∀(m3:Mem),m3=((E1.on m2).put (i64.wrap s) (dt v) (Mp.mk true (i64.wrap p) (paW v) (paX v))).mem→
       Mem.Wf m3→
       split (m3.has false (i64.wrap n)) (
        ∀(A:Option Addr),
        ∀(m4:Mem),m4=m3→
        Mem.Wf m4→
        ∀(l:List U32),l=(m3.words false (i64.wrap n).toNat)→
        E2.n=m4.S∧
        (0≤s∧s<4294967296)∧
        (0≤v∧v<4294967296)∧
        (3:Int)=3∧
        l.length=1024∧
        fi l∧
        Dg.ay (m4.dgW s)=0∧
        ∀(m5:Mem),m5=(m4.msd kk s 3 v l)→
        Mem.Wf m5→
        Q ⟨(.int .i64 0),none,[.ob 3 E2,.ob 2 m5],[],[]⟩) (
        ∀(m4:Mem),m4=m3→
        Mem.Wf m4→
        False)))))))
theorem uf:Vc2 Un prog (aR [(102,bW),(108,fN),(96,dm),(109,fD),(97,dS),(110,gE),(103,fj),(104,bG),(111,pr),(112,jm),(113,po),(105,gr)]) [25,33,36] Tryz.f40 (.r' (.r' (.r' (.r' (.r' (.r' (.r' (.r' (.two (.node [] none [] [(3,[0]),(7,[4])] .leaf .leaf) (.r' (.two (.node [] none [] [(3,[0]),(4,[4])] .leaf .leaf) .leaf))))))))))) [] fA=(∀s p v n r (E:Pd) rm (m:Mem) rk (kk:List Int),∀Q,(fA.body s p v n r E rm m rk kk Q)→ud s p v n r E rm m rk kk Q):=by kernel_rfl
section
attribute [local grind=] DB.fw DB.fZ DB.jg DB.bo DB.bz
theorem uc:LV Un prog 40 fA:=verify Tryz.func40 aa (tb:= [(102,bW),(108,fN),(96,dm),(109,fD),(97,dS),(110,gE),(103,fj),(104,bG),(111,pr),(112,jm),(113,po),(105,gr)]) ⟨gS,sY,j5,mJ,mw,vz,pj,eR,FA,zA,Fx,sI,trivial⟩ (by kernel_rfl) (uf.mpr fun s p v n r E rm m rk kk Q h=>by
 obtain⟨NK,Oj,Om,Rh,Qs,hp5,h⟩:=h
 exact fun f1 f2=>(by(have QA:i64.wrap s=s:=aq (by omega));(have hwp:i64.wrap p=p:=aq (by omega));(have RZ:i64.wrap n=n:=aq (by omega));rw [QA,hwp,RZ];exact aj ‹_› fun s3=>aj ‹_› fun s4=>aj ‹_› fun s5 gv=>allEq<| aB (fun c1=>ao h (aE (by grind)) (ab (uO3 (by(rw [DB.cB,if_neg (by grind)];exact Pd.bk _ _ NK))) (ab (uO2 (by(rw [DB.cB,if_neg (by grind)];(subst_vars;rfl)))) rfl)) rfl) fun c1=>aj ‹_› fun s6=>aj ‹_› fun s7=>ar (fun c2=>ao h (aE (by grind)) (ab (uO3 (by(rw [DB.cB,if_neg (by grind)];exact Pd.bk _ _ NK))) (ab (uO2 (by(rw [DB.cB,if_neg (by grind)];(subst_vars;rfl)))) rfl)) rfl) fun c2=>allEq<| aB (fun c3=>ao h (aE (by grind)) (ab (uO3 (by(rw [DB.cB,if_neg (by grind)];exact Pd.bk _ _ NK))) (ab (uO2 (by(rw [DB.cB,if_neg (by grind)];(subst_vars;rfl)))) rfl)) rfl) fun c3=>allEq<| ar (fun c4=>ao h (aE (by grind)) (ab (uO3 (by(rw [DB.cB,if_neg (by grind)];exact Pd.bk _ _ NK))) (ab (uO2 (by(rw [DB.cB,if_neg (by grind)];(subst_vars;rfl)))) rfl)) rfl) fun c4=>(by(have QY:¬(E.on m).fZ n≠0:=by rw [DB.fZ,if_pos (show n<((E.on m).mem.I:Int)by show n<(m.I:Int);omega)];simp);exact aj ‹_› fun s8=>aj ‹_› fun s9=>ar (fun c5=>ao h (aE (by grind)) (ab (uO3 (by(rw [DB.cB,if_neg (by grind)];exact Pd.bk _ _ NK))) (ab (uO2 (by(rw [DB.cB,if_neg (by grind)];(subst_vars;rfl)))) rfl)) rfl) fun c5=>aj ‹_› fun Td=>aj ‹_› fun Ov=>aj (gV ‹_›) fun U6=>aB (fun c6=>ao h (aE (by grind)) (ab (uO3 (by(rw [DB.cB,if_neg (by grind)];exact Pd.bk _ _ NK))) (ab (uO2 (by(rw [DB.cB,if_neg (by grind)];(subst_vars;rfl)))) rfl)) rfl) fun c6 NB=>aj ‹_› fun V9 E1 Oc f14 m1 N5 f15 m2 Pc f16=>aj (by(subst_vars;(simp only [Mem.bI,Mem.fz,Mem.iD,Mem.ph];rfl))) fun U5=>aj (gV ‹_›) fun WQ E2 P4 f19 m3 Ol f20=>af (fun c7 A m4 Ta f21 l Rl=>aj (by(subst_vars;rfl)) fun s22=>aj ‹_› fun s23=>aj ‹_› fun s24=>aj (by omega) fun s25=>aj (by subst_vars;exact Mem.cS _ _ _) fun s26=>aj (by subst_vars;exact Mem.qW ‹_› _ _) fun s27=>aj (by subst_vars;show Dg.ay (((E.on m).cX s p v n).mem.dgW s)=0;rw [DB.Hj (by omega) (by omega) (by omega)];exact hp5 (by omega)) fun s28 m5 VL f29=>ao h (aE (by grind)) (ab (uO3 (by(rw [DB.cB,if_pos (by grind)];subst_vars;exact DB.ep (by simp only [Mem.iD,Mem.bI,Mem.fz])))) (ab (uO2 (by rw [DB.cB,if_pos (by grind)];subst_vars;show Mem.msd kk _ s 3 v ((E.on m).cX s p v n |>.mem.words true p.toNat)=Mem.msd kk _ s 3 v ((E.on m).cX s p v n |>.mem.words false n.toNat);rw [DB.wM (by omega) (by omega) (by omega) (by omega) QY];rfl)) rfl)) rfl) fun c7=>(by exfalso;rw [show m3=((E.on m).cX s p v n).mem by subst_vars;rfl,DB.y9,DB.Hl (by omega) QY]at c7;cases c7))))
end
def eU:Ctr Un:=⟨[.one (.obj 0 0),.one (.int .u32),.one (.int .u32),.one (.int .u32)],[(2,6)],[.ob 3 [(1,1,0)],.ob 2 [],.ob 6 []],[0,1],fun s v n r E rm m rk kk K=>E.n=m.S∧(0≤(s:Int)∧(s:Int)<4294967296)∧(0≤(v:Int)∧(v:Int)<4294967296)∧(0≤(n:Int)∧(n:Int)<4294967296)∧(((E.on m).aW s=0→Dg.ay (m.dgW s)=0))∧K ⟨(.int .i64 ((E.on m).fh s v n)),none,[.ob 3 ((DB.bV kk (E.on m) s v n).pd),.ob 2 ((DB.bV kk (E.on m) s v n).mem)],[],[]⟩⟩
def sV(s:Int)(v:Int)(n:Int)(r:Nat→Nat)(E:Pd)(rm:Nat→Nat)(m:Mem)(rk:Nat→Nat)(kk:List Int)(Q:Ou Un→Prop):Prop:=
 Pd.Ok E→
 Mem.Wf m→
 E.n=m.S∧
 (0≤s∧s<4294967296)∧
 (0≤v∧v<4294967296)∧
 ∀(gv:Nat),
 ∀ON:Bool,ON=((((E.on m).aW s):Int) !=0)→
 split ON (
  Q ⟨(.int .i64 ((E.on m).aW s)),none,[.ob 3 E,.ob 2 m],[],[]⟩) (
  ∃J:Bool→Prop,(
   split ((lu v) !=0) (
    ∀Qh:Bool,Qh=true→
    J Qh) (
    ∀Qh:Bool,Qh=(paX v)→
    J Qh))∧∀(Oi:Nat→Value)(Qh:Bool),J Qh→
  split Qh (
   Q ⟨(.int .i64 6),none,[.ob 3 E,.ob 2 m],[],[]⟩) (
   ∀QU:Bool,QU=(decide ((i64.wrap n:Int)≥(m.I:Int)))→
   split QU (
    Q ⟨(.int .i64 17),none,[.ob 3 E,.ob 2 m],[],[]⟩) (
    E.n=m.S∧
    (0≤s∧s<4294967296)∧
    (0≤(dt v)∧(dt v)<4294967296)∧
    split (((E.on m).eH s (dt v)) !=0) (
     Q ⟨(.int .i64 ((E.on m).eH s (dt v))),none,[.ob 3 E,.ob 2 m],[],[]⟩) (
     E.n=m.S∧
     (0≤(dt v)∧(dt v)<4294967296)∧
     ∀(E1:Pd),E1=((E.on m).put (i64.wrap s) (dt v) (Mp.mk false (i64.wrap n) (paW v) false)).pd→
     Pd.Ok E1→
     ∀(m1:Mem),m1=((E.on m).put (i64.wrap s) (dt v) (Mp.mk false (i64.wrap n) (paW v) false)).mem→
     Mem.Wf m1→
     E1.n=m1.S∧
     (0≤s∧s<4294967296)∧
     (0≤v∧v<4294967296)∧
     ((4:Int)=1∨(4:Int)=2∨(4:Int)=4)∧
     Dg.ay (m1.dgW s)=0∧
     ∀(m2:Mem),m2=(m1.msd kk s 4 v [])→
     Mem.Wf m2→
     Q ⟨(.int .i64 0),none,[.ob 3 E1,.ob 2 m2],[],[]⟩))))
theorem sW:Vc2 Un prog (aR [(102,bW),(108,fN),(109,fD),(110,gE),(112,jm),(105,cu)]) [20,24,31] Tryz.f41 (.r' (.r' (.r' (.two (.two (.r' (.r' (.two (.node [] (some ⟨[(24,(.one .bool))],[],upN 24 7,[]⟩) [] [] .leaf .leaf) .leaf))) .leaf) .leaf)))) [] eU=(∀s v n r (E:Pd) rm (m:Mem) rk (kk:List Int),∀Q,(eU.body s v n r E rm m rk kk Q)→sV s v n r E rm m rk kk Q):=by kernel_rfl
section
attribute [local grind=] DB.fh DB.fZ DB.jg DB.bo DB.bz
theorem sU:LV Un prog 41 eU:=verify Tryz.func41 aa (tb:= [(102,bW),(108,fN),(109,fD),(110,gE),(112,jm),(105,cu)]) ⟨gS,sY,mJ,vz,zA,jl,trivial⟩ (by kernel_rfl) (sW.mpr fun s v n r E rm m rk kk Q h=>by
 obtain⟨NK,Oj,Om,Rh,Qs,h⟩:=h
 exact fun f1 f2=>(by(have QA:i64.wrap s=s:=aq (by omega));(have RZ:i64.wrap n=n:=aq (by omega));rw [QA,RZ];exact aj ‹_› fun s3=>aj ‹_› fun s4=>aj ‹_› fun s5 gv=>allEq<| aB (fun c1=>ao h (aE (by grind)) (ab (uO3 (by(rw [DB.bV,if_neg (by grind)];exact Pd.bk _ _ NK))) (ab (uO2 (by(rw [DB.bV,if_neg (by grind)];(subst_vars;rfl)))) rfl)) rfl) fun c1=>cN ((((lu v):Int) !=0) || (paX v)) (af (fun c2=>allEq<| (by grind)) fun c2=>allEq<| (by grind))<| aZ (fun c3=>ao h (aE (by grind)) (ab (uO3 (by(rw [DB.bV,if_neg (by grind)];exact Pd.bk _ _ NK))) (ab (uO2 (by(rw [DB.bV,if_neg (by grind)];(subst_vars;rfl)))) rfl)) rfl) fun c3=>allEq<| ar (fun c4=>ao h (aE (by grind)) (ab (uO3 (by(rw [DB.bV,if_neg (by grind)];exact Pd.bk _ _ NK))) (ab (uO2 (by(rw [DB.bV,if_neg (by grind)];(subst_vars;rfl)))) rfl)) rfl) fun c4=>aj ‹_› fun s6=>aj ‹_› fun s7=>aj (gV ‹_›) fun s8=>aB (fun c5=>ao h (aE (by grind)) (ab (uO3 (by(rw [DB.bV,if_neg (by grind)];exact Pd.bk _ _ NK))) (ab (uO2 (by(rw [DB.bV,if_neg (by grind)];(subst_vars;rfl)))) rfl)) rfl) fun c5=>aj ‹_› fun s9=>aj (gV ‹_›) fun Td E1 Oc f11 m1 N5 f12=>aj (by(subst_vars;rfl)) fun V9=>aj ‹_› fun XJ=>aj ‹_› fun UA=>aj (by decide) fun VA=>aj (by rw [N5,DB.EC (d:=E.on m) (by omega)];exact Qs (by omega)) fun U5 m2 Pc f18=>ao h (aE (by grind)) (ab (uO3 (by(rw [DB.bV,if_pos (by grind)];subst_vars;exact DB.ep (by simp only [Mem.iD,Mem.bI,Mem.fz])))) (ab (uO2 (by(rw [DB.bV,if_pos (by grind)];subst_vars;rfl))) rfl)) rfl))
end
end
section
set_option maxRecDepth 100000
end
end Go.Proofs.YtinhphjfnedhgaaGreatDoor
namespace Go.Proofs.YtinhphjfnedhgaaGreatDoor
open Go.Proofs.Tryz (prog)
open Go Go.RowKit V
open Go.IntKind (i64 u32 u64)
section
set_option maxRecDepth 10000
set_option maxHeartbeats 1000000
def DB.row(D:DB)(p:Nat):List Value:= [.int .i64 (p:Int),.agg #[.int .i64 (D.ent p).typ,.int .i64 (D.ent p).owner,.int .i64 (D.ent p).refs,.int .i64 (D.ent p).state,.bool (D.ent p).aV]]
def DB.rows(D:DB):List (List Value):=(List.range D.S).map D.row
def gj.XI(L:gj)(g:Nat):Nat→Prop:=fun k=>L.X k∨k=g
theorem DBP.it {L:gj} {D:DB} {w A:World} {g:Nat}(h:DBP w L D)(k:Kept (L.XI g) w A):DBP A L D:=h.ch (Ch.Jy k) fun _ hx hn=>hn (.inl hx)
end
end Go.Proofs.YtinhphjfnedhgaaGreatDoor
namespace Go.Proofs.YtinhphjfnedhgaaGreatDoor
open Go.Proofs.Tryz (prog)
open Go Go.RowKit V
open Go.IntKind (i64 u32 u64)
section
set_option maxRecDepth 100000
set_option maxHeartbeats 1000000
attribute [local irreducible] Vc2 VcD
attribute [local grind=] Pd.dQ Pd.cT Pd.kz Pd.nS Pd.bk Pd.jd Pd.fJ Pd.iI Pd.nH
attribute [local grind .] Pd.Ok.ent
attribute [local grind→] Pd.Ok.er
def xg:Ctr Un:=⟨[.one (.obj 0 0),.agg [.bool,.int .i64],.one (.int .i64)],[],[.ob 0 []],[],fun fa fb off rm m K=>K ⟨(.int .u32 (m.bD fa fb off)),none,[],[],[]⟩⟩
theorem DS:LV Un prog 33 xg:=by
 show ∀(fa:Bool)(fb:Int)(off:Int)(rm:Nat→Nat)(m:Mem),∀Q:Ou Un→Prop,(Q ⟨(.int .u32 (m.bD fa fb off)),none,[],[],[]⟩)→∀(X:Nat→Nat→Prop)(w:World),Sat (U:=Un) [(.ob 0 rm m)] X w→aC (U:=Un) [(.ob 0 rm m)] fr0 []→Calls prog 33 #[(.pointer (some (Addr.mk (rm 0) 0 none))),(.agg #[(.bool fa),(.int .i64 fb)]),(.int .i64 off)] w (aM (U:=Un) [(.ob 0 rm m)] [] X w Q)
 intro fa fb off rm m Q hQ X w hs hl
 obtain⟨L,hg,hM,hX⟩:=lv hs
 rw [hg]
 refine(Mx hM fa fb off).mono ?_
 rintro e w' ⟨u,rfl,rfl,q⟩
 exact aM.pu hs q hQ trivial
def FQ:Ctr Un:=⟨[.one (.obj 0 0)],[],[.ob 0 []],[],fun rm m K=>K ⟨(.int .i64 (m.S:Int)),none,[],[],[]⟩⟩
theorem FP:LV Un prog 54 FQ:=by
 show ∀(rm:Nat→Nat)(m:Mem),∀Q:Ou Un→Prop,(Q ⟨(.int .i64 (m.S:Int)),none,[],[],[]⟩)→∀(X:Nat→Nat→Prop)(w:World),Sat (U:=Un) [(.ob 0 rm m)] X w→aC (U:=Un) [(.ob 0 rm m)] fr0 []→Calls prog 54 #[(.pointer (some (Addr.mk (rm 0) 0 none)))] w (aM (U:=Un) [(.ob 0 rm m)] [] X w Q)
 intro rm m Q hQ X w hs hl
 obtain⟨L,hg,hM,hX⟩:=lv hs
 rw [hg]
 refine(qF hM).mono ?_
 rintro e w' ⟨u,rfl,rfl,q⟩
 subst q
 exact aM.pu hs (Ch.refl _ _) hQ trivial
def jt:Ctr Un:=⟨[.one (.obj 0 0),.agg [.bool,.int .i64],.one (.int .i64),.one (.int .u32)],[],[.ob 0 []],[0],fun fa fb off v rm m K=>(0≤(v:Int)∧(v:Int)<4294967296)∧K ⟨(.int .i64 (m.err fa fb off)),none,[.ob 0 (m.write fa fb off v)],[],[]⟩⟩
theorem tE:LV Un prog 42 jt:=by
 show ∀(fa:Bool)(fb:Int)(off:Int)(v:Int)(rm:Nat→Nat)(m:Mem),∀Q:Ou Un→Prop,((0≤(v:Int)∧(v:Int)<4294967296)∧Q ⟨(.int .i64 (m.err fa fb off)),none,[.ob 0 (m.write fa fb off v)],[],[]⟩)→∀(X:Nat→Nat→Prop)(w:World),Sat (U:=Un) [(.ob 0 rm m)] X w→aC (U:=Un) [(.ob 0 rm m)] fr0 []→Calls prog 42 #[(.pointer (some (Addr.mk (rm 0) 0 none))),(.agg #[(.bool fa),(.int .i64 fb)]),(.int .i64 off),(.int .u32 v)] w (aM (U:=Un) [(.ob 0 rm m)] [0] X w Q)
 intro fa fb off v rm m Q hQ X w hs hl
 obtain⟨NK,hQ⟩:=hQ
 obtain⟨L,hg,hM,hX⟩:=lv hs
 rw [hg]
 refine(Bs hM fa fb off v NK).mono ?_
 rintro e w' ⟨u,rfl,rfl,h2,q⟩
 exact aM.one (Z:=X 0) (q.mono fun k hk=>(hX k).1 hk) (show bJ 0 rm _ (X 0) w' from⟨L,hg,hX,h2⟩) (fun k hk=>.inl hk) hQ trivial
theorem Lo {r rm:Nat→Nat} {E:Pd} {m:Mem}(hl:aC (U:=Un) [.ob 1 r E,.ob 0 rm m] fr0 [(.l 0 1,.p (.obj 1 0 0))]):r 1=rm 0:=by
 obtain⟨t',r',s',Tk,hk⟩:=hl _ _ (List.mem_singleton.2 rfl)
 simp only [nth,Option.some.injEq,Res.ob.injEq]at Tk
 obtain⟨rfl,rfl,_⟩:=Tk
 have hk:some (Value.pointer (some ⟨rm 0,0,none⟩))=some (Value.pointer (some ⟨r 1,0,none⟩)):=hk
 simp only [Option.some.injEq,Value.pointer.injEq,Addr.mk.injEq]at hk
 exact hk.1.symm
def nr:Ctr Un:=⟨[.one (.obj 0 0)],[],[.ob 1 [(1,1,0)],.ob 0 []],[],fun r E rm m K=>K ⟨(.pointer (some (Addr.mk (r 1) 0 none))),(some (.p (.obj 1 0 0))),[],[],[]⟩⟩
def CN(r:Nat→Nat)(E:Pd)(rm:Nat→Nat)(m:Mem)(Q:Ou Un→Prop):Prop:=
 Pd.Ok E→
 Mem.Wf m→
 Q ⟨(.pointer (some (Addr.mk (r 1) 0 none))),(some (.p (.obj 1 0 0))),[],[],[]⟩
theorem CO:Vc2 Un prog (aR []) [] Tryz.f14 .leaf [] nr=(∀r (E:Pd) rm (m:Mem),∀Q,(nr.body r E rm m Q)→CN r E rm m Q):=by kernel_rfl
theorem CM:LV Un prog 14 nr:=verify Tryz.func14 aa (tb:= []) trivial (by kernel_rfl) (CO.mpr fun r E rm m Q h f1 f2=>h)
def br:Ctr Un:=⟨[.one (.obj 0 0)],[],[.ob 1 [(1,1,0)],.ob 0 []],[],fun r E rm m K=>K ⟨(.pointer (some (Addr.mk (rm 0) 0 none))),(some (.p (.obj 1 0 0))),[],[],[]⟩⟩
theorem dq:LV Un prog 14 br:=by
 show ∀(r:Nat→Nat)(E:Pd)(rm:Nat→Nat)(m:Mem),∀Q:Ou Un→Prop,(Q ⟨(.pointer (some (Addr.mk (rm 0) 0 none))),(some (.p (.obj 1 0 0))),[],[],[]⟩)→∀(X:Nat→Nat→Prop)(w:World),Sat (U:=Un) [(.ob 1 r E),(.ob 0 rm m)] X w→aC (U:=Un) [(.ob 1 r E),(.ob 0 rm m)] fr0 [(.l 0 1,.p (.obj 1 0 0))]→Calls prog 14 #[(.pointer (some (Addr.mk (r 0) 0 none)))] w (aM (U:=Un) [(.ob 1 r E),(.ob 0 rm m)] [] X w Q)
 intro r E rm m Q hQ X w hs hl
 exact CM r E rm m Q (show Q ⟨.pointer (some (Addr.mk (r 1) 0 none)),some (.p (.obj 1 0 0)),[],[],[]⟩from(by rw [Lo hl];exact hQ)) X w hs hl
def l5:Ctr Un:=⟨[.one (.obj 0 0)],[],[.ob 1 [(1,1,0)],.ob 0 []],[],fun r E rm m K=>E.n=m.S∧K ⟨(.int .i64 ((E.on m).S:Int)),none,[],[],[]⟩⟩
theorem AK:LV Un prog 120 l5:=by
 show ∀(r:Nat→Nat)(E:Pd)(rm:Nat→Nat)(m:Mem),∀Q:Ou Un→Prop,(E.n=m.S∧Q ⟨(.int .i64 ((E.on m).S:Int)),none,[],[],[]⟩)→∀(X:Nat→Nat→Prop)(w:World),Sat (U:=Un) [(.ob 1 r E),(.ob 0 rm m)] X w→aC (U:=Un) [(.ob 1 r E),(.ob 0 rm m)] fr0 [(.l 0 1,.p (.obj 1 0 0))]→Calls prog 120 #[(.pointer (some (Addr.mk (r 0) 0 none)))] w (aM (U:=Un) [(.ob 1 r E),(.ob 0 rm m)] [] X w Q)
 intro r E rm m Q hQ X w hs hl
 obtain⟨hn,hQ⟩:=hQ
 obtain⟨a,L,hg,hr,hD,QT,Rm⟩:=yq hs hl hn
 refine(Hy hD).mono ?_
 rintro e w' ⟨u,rfl,rfl,rfl⟩
 exact aM.pu hs (Ch.refl _ _) hQ trivial
def dx:Ctr Un:=⟨[.one (.obj 0 0),.one (.int .i64)],[],[.ob 1 [(1,1,0)],.ob 0 []],[],fun p r E rm m K=>E.n=m.S∧K ⟨(.tuple #[(.agg #[(.int .i64 (((E.on m).entry p).typ)),(.int .i64 (((E.on m).entry p).owner)),(.int .i64 (((E.on m).entry p).refs)),(.int .i64 (((E.on m).entry p).state)),(.bool (((E.on m).entry p).aV))]),(.int .i64 ((E.on m).aO p))]),(some (.t [none,none])),[],[],[]⟩⟩
theorem jy:LV Un prog 18 dx:=by
 show ∀(p:Int)(r:Nat→Nat)(E:Pd)(rm:Nat→Nat)(m:Mem),∀Q:Ou Un→Prop,(E.n=m.S∧Q ⟨(.tuple #[(.agg #[(.int .i64 (((E.on m).entry p).typ)),(.int .i64 (((E.on m).entry p).owner)),(.int .i64 (((E.on m).entry p).refs)),(.int .i64 (((E.on m).entry p).state)),(.bool (((E.on m).entry p).aV))]),(.int .i64 ((E.on m).aO p))]),(some (.t [none,none])),[],[],[]⟩)→∀(X:Nat→Nat→Prop)(w:World),Sat (U:=Un) [(.ob 1 r E),(.ob 0 rm m)] X w→aC (U:=Un) [(.ob 1 r E),(.ob 0 rm m)] fr0 [(.l 0 1,.p (.obj 1 0 0))]→Calls prog 18 #[(.pointer (some (Addr.mk (r 0) 0 none))),(.int .i64 p)] w (aM (U:=Un) [(.ob 1 r E),(.ob 0 rm m)] [] X w Q)
 intro p r E rm m Q hQ X w hs hl
 obtain⟨hn,hQ⟩:=hQ
 obtain⟨a,L,hg,hr,hD,QT,Rm⟩:=yq hs hl hn
 refine(LK hD p).mono ?_
 rintro e w' ⟨u,rfl,rfl,q⟩
 exact aM.pu hs q hQ (KnO.tup _ (by simp))
def kW:Ctr Un:=⟨[.one (.obj 0 0),.one (.int .i64),.one (.int .i64)],[],[.ob 1 [(1,1,0)],.ob 0 []],[0,1],fun p q r E rm m K=>E.n=m.S∧K ⟨(.int .i64 ((E.on m).aT p q)),none,[.ob 1 (((E.on m).aS p q).pd),.ob 0 (((E.on m).aS p q).mem)],[],[]⟩⟩
theorem xF:LV Un prog 60 kW:=by
 show ∀(p:Int)(q:Int)(r:Nat→Nat)(E:Pd)(rm:Nat→Nat)(m:Mem),∀Q:Ou Un→Prop,(E.n=m.S∧Q ⟨(.int .i64 ((E.on m).aT p q)),none,[.ob 1 (((E.on m).aS p q).pd),.ob 0 (((E.on m).aS p q).mem)],[],[]⟩)→∀(X:Nat→Nat→Prop)(w:World),Sat (U:=Un) [(.ob 1 r E),(.ob 0 rm m)] X w→aC (U:=Un) [(.ob 1 r E),(.ob 0 rm m)] fr0 [(.l 0 1,.p (.obj 1 0 0))]→Calls prog 60 #[(.pointer (some (Addr.mk (r 0) 0 none))),(.int .i64 p),(.int .i64 q)] w (aM (U:=Un) [(.ob 1 r E),(.ob 0 rm m)] [0,1] X w Q)
 intro p q r E rm m Q hQ X w hs hl
 obtain⟨hn,hQ⟩:=hQ
 obtain⟨a,L,hg,hr,hD,QT,Rm⟩:=yq hs hl hn
 refine(BG hD p q).mono ?_
 rintro e w' ⟨u,rfl,rfl,h2,q⟩
 exact Df hs QT Rm hg hr h2 q hQ trivial
def kV:Ctr Un:=⟨[.one (.obj 0 0),.one (.int .i64),.one (.int .i64),.one (.int .i64)],[],[.ob 1 [(1,1,0)],.ob 0 []],[0,1],fun p t o r E rm m K=>E.n=m.S∧K ⟨(.int .i64 ((E.on m).cZ p t o)),none,[.ob 1 (((E.on m).take p t o).pd),.ob 0 (((E.on m).take p t o).mem)],[],[]⟩⟩
theorem xE:LV Un prog 64 kV:=by
 show ∀(p:Int)(t:Int)(o:Int)(r:Nat→Nat)(E:Pd)(rm:Nat→Nat)(m:Mem),∀Q:Ou Un→Prop,(E.n=m.S∧Q ⟨(.int .i64 ((E.on m).cZ p t o)),none,[.ob 1 (((E.on m).take p t o).pd),.ob 0 (((E.on m).take p t o).mem)],[],[]⟩)→∀(X:Nat→Nat→Prop)(w:World),Sat (U:=Un) [(.ob 1 r E),(.ob 0 rm m)] X w→aC (U:=Un) [(.ob 1 r E),(.ob 0 rm m)] fr0 [(.l 0 1,.p (.obj 1 0 0))]→Calls prog 64 #[(.pointer (some (Addr.mk (r 0) 0 none))),(.int .i64 p),(.int .i64 t),(.int .i64 o)] w (aM (U:=Un) [(.ob 1 r E),(.ob 0 rm m)] [0,1] X w Q)
 intro p t o r E rm m Q hQ X w hs hl
 obtain⟨hn,hQ⟩:=hQ
 obtain⟨a,L,hg,hr,hD,QT,Rm⟩:=yq hs hl hn
 refine(MM hD p t o).mono ?_
 rintro e w' ⟨u,rfl,rfl,h2,q⟩
 exact Df hs QT Rm hg hr h2 q hQ trivial
def xH:Ctr Un:=⟨[.one (.obj 0 0),.one (.int .i64)],[],[.ob 1 [(1,1,0)],.ob 0 []],[0,1],fun p r E rm m K=>E.n=m.S∧K ⟨(.int .i64 ((E.on m).dy p)),none,[.ob 1 (((E.on m).fu p).pd),.ob 0 (((E.on m).fu p).mem)],[],[]⟩⟩
theorem KG:LV Un prog 45 xH:=by
 show ∀(p:Int)(r:Nat→Nat)(E:Pd)(rm:Nat→Nat)(m:Mem),∀Q:Ou Un→Prop,(E.n=m.S∧Q ⟨(.int .i64 ((E.on m).dy p)),none,[.ob 1 (((E.on m).fu p).pd),.ob 0 (((E.on m).fu p).mem)],[],[]⟩)→∀(X:Nat→Nat→Prop)(w:World),Sat (U:=Un) [(.ob 1 r E),(.ob 0 rm m)] X w→aC (U:=Un) [(.ob 1 r E),(.ob 0 rm m)] fr0 [(.l 0 1,.p (.obj 1 0 0))]→Calls prog 45 #[(.pointer (some (Addr.mk (r 0) 0 none))),(.int .i64 p)] w (aM (U:=Un) [(.ob 1 r E),(.ob 0 rm m)] [0,1] X w Q)
 intro p r E rm m Q hQ X w hs hl
 obtain⟨hn,hQ⟩:=hQ
 obtain⟨a,L,hg,hr,hD,QT,Rm⟩:=yq hs hl hn
 refine(MP hD p).mono ?_
 rintro e w' ⟨u,rfl,rfl,h2,q⟩
 exact Df hs QT Rm hg hr h2 q hQ trivial
def l0:Ctr Un:=⟨[.one (.obj 0 0),.one (.int .i64),.one (.int .i64)],[],[.ob 1 [(1,1,0)],.ob 0 []],[0,1],fun p t r E rm m K=>E.n=m.S∧K ⟨(.int .i64 ((E.on m).bN p t)),none,[.ob 1 (((E.on m).setState p t).pd),.ob 0 (((E.on m).setState p t).mem)],[],[]⟩⟩
theorem AH:LV Un prog 43 l0:=by
 show ∀(p:Int)(t:Int)(r:Nat→Nat)(E:Pd)(rm:Nat→Nat)(m:Mem),∀Q:Ou Un→Prop,(E.n=m.S∧Q ⟨(.int .i64 ((E.on m).bN p t)),none,[.ob 1 (((E.on m).setState p t).pd),.ob 0 (((E.on m).setState p t).mem)],[],[]⟩)→∀(X:Nat→Nat→Prop)(w:World),Sat (U:=Un) [(.ob 1 r E),(.ob 0 rm m)] X w→aC (U:=Un) [(.ob 1 r E),(.ob 0 rm m)] fr0 [(.l 0 1,.p (.obj 1 0 0))]→Calls prog 43 #[(.pointer (some (Addr.mk (r 0) 0 none))),(.int .i64 p),(.int .i64 t)] w (aM (U:=Un) [(.ob 1 r E),(.ob 0 rm m)] [0,1] X w Q)
 intro p t r E rm m Q hQ X w hs hl
 obtain⟨hn,hQ⟩:=hQ
 obtain⟨a,L,hg,hr,hD,QT,Rm⟩:=yq hs hl hn
 refine(EH hD p t).mono ?_
 rintro e w' ⟨u,rfl,rfl,h2,q⟩
 exact Df hs QT Rm hg hr h2 q hQ trivial
end
section
set_option maxRecDepth 100000
set_option maxHeartbeats 1000000
attribute [local irreducible] Vc2 VcD
def lK:Ctr Un:=⟨[.one (.sl 0)],[],[.ob 7 []],[],fun rw l K=>fi l∧split (decide (Dg.ay l=0)) (∀(rN:Nat→Nat),K ⟨(.tuple #[(.pointer (some (Addr.mk (rN 0) 0 none))),(.int .i64 0)]),(some (.t [(some (.obj 1 0 0)),none])),[],[(.ob 4 rN (Dg.load l))],[]⟩) (∀(dp:Value),K ⟨(.tuple #[dp,(.int .i64 (Dg.ay l))]),(some (.t [none,none])),[],[],[]⟩)⟩
theorem zt:LV Un prog 70 lK:=by
 show ∀(rw:Nat→Nat)(l:List U32),∀Q:Ou Un→Prop,(fi l∧split (decide (Dg.ay l=0)) (∀(rN:Nat→Nat),Q ⟨(.tuple #[(.pointer (some (Addr.mk (rN 0) 0 none))),(.int .i64 0)]),(some (.t [(some (.obj 1 0 0)),none])),[],[(.ob 4 rN (Dg.load l))],[]⟩) (∀(dp:Value),Q ⟨(.tuple #[dp,(.int .i64 (Dg.ay l))]),(some (.t [none,none])),[],[],[]⟩))→∀(X:Nat→Nat→Prop)(w:World),Sat (U:=Un) [(.ob 7 rw l)] X w→aC (U:=Un) [(.ob 7 rw l)] fr0 []→Calls prog 70 #[(.slice (some (Addr.mk (rw 0) 0 none)) l.length l.length)] w (aM (U:=Un) [(.ob 7 rw l)] [] X w Q)
 intro rw l Q hQ X w hs hl
 obtain⟨hw,hQ⟩:=hQ
 obtain⟨hX,Tj⟩:=(hs.res 0 _ rfl:bJ 7 rw l (X 0) w)
 have hr:Rd w (X 0) (some (Addr.mk (rw 0) 0 none)) l.length l.length l:=C9 hX Tj
 refine(Mj hr hw).mono ?_
 rintro e w' ⟨u,rfl,p,rfl,OZ,q⟩
 by_cases he:Dg.ay l=0
 ·obtain⟨g,L,rfl,hD,UQ⟩:=OZ he
  have hQ:=bL hQ (decide_eq_true he) (fun _=>g)
  rw [he]
  exact aM.rZ (Z:=L.X g) hs q (show RS (U:=Un) (L.X g) w' (.ob 4 (fun _=>g) (Dg.load l))from(⟨L,fun _=>Iff.rfl,hD⟩:bJ 4 (fun _=>g) (Dg.load l) (L.X g) w')) UQ hQ (KnO.pair rfl) (fun _ _ h=>by cases h)
 ·exact aM.pu hs q (bq hQ (decide_eq_false he) (.pointer p)) (KnO.tup _ (by simp))
def lP:Ctr Un:=⟨[],[],[],[],fun K=>K ⟨(.agg ⟨Dg.sv Dg.new⟩),none,[],[],[]⟩⟩
def Im(Q:Ou Un→Prop):Prop:=
 ∀(gv:Nat),
 ∀(s:List U32),s=(W26.n (W26.mk []))→
 ∀(rN:Nat→Nat),
 ∀(s1:Dg),s1=Dg.new→
 s1.Ok∧
 (s.length=26)∧
 ∀(s2:List U32),s2=(Dg.svL s1)→
 (s2.length=26)∧
 Q ⟨(.agg ⟨W26.c (W26.mk s2)⟩),none,[],[],[]⟩
theorem Ip:Vc2 Un prog (aR [(125,BY),(126,kL)]) [] Tryz.f62 .leaf [] lP=(∀Q,(lP.body Q)→Im Q):=by kernel_rfl
theorem Il:LV Un prog 62 lP:=verify Tryz.func62 aa (tb:= [(125,BY),(126,kL)]) ⟨LZ,wV,trivial⟩ (by kernel_rfl) (Ip.mpr fun Q h gv s h_s rN s1 Pt=>aj (by rw [Pt];exact Dg.kA) fun s1=>aj (by rw [h_s];rfl) fun s2 s2 OE=>aj (by rw [OE];rfl) fun s3=>ao h (by rw [OE,Pt];rfl) rfl rfl)
def ib:Ctr Un:=⟨[.agg [.int .i64,.int .u32],.one (.nsl)],[],[],[],fun k a K=>∀(A:Option Addr)(c:Nat),K ⟨(.slice A ([U32.mk (u32.wrap k),U32.mk a].length) c),(some (.p (.sl 0 0))),[],[(.lst 1 true 29 A c ([U32.mk (u32.wrap k),U32.mk a]))],[]⟩⟩
def zS(k:Int)(a:Int)(Q:Ou Un→Prop):Prop:=
 ∀(gv:Nat),
 ∀(NB:Nat),
 ∀(l:List U32),l=([U32.mk (u32.wrap k),U32.mk a]:List U32)→
 (l.length*4≤140737488355328)∧
 ∀(A:Option Addr)(c:Nat),
 ∀(l1:List U32),l1=l→
 Q ⟨(.slice A l.length c),(some (.p (.sl 0 0))),[],[(.lst 1 true 29 A c l1)],[]⟩
theorem zT:Vc2 Un prog (aR []) [] Tryz.f219 .leaf [2] ib=(∀k a,∀Q,(ib.body k a Q)→zS k a Q):=by kernel_rfl
theorem zR:LV Un prog 219 ib:=verify Tryz.func219 aa (tb:= []) trivial (by kernel_rfl) (zT.mpr fun k a Q h gv NB l Rl=>aj (by grind) fun s1 A c l1 PF=>(by(have hl9: [U32.mk (u32.wrap k),U32.mk a]=l1:=by subst_vars;rfl);exact ao (h A c) (by grind) rfl (ab (congrArg (Res.lst (U:=Un) 1 true 29 _ _) ‹_›) rfl)))
def qf:Ctr Un:=⟨[.agg [.int .u32,.sl 0],.one (.nsl)],[],[.lst 1 false 29],[],fun a A0 c0 l K=>l.length≤1024∧∀(A:Option Addr)(c:Nat),K ⟨(.slice A (([U32.mk 3,U32.mk a]++(show List U32 from l)).length) c),(some (.p (.sl 1 0))),[],[(.lst 1 true 29 A c ([U32.mk 3,U32.mk a]++(show List U32 from l)))],[]⟩⟩
def zV(a:Int)(A0:Option Addr)(c0:Nat)(l:List U32)(Q:Ou Un→Prop):Prop:=
 ∀(gv:Nat),
 ∀(NB:Nat),
 ∀(l1:List U32),l1=([U32.mk 3,U32.mk a]:List U32)→
 (l1.length*4≤140737488355328)∧
 ∀(A:Option Addr)(c:Nat),
 ∀(l2:List U32),l2=l1→
 ((l2.length+l.length)*4≤140737488355328)∧
 ∀(A1:Option Addr)(c1:Nat),
 ∀(l3:List U32),l3=(l2++l)→
 Q ⟨(.slice A1 ((l2++l).length) c1),(some (.p (.sl 1 0))),[],[(.lst 1 true 29 A1 c1 l3)],[]⟩
theorem zW:Vc2 Un prog (aR []) [] Tryz.f218 (.r' (.two (.node [] none [] [(2,[1]),(6,[1])] .leaf .leaf) .leaf)) [3] qf=(∀a A0 c0 (l:List U32),∀Q,(l.length≤1024∧∀(A:Option Addr)(c:Nat),Q ⟨(.slice A (([U32.mk 3,U32.mk a]++(show List U32 from l)).length) c),(some (.p (.sl 1 0))),[],[(.lst 1 true 29 A c ([U32.mk 3,U32.mk a]++(show List U32 from l)))],[]⟩)→zV a A0 c0 l Q):=by kernel_rfl
theorem zU:LV Un prog 218 qf:=verify Tryz.func218 aa (tb:= []) trivial (by kernel_rfl) (zW.mpr fun a A0 c0 l Q h=>by
 obtain⟨NK,h⟩:=h
 exact fun gv NB l1 PF=>aj (by subst_vars;simp;try omega) fun s1 A c l2 Pe=>aj (by subst_vars;simp;try omega) fun s2 A1 c1 l3 h_l3=>(by(have hl9: [U32.mk 3,U32.mk a]++l=l3:=by subst_vars;rfl);exact ao (h A1 c1) (by grind) rfl (ab (congrArg (Res.lst (U:=Un) 1 true 29 _ _) ‹_›) rfl)))
def ni:Ctr Un:=⟨[.agg [.int .u32,.hdr],.one (.nsl)],[(0,8)],[.ob 8 []],[],fun a A0 n0 c0 rw x K=>(A0=Wt.A x∧n0=(Wt.l x).length∧c0=Wt.c x)∧(Wt.l x).length≤1024∧∀(A:Option Addr)(c:Nat),K ⟨(.slice A (([U32.mk 3,U32.mk a]++(show List U32 from(Wt.l x))).length) c),(some (.p (.sl 1 0))),[],[(.lst 1 true 29 A c ([U32.mk 3,U32.mk a]++(show List U32 from(Wt.l x))))],[]⟩⟩
theorem Cx:LV Un prog 218 ni:=by
 show ∀(a:Int)(A0:Option Addr)(n0:Nat)(c0:Nat) (rw:Nat→Nat)(x:Wt),∀Q:Ou Un→Prop,((A0=Wt.A x∧n0=(Wt.l x).length∧c0=Wt.c x)∧(Wt.l x).length≤1024∧∀(A:Option Addr)(c:Nat),Q ⟨(.slice A (([U32.mk 3,U32.mk a]++(show List U32 from(Wt.l x))).length) c),(some (.p (.sl 1 0))),[],[(.lst 1 true 29 A c ([U32.mk 3,U32.mk a]++(show List U32 from(Wt.l x))))],[]⟩)→∀(X:Nat→Nat→Prop)(w:World),Sat (U:=Un) [(.ob 8 rw x)] X w→aC (U:=Un) [(.ob 8 rw x)] fr0 []→Calls prog 218 #[(.agg #[(.int .u32 a),(.slice A0 n0 c0)]),(.slice none 0 0)] w (aM (U:=Un) [(.ob 8 rw x)] [] X w Q)
 intro a A0 n0 c0 rw x Q hQ X w hs hl
 obtain⟨⟨rfl,rfl,rfl⟩,hle,hQ⟩:=hQ
 refine(zU a x.A x.c x.l (fun out=>Q out∧∃A c,out=⟨.slice A ([U32.mk 3,U32.mk a]++x.l).length c,some (.p (.sl 1 0)),[],[.lst 1 true 29 A c ([U32.mk 3,U32.mk a]++x.l)],[]⟩) ⟨hle,fun A c=>⟨hQ A c,A,c,rfl⟩⟩ X w (show Sat (U:=Un) [.lst 1 false 29 x.A x.c x.l] X w from Sat.swap (rs:= [.ob 8 rw x]) rfl (yC (x:=x)) hs) (fun _ _ h=>by cases h)).mono fun e w' h=>?_
 refine aM.swap (rs:= [.lst 1 false 29 x.A x.c x.l]) rfl (C3 (x:=x)) (fun out h=>?_) (show aM (U:=Un) [.lst 1 false 29 x.A x.c x.l] [] X w _ e w' from h)
 obtain⟨h,A,c,rfl⟩:=h
 exact⟨h,id,rfl⟩
def kb:Ctr Un:=⟨[.agg [.int .i64,.int .u32,.nsl]],[],[],[],fun k a K=>((k:Int)=1∨(k:Int)=2∨(k:Int)=4)∧K ⟨(.tuple #[(.iface 260 (.agg #[(.int .i64 k),(.int .u32 a)])),(.int .i64 0)]),(some (.t [none,none])),[],[],[]⟩⟩
def FE(k:Int)(a:Int)(Q:Ou Un→Prop):Prop:=
 ∀(gv:Nat),
 ∃J:Bool→Prop,(
  split (k==3) (
   ∀x4:Bool,x4=((((0:Nat):Int):Int)==1024)→
   J x4) (
   ∀x4:Bool,x4=false→
   J x4))∧∀(Oi:Nat→Value)(x4:Bool),J x4→
 split x4 (
  Q ⟨(.tuple #[(.iface 258 (.agg #[(.int .u32 a),(.slice none 0 0)])),(.int .i64 0)]),(some (.t [none,none])),[],[],[]⟩) (
  ∃J1:Bool→Prop,(
   split (decide (k≥1)) (
    split (decide (k<5)) (
     split (k !=3) (
      ∀ON:Bool,ON=((((0:Nat):Int):Int)==0)→
      J1 ON) (
      ∀ON:Bool,ON=false→
      J1 ON)) (
     ∀ON:Bool,ON=false→
     J1 ON)) (
    ∀ON:Bool,ON=false→
    J1 ON))∧∀(OW:Nat→Value)(ON:Bool),J1 ON→
  split ON (
   Q ⟨(.tuple #[(.iface 260 (.agg #[(.int .i64 k),(.int .u32 a)])),(.int .i64 0)]),(some (.t [none,none])),[],[],[]⟩) (
   Q ⟨(.tuple #[.nilIface,(.int .i64 150)]),(some (.t [none,none])),[],[],[]⟩))
theorem FF:Vc2 Un prog (aR []) [4,20] Tryz.f134 (.r' (.two (.two (.two (.node [] (some ⟨[(4,(.one .bool))],[],upN 4 10,[]⟩) [] [] .leaf .leaf) (.r' (.two (.node [] (some ⟨[(20,(.one .bool))],[],upN 20 20,[]⟩) [] [] .leaf .leaf) .leaf))) .leaf) .leaf)) [] kb=(∀k a,∀Q,(kb.body k a Q)→FE k a Q):=by kernel_rfl
theorem FD:LV Un prog 134 kb:=verify Tryz.func134 aa (tb:= []) trivial (by kernel_rfl) (FF.mpr fun k a Q h=>by
 obtain⟨NK,h⟩:=h
 exact fun gv=>cN (((k:Int)==3) && ((((0:Nat):Int):Int)==1024)) (af (fun c1=>allEq<| (by grind)) fun c1=>allEq<| (by grind))<| cE (fun c2=>ao h (congrArg (fun l=>Value.tuple (List.toArray l)) (ab (by grind) (ab rfl rfl))) rfl rfl) fun c2=>cN ((decide ((k:Int)≥1)) && ((decide ((k:Int)<5)) && (((k:Int) !=3) && ((((0:Nat):Int):Int)==0)))) (af (fun c3=>af (fun c4=>af (fun c5=>allEq<| (by grind)) fun c5=>allEq<| (by grind)) fun c4=>allEq<| (by grind)) fun c3=>allEq<| (by grind))<| cE (fun c6=>h) fun c6=>ao h (congrArg (fun l=>Value.tuple (List.toArray l)) (ab (by grind) (ab (aE (by grind)) rfl))) rfl rfl)
def kd:Ctr Un:=⟨[.agg [.int .i64,.int .u32,.hdr]],[],[],[],fun k a A0 n0 c0 K=>(k:Int)=3∧n0=1024∧K ⟨(.tuple #[(.iface 258 (.agg #[(.int .u32 a),(.slice A0 n0 c0)])),(.int .i64 0)]),(some (.t [none,none])),[],[],[]⟩⟩
def FH(k:Int)(a:Int)(A0:Option Addr)(n0:Nat)(c0:Nat)(Q:Ou Un→Prop):Prop:=
 ∀(gv:Nat),
 ∃J:Bool→Prop,(
  split (k==3) (
   ∀x4:Bool,x4=((((n0:Nat):Int):Int)==1024)→
   J x4) (
   ∀x4:Bool,x4=false→
   J x4))∧∀(Oi:Nat→Value)(x4:Bool),J x4→
 split x4 (
  Q ⟨(.tuple #[(.iface 258 (.agg #[(.int .u32 a),(.slice A0 n0 c0)])),(.int .i64 0)]),(some (.t [none,none])),[],[],[]⟩) (
  ∃J1:Bool→Prop,(
   split (decide (k≥1)) (
    split (decide (k<5)) (
     split (k !=3) (
      ∀ON:Bool,ON=((((n0:Nat):Int):Int)==0)→
      J1 ON) (
      ∀ON:Bool,ON=false→
      J1 ON)) (
     ∀ON:Bool,ON=false→
     J1 ON)) (
    ∀ON:Bool,ON=false→
    J1 ON))∧∀(OW:Nat→Value)(ON:Bool),J1 ON→
  split ON (
   Q ⟨(.tuple #[(.iface 260 (.agg #[(.int .i64 k),(.int .u32 a)])),(.int .i64 0)]),(some (.t [none,none])),[],[],[]⟩) (
   Q ⟨(.tuple #[.nilIface,(.int .i64 150)]),(some (.t [none,none])),[],[],[]⟩))
theorem FI:Vc2 Un prog (aR []) [4,20] Tryz.f134 (.r' (.two (.two (.two (.node [] (some ⟨[(4,(.one .bool))],[],upN 4 10,[]⟩) [] [] .leaf .leaf) (.r' (.two (.node [] (some ⟨[(20,(.one .bool))],[],upN 20 20,[]⟩) [] [] .leaf .leaf) .leaf))) .leaf) .leaf)) [] kd=(∀k a A0 n0 c0,∀Q,(kd.body k a A0 n0 c0 Q)→FH k a A0 n0 c0 Q):=by kernel_rfl
theorem FG:LV Un prog 134 kd:=verify Tryz.func134 aa (tb:= []) trivial (by kernel_rfl) (FI.mpr fun k a A0 n0 c0 Q h=>by
 obtain⟨NK,Oj,h⟩:=h
 exact fun gv=>cN (((k:Int)==3) && ((((n0:Nat):Int):Int)==1024)) (af (fun c1=>allEq<| (by grind)) fun c1=>allEq<| (by grind))<| cE (fun c2=>h) fun c2=>cN ((decide ((k:Int)≥1)) && ((decide ((k:Int)<5)) && (((k:Int) !=3) && ((((n0:Nat):Int):Int)==0)))) (af (fun c3=>af (fun c4=>af (fun c5=>allEq<| (by grind)) fun c5=>allEq<| (by grind)) fun c4=>allEq<| (by grind)) fun c3=>allEq<| (by grind))<| cE (fun c6=>ao h (congrArg (fun l=>Value.tuple (List.toArray l)) (ab (by grind) (ab rfl rfl))) rfl rfl) fun c6=>ao h (congrArg (fun l=>Value.tuple (List.toArray l)) (ab (by grind) (ab (aE (by grind)) rfl))) rfl rfl)
def js:Ctr Un:=⟨[.enc 8,.agg [.int .i64,.int .u32,.nsl]],[(0,5)],[.ob 5 []],[],fun f k a rk kk K=>W26.Ok f∧(0≤(a:Int)∧(a:Int)<4294967296)∧((k:Int)=1∨(k:Int)=2∨(k:Int)=4)∧split (decide ((Dg.ay (W26.n f))=0)) (K ⟨(.tuple #[(.agg ⟨Dg.sv ((Dg.load (W26.n f)).add kk (opW k a []))⟩),(.int .i64 0)]),(some (.t [none,none])),[],[],[]⟩) (K ⟨(.tuple #[(.agg ⟨W26.c (W26.mk [])⟩),(.int .i64 (Dg.ay (W26.n f)))]),(some (.t [none,none])),[],[],[]⟩)⟩
def CC(f:W26)(k:Int)(a:Int)(rk:Nat→Nat)(kk:List Int)(Q:Ou Un→Prop):Prop:=
 ∀(gv:Nat),
 ∀(s:List U32),s=(W26.n f)→
 ∀(NB:Nat),
 ∀(NZ:Nat),
 ∀(s1:List U32),s1=(W26.n (W26.mk []))→
 (k=1∨k=2∨k=4)∧
 ((s.length=26∧s.length=26)∧0<26)∧
 fi s∧
 split (decide (Dg.ay s=0)) (
  ∀(rN:Nat→Nat),
  ∀(s2:Dg),s2=(Dg.load s)→
  ∀(A:Option Addr)(c:Nat),
  ∀(l:List U32),l= [U32.mk (u32.wrap k),U32.mk a]→
  s2.Ok∧
  l.length≤1099511627776∧
  ∀(s3:Dg),s3=(s2.add kk l)→
  s3.Ok∧
  (s1.length=26)∧
  ∀(s4:List U32),s4=(Dg.svL s3)→
  (s4.length=26)∧
  Q ⟨(.tuple #[(.agg ⟨W26.c (W26.mk s4)⟩),(.int .i64 0)]),(some (.t [none,none])),[],[],[]⟩) (
  ∀(dp:Value),
  split ((Dg.ay s) !=0) (
   (s1.length=26)∧
   ∀(s2:List U32),s2=(W26.n (W26.mk []))→
   (s2.length=26)∧
   Q ⟨(.tuple #[(.agg ⟨W26.c (W26.mk s2)⟩),(.int .i64 (Dg.ay s))]),(some (.t [none,none])),[],[],[]⟩) (
   ∀(A:Option Addr)(c:Nat),
   ∀(l:List U32),l= [U32.mk (u32.wrap k),U32.mk a]→
   False))
theorem CD:Vc2 Un prog (aR [(134,kb),(70,lK),(219,ib),(135,sF),(126,kL)]) [] Tryz.f68 .leaf [] js=(∀(f:W26) k a rk (kk:List Int),∀Q,(js.body f k a rk kk Q)→CC f k a rk kk Q):=by kernel_rfl
theorem CB:LV Un prog 68 js:=verify Tryz.func68 aa (tb:= [(134,kb),(70,lK),(219,ib),(135,sF),(126,kL)]) ⟨FD,zt,zR,Ia,wV,trivial⟩ (by kernel_rfl) (CD.mpr fun f k a rk kk Q h=>by
 obtain⟨NK,Oj,Om,h⟩:=h
 exact fun gv s h_s NB NZ s1 Pt=>aj ‹_› fun e1=>aj (by subst_vars;exact⟨⟨rfl,rfl⟩,by omega⟩) fun e2=>aj (by subst_vars;assumption) fun e3=>ar (fun c1 rN s2 OE A c l Rl=>aj (by subst_vars;exact(Dg.fe NK (by simpa using c1)).1) fun e4=>aj (by grind) fun e5 s3 PE=>aj (by subst_vars;exact Dg.sy (Dg.fe NK (by simpa using c1)).1 (AW Oj Om)) fun e6=>aj (by subst_vars;rfl) fun e7 s4 S9=>aj (by subst_vars;rfl) fun e8=>ao (bL h (by grind)) (by subst_vars;rw [Er Om];rfl) rfl rfl) fun c1 dp=>aB (fun c2=>aj (by subst_vars;rfl) fun e9 s2 OE=>aj (by grind) fun e10=>ao (bq h (by grind)) (by subst_vars;rfl) rfl rfl) fun c2 A c l Rl=>(by exfalso;omega))
def nj:Ctr Un:=⟨[.enc 8,.agg [.int .i64,.int .u32,.hdr]],[(0,8),(1,5)],[.ob 8 [],.ob 5 []],[],fun f k a A0 n0 c0 rw x rk kk K=>W26.Ok f∧(0≤(a:Int)∧(a:Int)<4294967296)∧(k:Int)=3∧(A0=Wt.A x∧n0=(Wt.l x).length∧c0=Wt.c x)∧(Wt.l x).length=1024∧fi (Wt.l x)∧split (decide ((Dg.ay (W26.n f))=0)) (K ⟨(.tuple #[(.agg ⟨Dg.sv ((Dg.load (W26.n f)).add kk (opW k a (Wt.l x)))⟩),(.int .i64 0)]),(some (.t [none,none])),[],[],[]⟩) (K ⟨(.tuple #[(.agg ⟨W26.c (W26.mk [])⟩),(.int .i64 (Dg.ay (W26.n f)))]),(some (.t [none,none])),[],[],[]⟩)⟩
def Cz(f:W26)(k:Int)(a:Int)(A0:Option Addr)(n0:Nat)(c0:Nat) (rw:Nat→Nat)(x:Wt)(rk:Nat→Nat)(kk:List Int)(Q:Ou Un→Prop):Prop:=
 ∀(gv:Nat),
 ∀(s:List U32),s=(W26.n f)→
 ∀(NB:Nat),
 ∀(NZ:Nat),
 ∀(s1:List U32),s1=(W26.n (W26.mk []))→
 k=3∧
 n0=1024∧
 ((s.length=26∧s.length=26)∧0<26)∧
 fi s∧
 split (decide (Dg.ay s=0)) (
  ∀(rN:Nat→Nat),
  ∀(s2:Dg),s2=(Dg.load s)→
  (A0=Wt.A x∧n0=(Wt.l x).length∧c0=Wt.c x)∧
  (Wt.l x).length≤1024∧
  ∀(A:Option Addr)(c:Nat),
  ∀(l:List U32),l=([U32.mk 3,U32.mk a]++(show List U32 from(Wt.l x)))→
  s2.Ok∧
  l.length≤1099511627776∧
  ∀(s3:Dg),s3=(s2.add kk l)→
  s3.Ok∧
  (s1.length=26)∧
  ∀(s4:List U32),s4=(Dg.svL s3)→
  (s4.length=26)∧
  Q ⟨(.tuple #[(.agg ⟨W26.c (W26.mk s4)⟩),(.int .i64 0)]),(some (.t [none,none])),[],[],[]⟩) (
  ∀(dp:Value),
  split ((Dg.ay s) !=0) (
   (s1.length=26)∧
   ∀(s2:List U32),s2=(W26.n (W26.mk []))→
   (s2.length=26)∧
   Q ⟨(.tuple #[(.agg ⟨W26.c (W26.mk s2)⟩),(.int .i64 (Dg.ay s))]),(some (.t [none,none])),[],[],[]⟩) (
   (A0=Wt.A x∧n0=(Wt.l x).length∧c0=Wt.c x)∧
   (Wt.l x).length≤1024∧
   ∀(A:Option Addr)(c:Nat),
   ∀(l:List U32),l=([U32.mk 3,U32.mk a]++(show List U32 from(Wt.l x)))→
   False))
theorem CA:Vc2 Un prog (aR [(134,kd),(70,lK),(218,ni),(135,sF),(126,kL)]) [] Tryz.f68 .leaf [] nj=(∀(f:W26) k a A0 n0 c0 rw (x:Wt) rk (kk:List Int),∀Q,(nj.body f k a A0 n0 c0 rw x rk kk Q)→Cz f k a A0 n0 c0 rw x rk kk Q):=by kernel_rfl
theorem Cy:LV Un prog 68 nj:=verify Tryz.func68 aa (tb:= [(134,kd),(70,lK),(218,ni),(135,sF),(126,kL)]) ⟨FG,zt,Cx,Ia,wV,trivial⟩ (by kernel_rfl) (CA.mpr fun f k a A0 n0 c0 rw x rk kk Q h=>by
 obtain⟨NK,Oj,Om,Rh,Qs,hp5,h⟩:=h
 exact fun gv s h_s NB NZ s1 Pt=>aj ‹_› fun e1=>aj (by omega) fun e2=>aj (by subst_vars;exact⟨⟨rfl,rfl⟩,by omega⟩) fun e3=>aj (by subst_vars;assumption) fun e4=>ar (fun c1 rN s2 OE=>aj ‹_› fun e5=>aj (by omega) fun e6 A c l Rl=>aj (by subst_vars;exact(Dg.fe NK (by simpa using c1)).1) fun e7=>aj (by grind) fun e8 s3 PE=>aj (by subst_vars;exact Dg.sy (Dg.fe NK (by simpa using c1)).1 (DX Oj hp5)) fun e9=>aj (by subst_vars;rfl) fun e10 s4 S9=>aj (by subst_vars;rfl) fun e11=>ao (bL h (by grind)) (by subst_vars;rfl) rfl rfl) fun c1 dp=>aB (fun c2=>aj (by subst_vars;rfl) fun e12 s2 OE=>aj (by grind) fun e13=>ao (bq h (by grind)) (by subst_vars;rfl) rfl rfl) fun c2=>aj ‹_› fun e14=>aj (by omega) fun e15 A c l Rl=>(by exfalso;omega))
def nk:Ctr Un:=⟨[.enc 8,.agg [.int .i64,.int .u32,.sl 0]],[(1,5)],[.lst 1 false 29,.ob 5 []],[],fun f k a A0 c0 l rk kk K=>W26.Ok f∧(0≤(a:Int)∧(a:Int)<4294967296)∧(k:Int)=3∧l.length=1024∧fi l∧split (decide ((Dg.ay (W26.n f))=0)) (K ⟨(.tuple #[(.agg ⟨Dg.sv ((Dg.load (W26.n f)).add kk (opW k a l))⟩),(.int .i64 0)]),(some (.t [none,none])),[],[],[]⟩) (K ⟨(.tuple #[(.agg ⟨W26.c (W26.mk [])⟩),(.int .i64 (Dg.ay (W26.n f)))]),(some (.t [none,none])),[],[],[]⟩)⟩
theorem CE:LV Un prog 68 nk:=by
 show ∀(f:W26)(k:Int)(a:Int)(A0:Option Addr)(c0:Nat)(l:List U32)(rk:Nat→Nat)(kk:List Int),∀Q:Ou Un→Prop,(W26.Ok f∧(0≤(a:Int)∧(a:Int)<4294967296)∧(k:Int)=3∧l.length=1024∧fi l∧split (decide ((Dg.ay (W26.n f))=0)) (Q ⟨(.tuple #[(.agg ⟨Dg.sv ((Dg.load (W26.n f)).add kk (opW k a l))⟩),(.int .i64 0)]),(some (.t [none,none])),[],[],[]⟩) (Q ⟨(.tuple #[(.agg ⟨W26.c (W26.mk [])⟩),(.int .i64 (Dg.ay (W26.n f)))]),(some (.t [none,none])),[],[],[]⟩))→∀(X:Nat→Nat→Prop)(w:World),Sat (U:=Un) [(.lst 1 false 29 A0 c0 l),(.ob 5 rk kk)] X w→aC (U:=Un) [(.lst 1 false 29 A0 c0 l),(.ob 5 rk kk)] fr0 []→Calls prog 68 #[(.agg ⟨W26.c f⟩),(.agg #[(.int .i64 k),(.int .u32 a),(.slice A0 l.length c0)])] w (aM (U:=Un) [(.lst 1 false 29 A0 c0 l),(.ob 5 rk kk)] [] X w Q)
 intro f k a A0 c0 l rk kk Q hQ X w hs hl
 obtain⟨h1,h2,h3,h4,h5,hQ⟩:=hQ
 refine(Cy f k a A0 l.length c0 (fun _=>0) ⟨A0,c0,l⟩ rk kk (fun out=>Q out∧out.kr=some (.t [none,none])∧(∃a b,out.res= .tuple #[a,b])∧out.kc= []) ⟨h1,h2,h3,⟨rfl,rfl,rfl⟩,h4,h5,?_⟩ X w (show Sat (U:=Un) [.ob 8 (fun _=>0) (⟨A0,c0,l⟩:Wt),.ob 5 rk kk] X w from Sat.swap (rs:= [.lst 1 false 29 A0 c0 l,.ob 5 rk kk]) rfl (C3 (x:=⟨A0,c0,l⟩)) hs) (fun _ _ h=>by cases h)).mono fun e w' h=>?_
 ·rcases fV hQ with⟨hb,hQ⟩ | ⟨hb,hQ⟩
  ·exact af (fun _=>⟨hQ,rfl,⟨_,_,rfl⟩,rfl⟩) (fun h=>by rw [hb]at h;cases h)
  ·exact af (fun h=>by rw [hb]at h;cases h) (fun _=>⟨hQ,rfl,⟨_,_,rfl⟩,rfl⟩)
 refine aM.swap (rs:= [.ob 8 (fun _=>0) (⟨A0,c0,l⟩:Wt),.ob 5 rk kk]) rfl (yC (x:=⟨A0,c0,l⟩)) (fun out h=>?_) (show aM (U:=Un) [.ob 8 (fun _=>0) (⟨A0,c0,l⟩:Wt),.ob 5 rk kk] [] X w _ e w' from h)
 obtain⟨h,hk,⟨a',b',hv⟩,hc⟩:=h
 exact⟨h,fun _=>by rw [hk,hv];exact KnO.tup _ (by simp),hc⟩
end
section
set_option maxRecDepth 100000
def zY(ca:Option Addr)(cb:Int)(cc:Int)(R:aD)(w:World):Prop:=
 ∀(gv:Nat)(wv:World),gv=w.heap.size→wv=w.alloc (.cells #[(.pointer ca),(.int .i64 cb),(.int .i64 cc)] 254)→
 ∃x7:Option Addr,wv.cell? ((Addr.mk gv 0 none).add 0)=some (.pointer x7)∧
 ∃x9:Int,wv.cell? ((Addr.mk gv 0 none).add 1)=some (.int .i64 x9)∧
 ∃OX:Int,wv.cell? ((Addr.mk gv 0 none).add 2)=some (.int .i64 OX)∧
 Calls prog 92 #[(.pointer x7),(.agg #[(.bool true),(.int .i64 x9)]),(.int .i64 OX)] wv fun e Nw=>
 ∃Pf:Int,∃Pq:Int,e= .returned (.tuple #[(.int .u32 Pf),(.int .i64 Pq)])∧
 R (.int .u32 Pf) Nw
def Is:Ann:= .leaf
theorem PRead_eq(ca:Option Addr)(cb:Int)(cc:Int)(R:aD)(w:World):zY ca cb cc R w=vcF prog aK [] Tryz.f172 Is [(.agg #[(.pointer ca),(.int .i64 cb),(.int .i64 cc)])] R none w:=by kernel_rfl
theorem zZ(ca:Option Addr)(cb:Int)(cc:Int) {R:aD} {w:World}(h:zY ca cb cc R w):Calls prog 172 #[(.agg #[(.pointer ca),(.int .i64 cb),(.int .i64 cc)])] w fun e w'=>∃v,e= .returned v∧R v w':=
 ak Tryz.func172 aw aa ((PRead_eq ca cb cc R w).mp h)
def DQ(ca:Option Addr)(cb:Int)(cc:Int)(wv:Int)(R:aD)(w:World):Prop:=
 ∀(gv:Nat)(Nw:World),gv=w.heap.size→Nw=w.alloc (.cells #[(.pointer ca),(.int .i64 cb),(.int .i64 cc)] 254)→
 ∃x5:Option Addr,Nw.cell? ((Addr.mk gv 0 none).add 0)=some (.pointer x5)∧
 ∃x7:Int,Nw.cell? ((Addr.mk gv 0 none).add 1)=some (.int .i64 x7)∧
 ∃OH:Int,Nw.cell? ((Addr.mk gv 0 none).add 2)=some (.int .i64 OH)∧
 Calls prog 42 #[(.pointer x5),(.agg #[(.bool true),(.int .i64 x7)]),(.int .i64 OH),(.int .u32 wv)] Nw fun e Ny=>
 ∃OX:Int,e= .returned (.int .i64 OX)∧
 R (.tuple #[]) Ny
def Ko:Ann:= .leaf
theorem PLay_eq(ca:Option Addr)(cb:Int)(cc:Int)(wv:Int)(R:aD)(w:World):DQ ca cb cc wv R w=vcF prog aK [] Tryz.f173 Ko [(.agg #[(.pointer ca),(.int .i64 cb),(.int .i64 cc)]),(.int .u32 wv)] R none w:=by kernel_rfl
theorem CF(ca:Option Addr)(cb:Int)(cc:Int)(wv:Int) {R:aD} {w:World}(h:DQ ca cb cc wv R w):Calls prog 173 #[(.agg #[(.pointer ca),(.int .i64 cb),(.int .i64 cc)]),(.int .u32 wv)] w fun e w'=>∃v,e= .returned v∧R v w':=
 ak Tryz.func173 aw aa ((PLay_eq ca cb cc wv R w).mp h)
end
end Go.Proofs.YtinhphjfnedhgaaGreatDoor
namespace Go.Proofs.YtinhphjfnedhgaaGreatDoor
open Go.Proofs.Tryz (prog)
open Go Go.RowKit V
open Go.IntKind (i64 u32 u64)
section
section
variable {w:World} {L:eW} {m:Mem}
theorem Mr(h:cv w L m)(p o:Int):
 Calls prog 172 #[.agg #[ptr L.g,.int .i64 p,.int .i64 o]] w fun e w'=>∃v,e= .returned v∧v= .int .u32 (m.bD true p o)∧cv w' L m∧Ch L.X w w':=by
 refine zZ _ p o ?_
 intro g1 w1 hg hw
 have hM:=made hg hw
 refine⟨_,hM.blk.at rfl,_,hM.blk.at rfl,_,hM.blk.at rfl,(KR (h.pu hM.pu) true p o).mono ?_⟩
 rintro e w2 ⟨_,rfl,rfl,h2,q⟩
 rw [Mem.KK]at h2
 exact⟨_,_,rfl,rfl,h2,((Ch.refl _ w).made hM).trans q⟩
theorem Nd(h:cv w L m)(p o v:Int)(hv:0≤v∧v<4294967296):
 Calls prog 173 #[.agg #[ptr L.g,.int .i64 p,.int .i64 o],.int .u32 v] w fun e w'=>∃u,e= .returned u∧u= .tuple #[]∧cv w' L (m.write true p o v)∧Ch L.X w w':=by
 refine CF _ p o v ?_
 intro g1 w1 hg hw
 have hM:=made hg hw
 refine⟨_,hM.blk.at rfl,_,hM.blk.at rfl,_,hM.blk.at rfl,(Bs (h.pu hM.pu) true p o v hv).mono ?_⟩
 rintro e w2 ⟨_,rfl,rfl,h2,q⟩
 exact⟨_,rfl,rfl,h2,((Ch.refl _ w).made hM).trans q⟩
end
end
end Go.Proofs.YtinhphjfnedhgaaGreatDoor
